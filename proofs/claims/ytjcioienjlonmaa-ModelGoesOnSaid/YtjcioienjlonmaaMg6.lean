import Derived.Test.YtjcioienjlonmaaMg5
set_option linter.unusedVariables false
set_option linter.unusedSimpArgs false
namespace Go.AL
open Go Go.RowKit
section
variable {P:Program} {γ:Nat→Option AV}
theorem AWPr.step {n:Nat} {c:Code} {Q:Exit→St→Prop} {A A':St} (hs:Step γ A A') (h:AWPr P γ n c Q A'):AWPr P γ n c Q A:=fun B S ρ a w h0=>by
 obtain ⟨S',ρ',h1,h2⟩:=hs B S ρ a w h0
 exact wp_mono (h B S' ρ' a w h1) fun e a' w' ⟨S'',ρ'',A'',q1,q2,q3⟩=>⟨S'',ρ'',A'',q1,q2,h2.takeL.transR q3⟩
theorem AWPl.step {n:Nat} {l:List Code} {Q:Exit→St→Prop} {A A':St} (hs:Step γ A A') (hl:l.isEmpty=false) (h:AWPl P γ n l Q A'):AWPl P γ n l Q A:=by
 cases l with
 | nil=>cases hl
 | cons c r=>exact AWPr.step hs h
section
variable {C:EC} {CQ:List Blk→QC} {T:Nat→TI} {D:Array Oper→(St→Prop)→St→Prop} {W:Code→(Exit→St→Prop)→St→Prop}
theorem Env.at (E:Env P γ C CQ T D W) {n:Nat} {l:List Code} {Q:Exit→St→Prop} {A:St} (k:Nat)
  (h:∀ I:St→Prop,(∀ {A'},AWPl P γ n (l.drop k) Q A'→I A')→vcl T γ C D W (l.take k) (thenE I Q) A):AWPl P γ n l Q A:=by
 rw [←List.take_append_drop k l]
 exact AWPl.app ((E.bl (h (fun A'=>AWPl P γ n (l.drop k) Q A') fun hl=>hl)).mono fun e A' h=>by cases e<;>exact h)
end
theorem Step.heap {A:St} {h':List Blk} (hr:∀ B S ρ w,HeapR B S γ ρ A.h w→∃ S' ρ',HeapR B S' γ ρ' h' w∧Ext B S ρ w S' ρ' w):Step γ A ⟨A.n,A.s,h'⟩:=fun B S ρ a w hs=>by
 obtain ⟨S',ρ',h1,h2⟩:=hr B S ρ w hs.heap
 exact ⟨S',ρ',hs.ext h2 h1,h2⟩
theorem HeapR.adopt {B:Nat} {S:Nat→Prop} {ρ:List Loc} {h:List Blk} {w:World} (hh:HeapR B S γ ρ h w) (loc:Loc) (blk:Blk) (hsub:loc.sub=[])
  (hk:∀ K,loc.k=some K→¬ S K∧K<w.heap.size∧B≤K∧∀ (b:Nat) (l:Loc),ρ[b]?=some l→¬ l.has K) (hb:BlkR S w (ρ++[loc]) loc blk) :
  HeapR B S γ (ρ++[loc]) (h++[blk]) w∧Ext B S ρ w S (ρ++[loc]) w:=by
 have hup:=LocsUp.append ρ [loc]
 have key:∀ (b:Nat) (lc:Loc),(ρ++[loc])[b]?=some lc→(b<ρ.length∧ρ[b]?=some lc)∨(b=ρ.length∧lc=loc):=by
  intro b lc h1
  by_cases hlt:b<ρ.length
  ·rw [List.getElem?_append_left hlt] at h1;exact .inl ⟨hlt,h1⟩
  ·rw [List.getElem?_append_right (by omega)] at h1
   have e1:b-ρ.length=0:=by
    have:=(List.getElem?_eq_some_iff.1 h1).1;simp at this;omega
   rw [e1] at h1;simp at h1;exact .inr ⟨by omega,h1.symm⟩
 refine ⟨⟨by simp [hh.len],fun b bk lc h1 h2=>?_,fun b lc K h1 h2=>?_,fun b b' lc lc' K h1 h2 h3 h4=>?_,hh.sle,hh.gok,hh.bsz,fun b lc h1=>?_⟩,Fr.refl w,fun _ _=>rfl,fun _ h=>h,fun _ _=>rfl,hup,fun _ h=>.inl h⟩
 ·rcases key b lc h2 with ⟨a1,a2⟩ | ⟨a1,rfl⟩
  ·rw [List.getElem?_append_left (by rw [←hh.len];exact a1)] at h1
   exact (hh.blk b bk lc h1 a2).mono (fun _ h=>h) (fun _ _=>rfl) hup fun _ _=>rfl
  ·rw [a1,hh.len] at h1
   simp at h1;subst h1;exact hb
 ·rcases key b lc h1 with ⟨a1,a2⟩ | ⟨a1,rfl⟩
  ·exact hh.own b lc K a2 h2
  ·obtain ⟨k1,k2,k3,_⟩:=hk K (Loc.has_nil hsub h2)
   exact ⟨k1,k2,k3⟩
 ·rcases key b lc h1 with ⟨a1,a2⟩ | ⟨a1,rfl⟩
  ·rcases key b' lc' h2 with ⟨c1,c2⟩ | ⟨c1,rfl⟩
   ·exact hh.inj b b' lc lc' K a2 c2 h3 h4
   ·exact absurd h3 ((hk K (Loc.has_nil hsub h4)).2.2.2 b lc a2)
  ·rcases key b' lc' h2 with ⟨c1,c2⟩ | ⟨c1,rfl⟩
   ·exact absurd h4 ((hk K (Loc.has_nil hsub h3)).2.2.2 b' lc' c2)
   ·omega
 ·rcases key b lc h1 with ⟨a1,a2⟩ | ⟨a1,rfl⟩
  ·exact hh.sok b lc a2
  ·exact .nil hsub
theorem HeapR.move {B:Nat} {S:Nat→Prop} {ρ:List Loc} {h:List Blk} {w:World} (hh:HeapR B S γ ρ h w) {b b2:Nat} {loc loc2 loc' loc2':Loc} {blk':Blk} (hne:b≠b2) (hb:ρ[b]?=some loc) (hb2:ρ[b2]?=some loc2)
  (hup:loc.up loc') (hup2:loc2.up loc2') (hk:∀ K,loc'.has K→loc.has K∨loc2.has K) (hk2:∀ K,¬ loc2'.has K) (hsok:loc'.SubOk) (hsub2:loc2'.sub=[])
  (hblk:BlkR S w ((ρ.set b loc').set b2 loc2') loc' blk'):HeapR B S γ ((ρ.set b loc').set b2 loc2') ((h.set b blk').set b2 .any) w∧Ext B S ρ w S ((ρ.set b loc').set b2 loc2') w:=by
 have hblt:b<ρ.length:=(List.getElem?_eq_some_iff.1 hb).1
 have hblt2:b2<ρ.length:=(List.getElem?_eq_some_iff.1 hb2).1
 have key:∀ (i:Nat) (l:Loc),((ρ.set b loc').set b2 loc2')[i]?=some l→(i=b∧l=loc')∨(i=b2∧l=loc2')∨(i≠b∧i≠b2∧ρ[i]?=some l):=by
  intro i l hl
  by_cases e2:b2=i
  ·subst e2;simp [hblt2] at hl;exact .inr (.inl ⟨rfl,hl.symm⟩)
  ·rw [List.getElem?_set_ne e2] at hl
   by_cases e:b=i
   ·subst e;simp [hblt] at hl;exact .inl ⟨rfl,hl.symm⟩
   ·rw [List.getElem?_set_ne e] at hl;exact .inr (.inr ⟨fun h=>e h.symm,fun h=>e2 h.symm,hl⟩)
 have hlocs:LocsUp ρ ((ρ.set b loc').set b2 loc2'):=by
  intro i l hl
  by_cases e2:b2=i
  ·subst e2;rw [hb2] at hl;cases hl
   exact ⟨loc2',by simp [hblt2],hup2⟩
  ·by_cases e:b=i
   ·subst e;rw [hb] at hl;cases hl
    exact ⟨loc',by rw [List.getElem?_set_ne e2];simp [hblt],hup⟩
   ·exact ⟨l,by rw [List.getElem?_set_ne e2,List.getElem?_set_ne e];exact hl,l.up_refl⟩
 refine ⟨⟨by simp [hh.len],fun i bk l h1 h2=>?_,fun i l K h1 h2=>?_,fun i j l l' K h1 h2 h3 h4=>?_,hh.sle,hh.gok,hh.bsz,fun i l h1=>?_⟩,Fr.refl w,fun _ _=>rfl,fun _ h=>h,fun _ _=>rfl,hlocs,fun _ h=>.inl h⟩
 ·rcases key i l h2 with ⟨rfl,rfl⟩ | ⟨rfl,rfl⟩ | ⟨n1,n2,h2⟩
  ·rw [List.getElem?_set_ne (fun e=>hne e.symm)] at h1
   have:i<h.length:=by rw [←hh.len];exact hblt
   simp [this] at h1;subst h1;exact hblk
  ·have:i<(h.set b blk').length:=by rw [List.length_set,←hh.len];exact hblt2
   rw [List.getElem?_set_self this] at h1;cases h1;trivial
  ·rw [List.getElem?_set_ne (fun e=>n2 e.symm),List.getElem?_set_ne (fun e=>n1 e.symm)] at h1
   exact (hh.blk i bk l h1 h2).mono (fun _ h=>h) (fun _ _=>rfl) hlocs fun _ _=>rfl
 ·rcases key i l h1 with ⟨rfl,rfl⟩ | ⟨rfl,rfl⟩ | ⟨n1,n2,h1⟩
  ·rcases hk K h2 with e | e
   ·exact hh.own i loc K hb e
   ·exact hh.own b2 loc2 K hb2 e
  ·exact absurd h2 (hk2 K)
  ·exact hh.own i l K h1 h2
 ·have none2:∀ (i:Nat) (l:Loc),i≠b→i≠b2→ρ[i]?=some l→l.has K→¬ loc'.has K:=fun i l n1 n2 g1 g2 g3=>by
   rcases hk K g3 with e | e
   ·exact n1 (hh.inj i b l loc K g1 hb g2 e)
   ·exact n2 (hh.inj i b2 l loc2 K g1 hb2 g2 e)
  rcases key i l h1 with ⟨rfl,rfl⟩ | ⟨rfl,rfl⟩ | ⟨n1,n2,g1⟩
  ·rcases key j l' h2 with ⟨rfl,rfl⟩ | ⟨rfl,rfl⟩ | ⟨m1,m2,g2⟩
   ·rfl
   ·exact absurd h4 (hk2 K)
   ·exact absurd h3 (none2 j l' m1 m2 g2 h4)
  ·exact absurd h3 (hk2 K)
  ·rcases key j l' h2 with ⟨rfl,rfl⟩ | ⟨rfl,rfl⟩ | ⟨m1,m2,g2⟩
   ·exact absurd h4 (none2 i l n1 n2 g1 h3)
   ·exact absurd h4 (hk2 K)
   ·exact hh.inj i j l l' K g1 g2 h3 h4
 ·rcases key i l h1 with ⟨rfl,rfl⟩ | ⟨rfl,rfl⟩ | ⟨_,_,g1⟩
  ·exact hsok
  ·exact .nil hsub2
  ·exact hh.sok i l g1
theorem HeapR.growX {B:Nat} {S:Nat→Prop} {ρ:List Loc} {h:List Blk} {w:World} (hh:HeapR B S γ ρ h w) (X:Nat→Prop) (hX:∀ K,X K→K<w.heap.size∧B≤K∧∀ (b:Nat) (loc:Loc),ρ[b]?=some loc→¬ loc.has K) :
  HeapR B (fun k=>S k∨X k) γ ρ h w∧Ext B S ρ w (fun k=>S k∨X k) ρ w:=by
 refine ⟨⟨hh.len,fun b blk loc h1 h2=>(hh.blk b blk loc h1 h2).mono (fun k hk=>.inl hk) (fun _ _=>rfl) (LocsUp.refl ρ) fun _ _=>rfl,fun b loc k h1 h2=>?_,hh.inj,fun k hk=>?_,fun g x hg=>?_,hh.bsz,hh.sok⟩,
  Fr.refl w,fun _ _=>rfl,fun k hk=>.inl hk,fun _ _=>rfl,LocsUp.refl ρ,fun k hk=>?_⟩
 ·obtain ⟨k1,k2,k3⟩:=hh.own b loc k h1 h2
  refine ⟨fun hs=>?_,k2,k3⟩
  rcases hs with hs | hs
  ·exact k1 hs
  ·exact (hX k hs).2.2 b loc h1 h2
 ·rcases hk with hk | hk
  ·exact hh.sle k hk
  ·exact (hX k hk).1
 ·exact R.mono (S:=S) (fun k hk=>.inl hk) (fun _ _=>rfl) (ρ:=none) (ρ':=none) trivial _ _ (hh.gok g x hg)
 ·exact hk.imp id fun h=>(hX k h).2.1
theorem Loc.SubOk.set {l l':Loc} (h:l.SubOk) {i:Nat} (hs:l'.sub=l.sub.set i none) (hk:l'.k=l.k):l'.SubOk where
 out:=fun K hK=>by
  rw [hs] at hK
  rw [hk]
  rcases List.mem_or_eq_of_mem_set hK with hK | hK
  ·exact h.out K hK
  ·cases hK
 one:=fun a c K ha hc=>by
  have key:∀ a,l'.sub[a]?=some (some K)→l.sub[a]?=some (some K):=fun a ha=>by
   rw [hs,List.getElem?_set] at ha
   split at ha
   ·split at ha<;>cases ha
   ·exact ha
  exact h.one a c K (key a ha) (key c hc)
theorem Loc.has_set {l l':Loc} {i K:Nat} (hs:l'.sub=l.sub.set i none) (hk:l'.k=l.k) (h:l'.has K):l.has K:=by
 rcases h with h | h
 ·exact .inl (by rw [←hk];exact h)
 ·rw [hs] at h
  rcases List.mem_or_eq_of_mem_set h with h | h
  ·exact .inr h
  ·cases h
theorem LocsUp.set1 {ρ:List Loc} {b:Nat} {loc loc':Loc} (hb:ρ[b]?=some loc) (hup:loc.up loc'):LocsUp ρ (ρ.set b loc'):=by
 have hblt:b<ρ.length:=(List.getElem?_eq_some_iff.1 hb).1
 intro i l hl
 by_cases e:b=i
 ·subst e;rw [hb] at hl;cases hl
  exact ⟨_,by simp [hblt],hup⟩
 ·exact ⟨l,by rw [List.getElem?_set_ne e];exact hl,l.up_refl⟩
theorem HeapR.drop {B:Nat} {S:Nat→Prop} {ρ:List Loc} {h:List Blk} {w:World} (hh:HeapR B S γ ρ h w) {b g q:Nat} {ess:Unit→List LV} (hb:h[b]?=some (.nest g q ess none)) (i:Unit→Nat) {loc:Loc} (hl:ρ[b]?=some loc) :
  HeapR B S γ (ρ.set b { loc with sub:=loc.sub.set (i ()) none }) (h.set b (.nest g q ess (some (i,.any)))) w∧Ext B S ρ w S (ρ.set b { loc with sub:=loc.sub.set (i ()) none }) w:=by
 obtain ⟨d1,d2,d3,evs,d4,d5,d6,d7⟩:=hh.blk b _ loc hb hl
 refine hh.updS (loc':={ loc with sub:=loc.sub.set (i ()) none }) hl (.inl ⟨_,rfl⟩) (fun K hK=>.inl (Loc.has_set (l:=loc) (l':={ loc with sub:=loc.sub.set (i ()) none }) rfl rfl hK)) (Fr.refl w) (fun _ _ _=>rfl) ⟨d1,d2,d3,evs,d4,d5,by simp [d6],fun p es v s g1 g2 g3=>?_⟩ ((hh.sok b loc hl).set rfl rfl)
 have hpl:p<loc.sub.length:=by have:=(List.getElem?_eq_some_iff.1 g2).1;omega
 have hold:InR S w q es v loc.sub[p]:=d7 p es v _ g1 g2 (List.getElem?_eq_getElem hpl)
 have g3:(loc.sub.set (i ()) none)[p]?=some s:=g3
 rw [List.getElem?_set] at g3
 split at g3
 ·rename_i e
  rw [if_pos (by omega)] at g3
  cases g3
  obtain ⟨a,cap,ievs,rfl,_⟩:=hold
  exact .inl ⟨e.symm,rfl,trivial,rfl⟩
 ·rename_i e
  rw [List.getElem?_eq_getElem hpl] at g3
  cases g3
  exact .inr ⟨fun h=>e h.symm,hold⟩
theorem Step.drop {A:St} (b:Nat) {g q:Nat} {ess:Unit→List LV} (hb:A.h[b]?=some (.nest g q ess none)) (i:Unit→Nat):Step γ A ⟨A.n,A.s,A.h.set b (.nest g q ess (some (i,.any)))⟩:=
 Step.heap fun B S ρ w hh=>by
  have hlt:b<ρ.length:=by rw [hh.len];exact (List.getElem?_eq_some_iff.1 hb).1
  have:=hh.drop hb i (List.getElem?_eq_getElem hlt)
  exact ⟨_,_,this.1,this.2⟩
theorem Step.take {A:St} (b:Nat) {g q:Nat} {ess:Unit→List LV} (hb:A.h[b]?=some (.nest g q ess none)) (i:Unit→Nat) (hi:∀ _:Unit,i ()<(ess ()).length) :
  Step γ A ⟨A.n,A.s,(A.h.set b (.nest g q ess (some (i,.sl A.h.length 0 q (fun _=>0) fun _=>((ess ()).getD (i ()) .nil).l.length))))++[.run 0 q fun _=>(ess ()).getD (i ()) .nil]⟩:=
 Step.heap fun B S ρ w hh=>by
  have hlt:b<ρ.length:=by rw [hh.len];exact (List.getElem?_eq_some_iff.1 hb).1
  obtain ⟨loc,hl⟩:∃ loc,ρ[b]?=some loc:=⟨_,List.getElem?_eq_getElem hlt⟩
  obtain ⟨d1,d2,d3,evs,d4,d5,d6,d7⟩:=hh.blk b _ loc hb hl
  have hi:=hi ()
  obtain ⟨p1,p2⟩:=hh.drop hb i hl
  have hie:(ess ())[i ()]?=some ((ess ()).getD (i ()) .nil):=by rw [List.getD_eq_getElem?_getD,List.getElem?_eq_getElem hi];rfl
  have hve:evs[i ()]?=some evs[i ()]:=List.getElem?_eq_getElem (by omega)
  have hse:loc.sub[i ()]?=some loc.sub[i ()]:=List.getElem?_eq_getElem (by omega)
  have hin:InR S w q ((ess ()).getD (i ()) .nil) evs[i ()] loc.sub[i ()]:=d7 _ _ _ _ hie hve hse
  generalize hes:(ess ()).getD (i ()) .nil=es at hin hie
  generalize hv:evs[i ()]'(by omega)=v at hin hve
  generalize hs:loc.sub[i ()]'(by omega)=s at hin hse
  obtain ⟨a,cap,ievs,rfl,c2,c3,c4,c5,c6⟩:=hin
  have hil:ievs.length=es.l.length:=Rs_len ((RL_iff _ _ _ _).1 c4)
  -- the run that comes
  obtain ⟨l2,hl2,hbl,hr⟩:∃ l2:Loc,(l2.sub=[]∧l2.k=s∧l2.box=false∧l2.g=0∧l2.e=q)∧(∀ ρ2,BlkR S w ρ2 l2 (.run 0 q fun _=>es)) ∧
    (∀ ρ2:List Loc,R S w (some (ρ2++[l2])) (.sl ρ2.length 0 q (fun _=>0) fun _=>es.l.length) (.slice a ievs.length cap)):=by
   rcases c6 with ⟨rfl,c6⟩ | ⟨K,c,ty,rfl,r2,r3,r4,r5⟩
   ·have:ievs=[]:=List.eq_nil_of_length_eq_zero (by omega)
    subst this
    exact ⟨⟨false,0,none,q,0,[]⟩,⟨rfl,rfl,rfl,rfl,rfl⟩,fun ρ2=>⟨rfl,rfl,rfl,[],c4,fun e he=>(by cases he),.inl ⟨rfl,rfl⟩⟩,
     fun ρ2=>⟨_,_,a,cap,rfl,getElem?_concat _ _,rfl,rfl,Nat.le_refl _,by rw [←hil],by rw [←hil];exact c2,c3,fun _=>.inl ⟨rfl,c6,rfl⟩⟩⟩
   ·exact ⟨⟨false,0,some K,q,c.size,[]⟩,⟨rfl,rfl,rfl,rfl,rfl⟩,fun ρ2=>⟨rfl,rfl,rfl,ievs,c4,c5,.inr ⟨K,c,ty,rfl,r4,rfl,Nat.le_trans (Nat.mul_le_mul_right _ c2) r3,r5⟩⟩,
     fun ρ2=>⟨_,_,a,cap,rfl,getElem?_concat _ _,rfl,rfl,Nat.le_refl _,by rw [←hil],by rw [←hil];exact c2,c3,fun _=>.inr ⟨K,rfl,by simpa using r2,by simpa using r3⟩⟩⟩
  obtain ⟨m1,m2,m3,m4,m5⟩:=hl2
  obtain ⟨q1,q2⟩:=p1.adopt l2 (.run 0 q fun _=>es) m1 (fun K hK=>by
   rw [m2] at hK
   obtain ⟨k1,k2,k3⟩:=hh.own b loc K hl (.inr (by rw [←hK,←hs];exact List.getElem_mem _))
   refine ⟨k1,k2,k3,fun b' l' hb' hK'=>?_⟩
   by_cases e:b=b'
   ·subst e
    rw [List.getElem?_set_self hlt] at hb';cases hb'
    rcases hK' with hK' | hK'
    ·exact (hh.sok b loc hl).out K (by rw [←hK];exact List.mem_of_getElem? hse) hK'
    ·obtain ⟨j,hj,hj2⟩:=List.getElem_of_mem hK'
     have hj3:(loc.sub.set (i ()) none)[j]?=some (some K):=by rw [←hj2];exact List.getElem?_eq_getElem hj
     rw [List.getElem?_set] at hj3
     split at hj3
     ·split at hj3<;>cases hj3
     ·rename_i ne
      exact ne ((hh.sok b loc hl).one j (i ()) K hj3 (by rw [hse,hK])).symm
   ·rw [List.getElem?_set_ne e] at hb'
    exact e (hh.inj b b' loc l' K hl hb' (.inr (by rw [←hK];exact List.mem_of_getElem? hse)) hK')) (hbl _)
  have hρ:(ρ.set b { loc with sub:=loc.sub.set (i ()) none }).length=A.h.length:=by rw [List.length_set,hh.len]
  have hT:=q1.retell b (.nest g q ess (some (i,.sl A.h.length 0 q (fun _=>0) fun _=>((ess ()).getD (i ()) .nil).l.length))) fun loc3 h3=>by
   rw [List.getElem?_append_left (by rw [List.length_set];exact hlt),List.getElem?_set_self hlt] at h3
   cases h3
   refine ⟨d1,d2,d3,evs,d4,d5,by simp [d6],fun p es' v' s' g1 g2 g3=>?_⟩
   have hpl:p<loc.sub.length:=by have:=(List.getElem?_eq_some_iff.1 g2).1;omega
   have hold:InR S w q es' v' loc.sub[p]:=d7 p es' v' _ g1 g2 (List.getElem?_eq_getElem hpl)
   have g3:(loc.sub.set (i ()) none)[p]?=some s':=g3
   rw [List.getElem?_set] at g3
   split at g3
   ·rename_i e
    rw [if_pos (by omega)] at g3
    cases g3
    rw [←e,hve] at g2
    cases g2
    refine .inl ⟨e.symm,rfl,?_,rfl⟩
    have:=hr (ρ.set b { loc with sub:=loc.sub.set (i ()) none })
    rw [hρ] at this
    simp only [hes]
    exact this
   ·rename_i e
    rw [List.getElem?_eq_getElem hpl] at g3
    cases g3
    exact .inr ⟨fun h=>e h.symm,hold⟩
  refine ⟨S,_,?_,p2.trans q2⟩
  rw [List.set_append_left _ _ (by rw [List.length_set];exact (List.getElem?_eq_some_iff.1 hb).1),List.set_set] at hT
  simp only [hes] at hT
  exact hT
end
end Go.AL
namespace Go.AL
open Go Go.RowKit
section
variable {P:Program} {γ:Nat→Option AV}
theorem Step.put {A:St} (b b2:Nat) {g q g2 g3:Nat} {ess:Unit→List LV} {i off len:Unit→Nat} {es:Unit→LV} (hb:A.h[b]?=some (.nest g q ess (some (i,.sl b2 g2 q off len)))) (hb2:A.h[b2]?=some (.run g3 q es))
  (hc:∀ _:Unit,g3=g2∧off ()=0∧len ()=(es ()).l.length) :
  Step γ A ⟨A.n,A.s,(A.h.set b (.nest g q (fun _=>(ess ()).set (i ()) (es ())) none)).set b2 .any⟩:=
 Step.heap fun B S ρ w hh=>by
  obtain ⟨rfl,c0,c1⟩:=hc ()
  have hne:b≠b2:=fun e=>by subst e;rw [hb] at hb2;cases hb2
  have hlt:b<ρ.length:=by rw [hh.len];exact (List.getElem?_eq_some_iff.1 hb).1
  have hlt2:b2<ρ.length:=by rw [hh.len];exact (List.getElem?_eq_some_iff.1 hb2).1
  obtain ⟨loc,hl⟩:∃ loc,ρ[b]?=some loc:=⟨_,List.getElem?_eq_getElem hlt⟩
  obtain ⟨loc2,hl2⟩:∃ loc,ρ[b2]?=some loc:=⟨_,List.getElem?_eq_getElem hlt2⟩
  obtain ⟨d1,d2,d3,evs,d4,d5,d6,d7⟩:=hh.blk b _ loc hb hl
  obtain ⟨f1,f2,f3,ievs,f4,f5,f6⟩:=hh.blk b2 _ loc2 hb2 hl2
  have hil:ievs.length=(es ()).l.length:=Rs_len ((RL_iff _ _ _ _).1 f4)
  have hk2:∀ K,some K∈(loc.sub.set (i ()) loc2.k)→some K∈loc.sub∨loc2.k=some K:=fun K hK=>by
   rcases List.mem_or_eq_of_mem_set hK with hK | hK
   ·exact .inl hK
   ·exact .inr hK.symm
  have hsi:∀ s,loc.sub[i ()]?=some s→s=none:=fun s hs=>by
   have hil':i ()<loc.sub.length:=(List.getElem?_eq_some_iff.1 hs).1
   rcases d7 (i ()) _ _ s (List.getElem?_eq_getElem (by omega)) (List.getElem?_eq_getElem (by omega)) hs with ⟨_,h,_⟩ | ⟨h,_⟩
   ·exact h
   ·exact absurd rfl h
  have hsub:∀ K,loc2.k=some K→¬ some K∈loc.sub∧loc.k≠some K:=fun K hK=>⟨fun h=>hne (hh.inj b b2 loc loc2 K hl hl2 (.inr h) (.inl hK)),fun h=>hne (hh.inj b b2 loc loc2 K hl hl2 (.inl h) (.inl hK))⟩
  have hm:=hh.move (loc':={ loc with sub:=loc.sub.set (i ()) loc2.k }) (loc2':={ loc2 with g:=g3+1,k:=none,size:=0,sub:=[] }) (blk':=.nest g q (fun _=>(ess ()).set (i ()) (es ())) none) hne hl hl2 (.inl ⟨_,rfl⟩)
   (.inr (.inl ⟨f1,f1,by show loc2.g<g3+1;omega,rfl⟩))
   (fun K hK=>by
    rcases hK with hK | hK
    ·exact .inl (.inl hK)
    ·rcases hk2 K hK with h | h
     ·exact .inl (.inr h)
     ·exact .inr (.inl h))
   (fun K hK=>by rcases hK with hK | hK<;>first | (cases hK;done) | exact absurd hK (by simp))
   ⟨fun K hK hk=>by
    rcases hk2 K hK with h | h
    ·exact (hh.sok b loc hl).out K h hk
    ·exact (hsub K h).2 hk,fun x y K hx hy=>by
    have key:∀ x,(loc.sub.set (i ()) loc2.k)[x]?=some (some K)→(x=i ()∧loc2.k=some K)∨(x≠i ()∧loc.sub[x]?=some (some K)):=fun x hx=>by
     rw [List.getElem?_set] at hx
     split at hx
     ·rename_i e
      split at hx
      ·left;exact ⟨e.symm,by simpa using hx⟩
      ·cases hx
     ·rename_i e;exact .inr ⟨fun h=>e h.symm,hx⟩
    rcases key x hx with ⟨x1,x2⟩ | ⟨x1,x2⟩<;>rcases key y hy with ⟨y1,y2⟩ | ⟨y1,y2⟩
    ·omega
    ·exact absurd (List.mem_of_getElem? y2) (hsub K x2).1
    ·exact absurd (List.mem_of_getElem? x2) (hsub K y2).1
    ·exact (hh.sok b loc hl).one x y K x2 y2⟩ rfl
   ⟨d1,d2,d3,evs,d4,by simp [d5],by simp [d6],fun p es' v s g1 g2 g4=>by
    have hpl:p<evs.length:=(List.getElem?_eq_some_iff.1 g2).1
    by_cases hp:p=i ()
    ·subst hp
     have g1:((ess ()).set (i ()) (es ()))[i ()]?=some es':=g1
     rw [List.getElem?_set_self (by omega)] at g1
     cases g1
     have g4:(loc.sub.set (i ()) loc2.k)[i ()]?=some s:=g4
     rw [List.getElem?_set_self (by omega)] at g4
     cases g4
     rcases d7 (i ()) _ _ _ (List.getElem?_eq_getElem (by omega)) g2 (List.getElem?_eq_getElem (by omega)) with ⟨_,_,hr,_⟩ | ⟨h,_⟩
     ·obtain ⟨l,lc,a,cap,e0,q1,q2,q3,q4,rfl,q6,q7,q8⟩:=hr
      cases e0
      rw [hl2] at q1;cases q1
      refine ⟨a,cap,ievs,by rw [c1,hil],by omega,q7,f4,f5,?_⟩
      rcases q8 f2 with ⟨r1,r2,_⟩ | ⟨K,r1,r2,r3⟩
      ·exact .inl ⟨r1,r2⟩
      ·rcases f6 with ⟨e1,_⟩ | ⟨K',c,ty,e1,e2,e3,e4,e5⟩
       ·rw [r1] at e1;cases e1
       ·rw [r1] at e1;cases e1
        rw [c0,Nat.zero_mul] at r2
        rw [c0,Nat.zero_add,f3] at r3
        rw [f3] at e5
        exact .inr ⟨K,c,ty,r1,r2,by omega,e2,e5⟩
     ·exact absurd rfl h
    ·have g1:((ess ()).set (i ()) (es ()))[p]?=some es':=g1
     rw [List.getElem?_set_ne (fun e=>hp e.symm)] at g1
     have g4:(loc.sub.set (i ()) loc2.k)[p]?=some s:=g4
     rw [List.getElem?_set_ne (fun e=>hp e.symm)] at g4
     rcases d7 p es' v s g1 g2 g4 with ⟨h,_⟩ | ⟨_,h⟩
     ·exact absurd h hp
     ·exact h⟩
  exact ⟨S,_,hm.1,hm.2⟩
theorem Step.takeE {A:St} (b:Nat) {g q:Nat} {ess:Unit→List LV} (hb:A.h[b]?=some (.nest g q ess none)) (i:Unit→Nat) (es:Unit→LV) (len:Unit→Nat) (hi:∀ _:Unit,i ()<(ess ()).length)
  (he:∀ _:Unit,(ess ()).getD (i ()) .nil=es ()∧(es ()).l.length=len ()):Step γ A ⟨A.n,A.s,(A.h.set b (.nest g q ess (some (i,.sl A.h.length 0 q (fun _=>0) len))))++[.run 0 q es]⟩:=by
 have h:=Step.take (γ:=γ) b hb i hi
 have e1:(fun _:Unit=>(ess ()).getD (i ()) .nil)=es:=funext fun _=>(he ()).1
 have e2:(fun _:Unit=>((ess ()).getD (i ()) .nil).l.length)=len:=funext fun _=>by rw [(he ()).1];exact (he ()).2
 rw [e1,e2] at h
 exact h
theorem Step.putE {A:St} (b b2:Nat) {g q g2 g3:Nat} {ess:Unit→List LV} {i off len:Unit→Nat} {es:Unit→LV} (ess':Unit→List LV) (hb:A.h[b]?=some (.nest g q ess (some (i,.sl b2 g2 q off len)))) (hb2:A.h[b2]?=some (.run g3 q es))
  (hc:∀ _:Unit,(g3=g2∧off ()=0∧len ()=(es ()).l.length)∧(ess ()).set (i ()) (es ())=ess' ()) :
  Step γ A ⟨A.n,A.s,(A.h.set b (.nest g q ess' none)).set b2 .any⟩:=by
 have h:=Step.put (γ:=γ) b b2 hb hb2 fun _=>(hc ()).1
 have e1:(fun _:Unit=>(ess ()).set (i ()) (es ()))=ess':=funext fun _=>(hc ()).2
 rw [e1] at h
 exact h
theorem Step.unrun {A:St} (b q:Nat) {g:Nat} {es:Unit→LV} (hb:A.h[b]?=some (.run g 1 es)):Step γ A ⟨A.n,A.s,A.h.set b (.nest g q (fun _=>[]) none)⟩:=
 Step.heap fun B S ρ w hh=>by
  have hlt:b<ρ.length:=by rw [hh.len];exact (List.getElem?_eq_some_iff.1 hb).1
  obtain ⟨loc,hl⟩:∃ loc,ρ[b]?=some loc:=⟨_,List.getElem?_eq_getElem hlt⟩
  obtain ⟨f1,f2,f3,ievs,f4,f5,f6⟩:=hh.blk b _ loc hb hl
  have:=hh.updS (loc':={ loc with sub:=[] }) (blk':=.nest g q (fun _=>[]) none) (w':=w) hl (.inl ⟨_,rfl⟩) (fun K hK=>.inl (.inl (Loc.has_nil (l:={ loc with sub:=[] }) rfl hK))) (Fr.refl w) (fun _ _ _=>rfl)
   ⟨f1,f2,f3,[],by
    rcases f6 with ⟨e1,_⟩ | ⟨K',c,ty,e1,e2,e3,e4,e5⟩
    ·exact .inl ⟨e1,rfl⟩
    ·exact .inr ⟨K',c,ty,e1,e2,e3,Nat.zero_le _,fun i e h=>by simp at h⟩,rfl,rfl,fun p es v s g1=>by simp at g1⟩ (.nil rfl)
  exact ⟨S,_,this.1,this.2⟩
theorem Step.fzin {A:St} (b:Nat) {g q:Nat} {ess:Unit→List LV} (hb:A.h[b]?=some (.nest g q ess none)):Step γ A ⟨A.n,A.s,A.h.set b (.run g 1 fun _=>LV.of ((ess ()).map fun x=>.vs q fun _=>x))⟩:=
 Step.heap fun B S ρ w hh=>by
  have hlt:b<ρ.length:=by rw [hh.len];exact (List.getElem?_eq_some_iff.1 hb).1
  obtain ⟨loc,hl⟩:∃ loc,ρ[b]?=some loc:=⟨_,List.getElem?_eq_getElem hlt⟩
  obtain ⟨d1,d2,d3,evs,d4,d5,d6,d7⟩:=hh.blk b _ loc hb hl
  have hin:∀ (p:Nat) (v:Value),evs[p]?=some v→∃ es s,(ess ())[p]?=some es∧loc.sub[p]?=some s∧InR S w q es v s:=fun p v hv=>by
   have hpl:=(List.getElem?_eq_some_iff.1 hv).1
   exact ⟨_,_,List.getElem?_eq_getElem (by omega),List.getElem?_eq_getElem (by omega),d7 p _ v _ (List.getElem?_eq_getElem (by omega)) hv (List.getElem?_eq_getElem (by omega))⟩
  have hcell:∀ (p:Nat) (v:Value),evs[p]?=some v→v.cells=#[v]:=fun p v hv=>by
   obtain ⟨es,s,_,_,a,cap,ievs,rfl,_⟩:=hin p v hv
   rfl
  have h1:=hh.updS (loc':={ loc with sub:=[] }) (blk':=.any) (w':=w) hl (.inl ⟨_,rfl⟩) (fun K hK=>.inl (.inl (Loc.has_nil (l:={ loc with sub:=[] }) rfl hK))) (Fr.refl w) (fun _ _ _=>rfl) trivial (.nil rfl)
  obtain ⟨p1,p2⟩:=h1
  obtain ⟨q1,q2⟩:=p1.growX (fun K=>some K∈loc.sub) fun K hK=>by
   obtain ⟨k1,k2,k3⟩:=hh.own b loc K hl (.inr hK)
   refine ⟨k2,k3,fun b' l' hb' hK'=>?_⟩
   by_cases e:b=b'
   ·subst e
    rw [List.getElem?_set_self hlt] at hb';cases hb'
    exact (hh.sok b loc hl).out K hK (Loc.has_nil (l:={ loc with sub:=[] }) rfl hK')
   ·rw [List.getElem?_set_ne e] at hb'
    exact e (hh.inj b b' loc l' K hl hb' (.inr hK) hK')
  have hT:=q1.retell b (.run g 1 fun _=>LV.of ((ess ()).map fun x=>.vs q fun _=>x)) fun loc3 h3=>by
   rw [List.getElem?_set_self hlt] at h3
   cases h3
   refine ⟨d1,d2,d3,evs,?_,fun e he u hu=>?_,?_⟩
   ·rw [RL_iff,LV.l_of,Rs_iff]
    refine ⟨by simp;omega,fun p c v hc hv=>?_⟩
    obtain ⟨es,s,e1,e2,a,cap,ievs,rfl,r2,r3,r4,r5,r6⟩:=hin p v hv
    rw [List.getElem?_map,e1] at hc
    simp at hc
    subst hc
    refine ⟨a,cap,ievs,rfl,r2,RL.mono (fun k hk=>.inl hk) (fun _ _=>rfl) _ _ r4,?_⟩
    by_cases hz:ievs=[]
    ·exact .inl hz
    ·have hpos:0<ievs.length:=List.length_pos_iff.2 hz
     rcases r6 with ⟨_,r6⟩ | ⟨K,c,ty,s1,s2,s3,s4,s5⟩
     ·omega
     ·rcases s2 with s2 | s2
      ·omega
      ·refine .inr ⟨_,s2,rfl,.inr (by rw [←s1];exact List.mem_of_getElem? e2),fun i e hi=>?_⟩
       obtain ⟨z1,z2⟩:=s5 i e hi
       refine ⟨z1,fun j y hy=>?_⟩
       rw [cell_heap s4]
       simpa using z2 j y hy
   ·obtain ⟨p,hp,rfl⟩:=List.mem_iff_getElem.1 he
    obtain ⟨es,s,_,_,a,cap,ievs,e1,_⟩:=hin p _ (List.getElem?_eq_getElem hp)
    rw [e1] at hu
    simp [Value.cells] at hu
    subst hu;rfl
   ·rcases d4 with ⟨e1,e2⟩ | ⟨K,c,ty,e1,e2,e3,e4,e5⟩
    ·exact .inl ⟨e1,e2⟩
    ·refine .inr ⟨K,c,ty,e1,e2,e3,by show evs.length * loc.e≤loc.size;rw [d3];omega,fun p e hp=>?_⟩
     have hc:=hcell p e hp
     refine ⟨by rw [hc];exact d3.symm,fun j x hx=>?_⟩
     rw [hc] at hx
     have hj:j=0:=by have:=(Array.getElem?_eq_some_iff.1 hx).1;simpa using this
     subst hj
     simp at hx
     subst hx
     show c[p * loc.e+0]?=some e
     rw [d3]
     simpa using e5 p e hp
  rw [List.set_set] at hT
  exact ⟨_,_,hT,p2.trans q2⟩
end
end Go.AL
namespace Go.AL
open Go Go.RowKit
section
variable {P:Program} {γ:Nat→Option AV} {τ:Nat→TI} {C:EC} {CQ:List Blk→QC}
variable {ro:Option Nat} {ds:List Deferred}
structure EnvX (P:Program) (γ:Nat→Option AV) (C:EC) (CQ:List Blk→QC) (T:Nat→TI) (D:Array Oper→(St→Prop)→St→Prop):Prop where
 c:∀ {f args h Q},SCalls P γ f args h Q→C (.inl f) args h Q
 q:∀ {h f args k},QCalls P γ h f args k→CQ h f args k
 d:∀ n {ops K A},drawB ops n=true→vhd T γ CQ ops (ops.toList.take n) A (fun A=>vops T γ C ops.toList (ops.toList.drop n) A K)→D ops K A
end
end Go.AL
namespace Go.AL
open Go Go.RowKit
section
variable {P:Program} {γ:Nat→Option AV}
end
end Go.AL
namespace Go.AL
open Go Go.RowKit
section
variable {P:Program} {γ:Nat→Option AV}
end
end Go.AL
namespace Go.AL
open Go Go.RowKit
section
variable {P:Program} {γ:Nat→Option AV}
def mark (D:Nat):Deferred:={ target:=.collected D,args:=#[] }
end
end Go.AL
namespace Go.AL
open Go Go.RowKit
section
variable {P:Program} {γ:Nat→Option AV}
end
end Go.AL
namespace Go.AL
open Go Go.RowKit
section
variable {P:Program} {γ:Nat→Option AV}
theorem Rs_nils {S:Nat→Prop} {w:World} {ρ:Option (List Loc)}:∀ (n:Nat) (evs:List Value),Rs S w ρ (List.replicate n .nils) evs→evs.length=n∧∀ v∈evs,∃ a,v=.slice a 0 0
 | 0,evs,h=>by
  have:evs=[]:=h
  subst this;exact ⟨rfl,fun v hv=>by cases hv⟩
 | n+1,evs,h=>by
  obtain ⟨x,xs,rfl,h2,h3⟩:=h
  obtain ⟨e1,e2⟩:=Rs_nils n xs h3
  refine ⟨by simp [e1],fun v hv=>?_⟩
  rcases List.mem_cons.1 hv with rfl | hv
  ·exact h2
  ·exact e2 v hv
theorem Step.nilsN {A:St} (b q n:Nat) {g:Nat} {es:Unit→LV} (hb:A.h[b]?=some (.run g 1 es)) (he:es ()=LV.of (List.replicate n .nils)):Step γ A ⟨A.n,A.s,A.h.set b (.nest g q (fun _=>List.replicate n .nil) none)⟩:=
 Step.heap fun B S ρ w hh=>by
  have hlt:b<ρ.length:=by rw [hh.len];exact (List.getElem?_eq_some_iff.1 hb).1
  obtain ⟨loc,hl⟩:∃ loc,ρ[b]?=some loc:=⟨_,List.getElem?_eq_getElem hlt⟩
  obtain ⟨f1,f2,f3,ievs,f4,f5,f6⟩:=hh.blk b _ loc hb hl
  rw [he,RL_iff,LV.l_of] at f4
  obtain ⟨n1,n2⟩:=Rs_nils n ievs f4
  have:=hh.updS (loc':={ loc with sub:=List.replicate n none }) (blk':=.nest g q (fun _=>List.replicate n .nil) none) (w':=w) hl (.inl ⟨_,rfl⟩) (fun K hK=>by
    rcases hK with hK | hK
    ·exact .inl (.inl hK)
    ·have:=List.eq_of_mem_replicate hK;cases this) (Fr.refl w) (fun _ _ _=>rfl)
   ⟨f1,f2,f3,ievs,by
    rcases f6 with ⟨e1,e2⟩ | ⟨K',c,ty,e1,e2,e3,e4,e5⟩
    ·exact .inl ⟨e1,e2⟩
    ·refine .inr ⟨K',c,ty,e1,e2,e3,by rw [f3,Nat.mul_one] at e4;exact e4,fun i e h=>?_⟩
     obtain ⟨a,rfl⟩:=n2 e (List.mem_of_getElem? h)
     have:=(e5 i _ h).2 0 (.slice a 0 0) rfl
     rw [f3,Nat.mul_one,Nat.add_zero] at this
     exact this,by simp [n1],by simp [n1],fun p es v s g1 g2 g3=>by
    obtain ⟨a,rfl⟩:=n2 v (List.mem_of_getElem? g2)
    have e1:=List.eq_of_mem_replicate (List.mem_of_getElem? g1)
    have e2:=List.eq_of_mem_replicate (List.mem_of_getElem? g3)
    subst e1 e2
    exact ⟨a,0,[],rfl,Nat.le_refl _,.inl rfl,rfl,fun e he=>(by cases he),.inl ⟨rfl,rfl⟩⟩⟩
   ⟨fun K hK=>(by have:=List.eq_of_mem_replicate hK;cases this),fun i j K h1=>(by have:=List.eq_of_mem_replicate (List.mem_of_getElem? h1);cases this)⟩
  exact ⟨S,_,this.1,this.2⟩
theorem SCalls.nilrun (k:Nat) {f:FuncId} {args:List AV} {h:List Blk} {Q:AV→List Blk→Prop}
  (hc:SCalls P γ f args h fun v h'=>Q v h'∨(v=.nils∧Q (.sl h'.length 0 k (fun _=>0) fun _=>0) (h'++[.run 0 k fun _=>.nil]))):SCalls P γ f args h Q:=by
 refine ⟨hc.1,fun B S ρ w vals hh hr=>(hc.2 B S ρ w vals hh hr).mono fun e w' ⟨v,h',S',ρ',v',h1,h2,h3,h4,h5⟩=>?_⟩
 rcases h2 with h2 | ⟨rfl,h2⟩
 ·exact ⟨v,h',S',ρ',v',h1,h2,h3,h4,h5⟩
 ·obtain ⟨a,rfl⟩:=h3
  obtain ⟨p1,p2⟩:=h4.ghost ⟨false,0,none,k,0,[]⟩ rfl (.run 0 k fun _=>.nil) ⟨rfl,rfl,rfl,[],rfl,fun e he=>(by cases he),.inl ⟨rfl,rfl⟩⟩
  exact ⟨_,_,S',_,_,h1,h2,⟨_,_,a,0,rfl,by rw [←h4.len];exact getElem?_concat _ _,rfl,rfl,Nat.le_refl _,rfl,Nat.le_refl _,.inl rfl,fun _=>.inl ⟨rfl,rfl,rfl⟩⟩,p1,h5.trans p2⟩
theorem Env.loopCA {C:EC} {CQ:List Blk→QC} {T:Nat→TI} {D:Array Oper→(St→Prop)→St→Prop} {W:Code→(Exit→St→Prop)→St→Prop} (_:Env P γ C CQ T D W) {c:Code} {Q:Exit→St→Prop} {A:St} {ι:Type} (ok:ι→Prop) (m:ι→Nat) (upd:ι→List (Nat × AV)) (hp:ι→List Blk) (j0:ι)
  (hA:A.h.length=(hp j0).length) (hn:∀ j,(hp j).length=(hp j0).length) (hok:ok j0) (h0:leSt (hp j0).length (headSt c A (upd j0) (hp j0)) A)
  (round:∀ j,ok j→∀ (I:St→Prop),(∀ {A'} j',ok j'→m j'<m j→leSt (hp j0).length (headSt c A (upd j') (hp j')) A'→I A')→AWPl P γ (hp j0).length (citems c) (thenE I Q) (headSt c A (upd j) (hp j))):AWP P γ (.loop c) Q A:=
 AWP.loopI (ι:=ι) (hp j0).length (fun j=>headSt c A (upd j) (hp j)) ok m j0 hA hn ⟨hok,h0⟩ fun j hj=>AWPr.to (by
  show AWPr P γ (hp j).length c _ _
  rw [hn j]
  exact AWPr.of_items c (round j hj _ fun j' h1 h2 h3=>⟨j',h1,h2,h3⟩))
theorem AWPl.blockS {n id:Nat} {c:Code} {r:List Code} {Q:Exit→St→Prop} {A:St} (h:∀ J:St→Prop,(∀ {A'},AWPl P γ n r Q A'→J A')→AWPl P γ n (citems c) (inBlk id (thenE J Q)) A):AWPl P γ n (.block id c :: r) Q A:=
 AWPl.block (h (fun A=>AWPl P γ n r Q A) fun h=>h)
end
end Go.AL
namespace Go.AL
open Go Go.RowKit
section
variable {P:Program} {γ:Nat→Option AV} {C:EC} {CQ:List Blk→QC} {T:Nat→TI} {D:Array Oper→(St→Prop)→St→Prop} {W:Code→(Exit→St→Prop)→St→Prop}
theorem inBlk_mono {id:Nat} {Q Q':Exit→St→Prop} (h:∀ e A,Q e A→Q' e A):∀ e A,inBlk id Q e A→inBlk id Q' e A:=by
 intro e A
 cases e with
 | exit id'=>simp only [inBlk];split<;>exact h _ _
 | _=>exact h _ _
theorem Env.blk (E:Env P γ C CQ T D W) {n id:Nat} {l r:List Code} {Q:Exit→St→Prop} {A:St} (h:vcl T γ C D W l (inBlk id (thenE (fun A=>vcl T γ C D W r Q A) Q)) A):AWPl P γ n l (inBlk id (thenE (fun A=>AWPl P γ n r Q A) Q)) A:=
 (E.bl h).mono (inBlk_mono fun e A h'=>by
  cases e with
  | normal=>exact E.bl h'
  | _=>exact h')
end
end Go.AL
namespace Go.AL.Rl
open Go Go.AL Go.Proofs
set_option maxRecDepth 100000
set_option maxHeartbeats 3200000
variable {γ:Nat→Option AV}
abbrev gz:Gr:=⟨[],[],[],[]⟩
end Go.AL.Rl
namespace Go.AL.Rl
open Go Go.AL Go.Proofs
set_option maxRecDepth 100000
set_option maxHeartbeats 3200000
variable {γ:Nat→Option AV}
def lastK (ms:List Mk) (d:Mk):Nat→Option Nat
 | 0=>none
 | n+1=>if ms.getD n mk0=d then some n else lastK ms d n
def plK (ms:List Mk) (d:Mk):Int:=match lastK ms d ms.length with | some k=>(k:Nat) | none=>-1
def scanK (p:Mk→Int) (l:List Mk):Option Int:=l.foldl (fun s d=>s.bind fun x=>if x<p d then some (p d) else none) (some (-1))
def needE (t:Nat) (l:List Ev) (i:Nat):List Mk:=(List.range i).flatMap fun (j:Nat)=>needM ⟨(t:Int)+1,(j:Int)⟩ (l.getD j ev0).kind
def cntN (g:Gr) (t:Nat):Nat:=((List.range t).map fun k=>(needE k (g.th.getD k []) (g.th.getD k []).length).length).sum
def markedM (g:Gr) (ms:List Mk):Bool:=decide (∀ t<g.th.length,(scanK (plK ms) (needE t (g.th.getD t []) (g.th.getD t []).length)).isSome=true) && decide (cntN g g.th.length=ms.length)
end Go.AL.Rl
namespace Go.AL.Rl
open Go Go.AL Go.Proofs
set_option maxRecDepth 100000
set_option maxHeartbeats 3200000
variable {γ:Nat→Option AV}
end Go.AL.Rl
namespace Go.AL.Rl
open Go Go.AL Go.Proofs
set_option maxRecDepth 100000
set_option maxHeartbeats 3200000
variable {γ:Nat→Option AV}
end Go.AL.Rl
namespace Go.AL.Rl
open Go Go.AL Go.Proofs
set_option maxRecDepth 100000
set_option maxHeartbeats 3200000
variable {γ:Nat→Option AV}
def halfOk (s:Sta):Bool:=decide (0≤s.half) && decide (s.half≤s.g.th.length) && (decide (s.half=0) || (decide ((s.g.th.getD (s.half-1).toNat []).length≠0) && decide (((s.g.th.getD (s.half-1).toNat []).getD ((s.g.th.getD (s.half-1).toNat []).length-1) ev0).kind=1)))
def SOk (s:Sta):Prop:=GOk s.g∧markedM s.g s.ms=true∧halfOk s=true
instance (s:Sta):Decidable (SOk s):=inferInstanceAs (Decidable (_∧_))
end Go.AL.Rl
namespace Go.AL.Rl
open Go Go.AL Go.Proofs
set_option maxRecDepth 100000
set_option maxHeartbeats 3200000
variable {γ:Nat→Option AV}
abbrev sz:Sta:=⟨gz,[],0⟩
theorem keep_th (g:Gr) (l:List EId) (t:Nat):(keepM g l).th.getD t []=if t<g.th.length then keepTh g l t (g.th.getD t []).length else []:=by
 unfold keepM
 by_cases h:t<g.th.length
 ·rw [if_pos h];simp [h]
 ·rw [if_neg h];simp [h]
theorem keep_thl (g:Gr) (l:List EId):(keepM g l).th.length=g.th.length:=by simp [keepM]
theorem keep_le (g:Gr) (l:List EId) (t:Nat):((keepM g l).th.getD t []).length≤(g.th.getD t []).length:=by
 rw [keep_th]
 split
 ·unfold keepTh;rw [List.length_map];exact keepP_len l t _
 ·exact Nat.zero_le _
end Go.AL.Rl
namespace Go.AL.Rl
open Go Go.AL Go.Proofs
set_option maxRecDepth 100000
set_option maxHeartbeats 3200000
variable {γ:Nat→Option AV}
end Go.AL.Rl
namespace Go.AL.Rl
open Go Go.AL Go.Proofs
set_option maxRecDepth 100000
set_option maxHeartbeats 3200000
variable {γ:Nat→Option AV}
end Go.AL.Rl
namespace Go.AL.Rl
open Go Go.AL Go.Proofs
set_option maxRecDepth 100000
set_option maxHeartbeats 3200000
def evT (g:Gr) (d:EId):Prop:=1≤d.t∧d.t≤g.th.length∧0≤d.i∧d.i<(g.th.getD (d.t-1).toNat []).length
theorem evT_iff {g:Gr} {d:EId}:evT g d↔d∈idsT g g.th.length:=(idsT_mem (g:=g) (t:=g.th.length) (d:=d)).symm
def ahead (g:Gr) (a d:EId):Prop:=(a.t=d.t∧a.i<d.i)∨(readsM ((eventM g d).getD ev0)=true∧srcOf g d=a)
def Dn (g:Gr) (l:List EId):Prop:=∀ d∈l,∀ a,evT g a→ahead g a d→a∈l
def ClG (g:Gr) (l:List EId):Prop:=l.Nodup∧(∀ d∈l,evT g d)∧Dn g l
end Go.AL.Rl
namespace Go.AL.Rl
open Go Go.AL Go.Proofs
set_option maxRecDepth 100000
set_option maxHeartbeats 3200000
theorem range_down (p:Nat→Bool):∀ n,(∀ j<n,p j=true→∀ i<j,p i=true)→(List.range n).filter p=List.range ((List.range n).filter p).length∧((List.range n).filter p).length≤n∧∀ j<n,(p j=true↔j<((List.range n).filter p).length)
 | 0,_=>by simp
 | n+1,h=>by
  obtain ⟨h1,h2,h3⟩:=range_down p n fun j hj=>h j (by omega)
  rw [List.range_succ,List.filter_append]
  cases hn:p n with
  | true=>
   have hall:∀ j<n,j<((List.range n).filter p).length:=fun j hj=>(h3 j hj).1 (h n (by omega) hn j hj)
   have hlen:((List.range n).filter p).length=n:=by
    rcases Nat.lt_or_ge ((List.range n).filter p).length n with h4 | h4
    ·exact absurd (hall _ h4) (Nat.lt_irrefl _)
    ·omega
   rw [List.filter_cons_of_pos hn,List.filter_nil,List.length_append,hlen,h1,hlen]
   refine ⟨by rw [←List.range_succ];rfl,by simp,fun j hj=>?_⟩
   simp only [List.length_singleton]
   rcases Nat.lt_or_ge j n with h4 | h4
   ·exact ⟨fun _=>hj,fun _=>(h3 j h4).2 (hall j h4)⟩
   ·obtain rfl:j=n:=by omega
    exact ⟨fun _=>hj,fun _=>hn⟩
  | false=>
   rw [List.filter_cons_of_neg (by rw [hn];simp),List.filter_nil,List.append_nil]
   refine ⟨h1,by omega,fun j hj=>?_⟩
   rcases Nat.lt_or_ge j n with h4 | h4
   ·exact h3 j h4
   ·obtain rfl:j=n:=by omega
    rw [hn]
    constructor
    ·intro h;cases h
    ·intro h;omega
def kQ (g:Gr) (l:List EId) (t:Nat):Nat:=(keepP l t (g.th.getD t []).length).length
theorem eid_eq {d:EId} (h1:1≤d.t) (h2:0≤d.i):(⟨(((d.t-1).toNat:Nat):Int)+1,((d.i.toNat:Nat):Int)⟩:EId)=d:=EId.ext' (by simp only;omega) (by simp only;omega)
theorem evT_mk {g:Gr} {t i:Nat}:evT g ⟨(t:Int)+1,(i:Int)⟩↔t<g.th.length∧i<(g.th.getD t []).length:=by
 unfold evT
 have:(((⟨(t:Int)+1,(i:Int)⟩:EId).t-1).toNat)=t:=by simp only;omega
 rw [this]
 simp only
 omega
theorem take_getD {α:Type} (l:List α) (d:α) {k i:Nat} (h:i<k):(l.take k).getD i d=l.getD i d:=by
 simp [List.getElem?_take,h]
theorem map_take {α:Type} (l:List α) (d:α) (k:Nat) (h:k≤l.length):(List.range k).map (fun j=>l.getD j d)=l.take k:=by
 apply List.ext_getElem
 ·simp;omega
 ·intro i h1 h2
  simp only [List.length_map,List.length_range] at h1
  simp [show i<l.length by omega]
section
variable {g:Gr} {l:List EId} (hg:GOk g) (hC:ClG g l)
include hg hC
theorem keepP_eq (t:Nat) (ht:t<g.th.length):keepP l t (g.th.getD t []).length=List.range (kQ g l t)∧kQ g l t≤(g.th.getD t []).length∧∀ j<(g.th.getD t []).length,((⟨(t:Int)+1,(j:Int)⟩:EId)∈l↔j<kQ g l t):=by
 have _hg:=hg
 have:=range_down (fun j=>decide ((⟨(t:Int)+1,(j:Int)⟩:EId)∈l)) (g.th.getD t []).length fun j hj h i hi=>by
  rw [decide_eq_true_eq] at h ⊢
  exact hC.2.2 _ h _ (evT_mk.2 ⟨ht,by omega⟩) (.inl ⟨rfl,by simp only;omega⟩)
 simp only [decide_eq_true_eq] at this
 exact this
theorem kQ_le (t:Nat) (ht:t<g.th.length):kQ g l t≤(g.th.getD t []).length:=(keepP_eq hg hC t ht).2.1
theorem keepTh_eq (t:Nat) (ht:t<g.th.length):keepTh g l t (g.th.getD t []).length=(g.th.getD t []).take (kQ g l t):=by
 obtain ⟨h1,h2,_⟩:=keepP_eq hg hC t ht
 unfold keepTh
 rw [h1,map_take _ _ _ h2]
theorem keepFr_eq (t:Nat) (ht:t<g.th.length):keepFr g l t (g.th.getD t []).length=(g.fr.getD t []).take (kQ g l t):=by
 obtain ⟨h1,h2,_⟩:=keepP_eq hg hC t ht
 have h3:=(hg.events t ht).1
 unfold keepFr
 rw [h1,map_take _ _ _ (by omega)]
theorem kth (t:Nat) (ht:t<g.th.length):(keepM g l).th.getD t []=(g.th.getD t []).take (kQ g l t):=by
 rw [keep_th,if_pos ht,keepTh_eq hg hC t ht]
theorem kth_len (t:Nat) (ht:t<g.th.length):((keepM g l).th.getD t []).length=kQ g l t:=by
 rw [kth hg hC t ht,List.length_take]
 have:=kQ_le hg hC t ht
 omega
theorem kfr (t:Nat) (ht:t<g.th.length):(keepM g l).fr.getD t []=(g.fr.getD t []).take (kQ g l t):=by
 rw [←keepFr_eq hg hC t ht]
 unfold keepM
 simp [ht]
theorem kev (t j:Nat) (ht:t<g.th.length) (hj:j<kQ g l t):((keepM g l).th.getD t []).getD j ev0=(g.th.getD t []).getD j ev0:=by
 rw [kth hg hC t ht]
 simp [List.getElem?_take,hj]
theorem k_in (t j:Nat) (ht:t<g.th.length) (hj:j<(g.th.getD t []).length):(⟨(t:Int)+1,(j:Int)⟩:EId)∈l↔j<kQ g l t:=(keepP_eq hg hC t ht).2.2 j hj
theorem k_evT (d:EId):evT (keepM g l) d↔d∈l:=by
 constructor
 ·intro h
  have h1:=h.1
  have h2:=h.2.1
  have h3:=h.2.2.1
  have h4:=h.2.2.2
  rw [keep_thl] at h2
  rw [kth_len hg hC _ (by omega)] at h4
  have h5:=kQ_le hg hC (d.t-1).toNat (by omega)
  have:=(k_in hg hC (d.t-1).toNat d.i.toNat (by omega) (by omega)).2 (by omega)
  rwa [eid_eq h1 h3] at this
 ·intro h
  obtain ⟨h1,h2,h3,h4⟩:=hC.2.1 d h
  have h5:=(k_in hg hC (d.t-1).toNat d.i.toNat (by omega) (by omega)).1 (by rw [eid_eq h1 h3];exact h)
  refine ⟨h1,by rw [keep_thl];exact h2,h3,?_⟩
  rw [kth_len hg hC _ (by omega)]
  omega
omit hg hC in
theorem evT_t {g:Gr} {d:EId} (h:evT g d):d.t≠0:=by have:=h.1;omega
omit hg hC in
theorem event_T {g:Gr} {d:EId} (h:evT g d):eventM g d=some ((g.th.getD (d.t-1).toNat []).getD d.i.toNat ev0):=by
 unfold eventM
 obtain ⟨h1,h2,h3,h4⟩:=h
 rw [if_neg (by omega),if_pos ⟨by omega,h2,h3,h4⟩]
theorem k_event (d:EId) (h:d∈l):eventM (keepM g l) d=eventM g d:=by
 have h0:=hC.2.1 d h
 have hk:=(k_evT hg hC d).2 h
 rw [event_T hk,event_T h0]
 have h1:=hk.2.2.2
 obtain ⟨a1,a2,a3,a4⟩:=h0
 rw [kth_len hg hC _ (by omega)] at h1
 rw [kev hg hC _ _ (by omega) (by omega)]
omit hg hC in
theorem k_event0 (d:EId) (h:d.t=0):eventM (keepM g l) d=eventM g d:=by
 unfold eventM
 rw [if_pos h,if_pos h]
 rfl
theorem k_src (d:EId) (h:d∈l):srcOf (keepM g l) d=srcOf g d:=by
 obtain ⟨a1,a2,a3,a4⟩:=hC.2.1 d h
 have h1:=((k_evT hg hC d).2 h).2.2.2
 rw [kth_len hg hC _ (by omega)] at h1
 unfold srcOf
 rw [kfr hg hC _ (by omega)]
 exact take_getD _ _ (by omega)
theorem k_source (d:EId) (h:d∈l) (hr:readsM ((eventM g d).getD ev0)=true):eventM (keepM g l) (srcOf g d)=eventM g (srcOf g d):=by
 have h0:=hC.2.1 d h
 have hm:d∈idsG g:=by rw [idsG,List.mem_append];exact .inr (evT_iff.1 h0)
 obtain ⟨w,hw,_⟩:=source_mem (src_ok hg hm (evT_t h0)) hr
 have hs:srcOf g d∈idsG g:=idsG_mem.2 (by rw [hw];rfl)
 rw [idsG,List.mem_append,idsI_mem] at hs
 rcases hs with hs | hs
 ·exact k_event0 _ hs.1
 ·exact k_event hg hC _ (hC.2.2 d h _ (evT_iff.2 hs) (.inr ⟨hr,rfl⟩))
theorem k_short:Short (keepM g l):=by
 have _hC:=hC
 refine ⟨by rw [keep_thl];exact hg.short.th,hg.short.init,fun x hx=>?_⟩
 obtain ⟨t,ht,e⟩:=List.getElem_of_mem hx
 have h1:=keep_le g l t
 have h2:=hg.short.at t
 rw [show (keepM g l).th.getD t []=x by simp [ht,e]] at h1
 omega
theorem k_sources:sourcesOk (keepM g l):=by
 intro t ht i hi
 rw [keep_thl] at ht
 rw [kth_len hg hC t ht] at hi
 have hle:=kQ_le hg hC t ht
 have hin:=(k_in hg hC t i ht (by omega)).2 hi
 have hs:=hg.sources t ht i (by omega)
 have e:((keepM g l).fr.getD t []).getD i id0=(g.fr.getD t []).getD i id0:=by
  rw [kfr hg hC t ht];simp [List.getElem?_take,hi]
 rw [e]
 have es:srcOf g ⟨(t:Int)+1,(i:Int)⟩=(g.fr.getD t []).getD i id0:=by
  unfold srcOf
  have:(((⟨(t:Int)+1,(i:Int)⟩:EId).t-1).toNat)=t:=by simp only;omega
  rw [this]
  simp
 unfold sourceM at hs ⊢
 rw [k_event hg hC _ hin]
 by_cases hr:readsM ((eventM g ⟨(t:Int)+1,(i:Int)⟩).getD ev0)=true
 ·rw [if_pos hr] at hs ⊢
  have:=k_source hg hC _ hin hr
  rw [es] at this
  rw [this]
  exact hs
 ·rw [if_neg hr] at hs ⊢
  exact hs
theorem k_events:eventsOk (keepM g l):=by
 intro t ht
 rw [keep_thl] at ht
 have hle:=kQ_le hg hC t ht
 have h1:=hg.events t ht
 refine ⟨by rw [kfr hg hC t ht,kth_len hg hC t ht,List.length_take];omega,fun i hi=>?_⟩
 rw [kth_len hg hC t ht] at hi
 rw [kev hg hC t i ht hi]
 exact h1.2 i (by omega)
omit hg hC in
theorem qs_filter (n:Nat) (hn:n≤g.ord.length):qsT (keepM g l) n=(qsT g n).filter fun p=>decide (p.1∈l):=by
 unfold qsT
 rw [List.filter_flatMap]
 simp only [List.flatMap]
 congr 1
 apply List.map_congr_left
 intro x hx
 have hx:x<g.ord.length:=by have:=List.mem_range.1 hx;omega
 have e:(keepM g l).ord.getD x []=keepO l (g.ord.getD x []):=by simp [keepM,hx]
 rw [e,List.filter_map]
 rfl
omit hg hC in
theorem ws_nodup:∀ t,((wsT g t).map (·.1)).Nodup:=by
 intro t
 unfold wsT List.Nodup
 rw [List.pairwise_map,List.pairwise_flatMap]
 refine ⟨fun k _=>?_,List.nodup_range.imp fun {a b} hab x hx y hy e=>?_⟩
 ·unfold wsE
  rw [List.pairwise_flatMap]
  refine ⟨fun i _=>by split<;>simp,List.nodup_range.imp fun {a b} hab x hx y hy e=>?_⟩
  split at hx<;>simp at hx
  split at hy<;>simp at hy
  subst hx;subst hy
  simp at e
  omega
 ·obtain ⟨i,_,_,rfl⟩:=wsE_mem.1 hx
  obtain ⟨j,_,_,rfl⟩:=wsE_mem.1 hy
  simp at e
  omega
omit hg hC in
theorem nodup_of_map {α β:Type} {f:α→β}:∀ {l:List α},(l.map f).Nodup→l.Nodup:=fun {l} h=>by
 unfold List.Nodup at *
 rw [List.pairwise_map] at h
 exact h.imp fun hab e=>hab (by rw [e])
end
theorem k_ok {g:Gr} {l:List EId} (hg:GOk g) (hC:ClG g l):GOk (keepM g l):=by
 have hlo:(keepM g l).ord.length=(keepM g l).init.length:=by
  show (g.ord.map (keepO l)).length=g.init.length
  rw [List.length_map];exact hg.lord
 have hev:=k_events hg hC
 refine ⟨k_short hg hC,by simp [keepM],hlo,hev,k_sources hg hC,(orders_perm hlo hev).2 ?_⟩
 have hp:=(orders_perm hg.lord hg.events).1 hg.orders
 have e1:(keepM g l).ord.length=g.ord.length:=by simp [keepM]
 rw [e1,qs_filter _ (Nat.le_refl _),keep_thl]
 refine (hp.filter _).trans ?_
 refine (List.perm_ext_iff_of_nodup ((nodup_of_map (ws_nodup _)).filter _) (nodup_of_map (ws_nodup _))).2 fun p=>?_
 rw [List.mem_filter,decide_eq_true_eq,wsT_mem,wsT_mem]
 constructor
 ·rintro ⟨⟨t,ht,i,hi,hw,rfl⟩,hin⟩
  have hk:=(k_in hg hC t i ht hi).1 hin
  refine ⟨t,ht,i,by rw [kth_len hg hC t ht];exact hk,?_,?_⟩
  ·rw [kev hg hC t i ht hk];exact hw
  ·rw [kev hg hC t i ht hk]
 ·rintro ⟨t,ht,i,hi,hw,rfl⟩
  rw [kth_len hg hC t ht] at hi
  rw [kev hg hC t i ht hi] at hw ⊢
  have hle:=kQ_le hg hC t ht
  exact ⟨⟨t,ht,i,by omega,hw,rfl⟩,(k_in hg hC t i ht (by omega)).2 hi⟩
end Go.AL.Rl
namespace Go.AL.Rl
open Go Go.AL Go.Proofs
set_option maxRecDepth 100000
set_option maxHeartbeats 3200000
theorem sub_or {α:Type}:∀ {l:List α} {x y:α},x∈l→y∈l→x≠y→[x,y].Sublist l∨[y,x].Sublist l
 | [],_,_,h,_,_=>by cases h
 | a :: l,x,y,hx,hy,hne=>by
  rcases List.mem_cons.1 hx with hx1 | hx1
  ·rcases List.mem_cons.1 hy with hy1 | hy1
   ·exact absurd (hx1.trans hy1.symm) hne
   ·rw [hx1];exact .inl (List.Sublist.cons_cons _ (List.singleton_sublist.2 hy1))
  ·rcases List.mem_cons.1 hy with hy1 | hy1
   ·rw [hy1];exact .inr (List.Sublist.cons_cons _ (List.singleton_sublist.2 hx1))
   ·exact (sub_or hx1 hy1 hne).imp (fun h=>h.cons _) (fun h=>h.cons _)
section
variable {g:Gr} {l:List EId} (hg:GOk g) (hC:ClG g l)
include hg hC
end
end Go.AL.Rl
namespace Go.AL.Rl
open Go Go.AL Go.Proofs
set_option maxRecDepth 100000
set_option maxHeartbeats 1600000
variable {γ:Nat→Option AV}
structure Ft where
 a:Int
 b:Int
 br:Bool
abbrev aFt (f:Ft):AV:=.agg [.i fun _=>f.a,.i fun _=>f.b,.b fun _=>f.br]
def ft0:Ft:=⟨0,0,false⟩
def leadM (p:Nat→Bool) (n:Nat):Option Nat:=(List.range n).find? p
theorem leadM_succ (p:Nat→Bool) (n:Nat):leadM p (n+1)=(leadM p n).or (if p n=true then some n else none):=by
 unfold leadM
 rw [List.range_succ,List.find?_append]
 congr 1
 by_cases h:p n=true
 ·rw [if_pos h,List.find?_cons_of_pos h]
 ·rw [if_neg h,List.find?_cons_of_neg h];rfl
theorem leadM_none {p:Nat→Bool}:∀ {n:Nat},(∀ k<n,p k=false)→leadM p n=none
 | 0,_=>rfl
 | n+1,h=>by rw [leadM_succ,leadM_none fun k hk=>h k (by omega),h n (by omega)];rfl
theorem leadM_some {p:Nat→Bool} {i:Nat} (hi:p i=true) (hb:∀ k<i,p k=false):∀ {n:Nat},i<n→leadM p n=some i
 | n+1,h=>by
  rw [leadM_succ]
  by_cases e:n=i
  ·subst e;rw [leadM_none hb,if_pos hi];rfl
  ·rw [leadM_some hi hb (n:=n) (by omega)];rfl
theorem leadM_mem {p:Nat→Bool} {i:Nat}:∀ {n:Nat},leadM p n=some i→i<n∧p i=true∧∀ k<i,p k=false
 | 0,h=>by cases h
 | n+1,h=>by
  rw [leadM_succ] at h
  cases hf:leadM p n with
  | some j=>rw [hf] at h;cases h;have:=leadM_mem hf;exact ⟨by omega,this.2⟩
  | none=>
   rw [hf] at h
   by_cases hp:p n=true
   ·simp [hp] at h;subst h
    refine ⟨by omega,hp,fun k hk=>?_⟩
    have hn:=List.find?_eq_none.1 hf k (by simpa using hk)
    simpa using hn
   ·simp [hp] at h
theorem leadM_nothing {p:Nat→Bool} {n:Nat} (h:leadM p n=none):∀ k<n,p k=false:=fun k hk=>by
 have hn:=List.find?_eq_none.1 h k (by simpa using hk)
 simpa using hn
def ftOf:Option Nat→Ft
 | some i=>⟨i,-1,true⟩
 | none=>ft0
def circF (rows:List (BitVec 64)):Ft:=ftOf (leadM (fun i=>bit rows i i) rows.length)
theorem circF_at {rows:List (BitVec 64)} {i:Nat} (hi:i<rows.length) (h:bit rows i i=true) (hb:∀ k<i,bit rows k k=false):circF rows=⟨i,-1,true⟩:=by
 unfold circF;rw [leadM_some (p:=fun i=>bit rows i i) h hb hi];rfl
theorem circF_no {rows:List (BitVec 64)} (hb:∀ k<rows.length,bit rows k k=false):circF rows=⟨0,0,false⟩:=by
 unfold circF;rw [leadM_none (p:=fun i=>bit rows i i) hb];rfl
def updB (V:Vw) (k:Nat):Bool:=decide ((V.ev.getD k ev0).kind=3) && decide (V.pl.getD k 0≠V.pl.getD (V.fr.getD k 0).toNat 0+1)
def updF (V:Vw) (n:Nat):Ft:=ftOf (leadM (updB V) n)
theorem updF_at {V:Vw} {n i:Nat} (hi:i<n) (h:updB V i=true) (hb:∀ k<i,updB V k=false):updF V n=⟨i,-1,true⟩:=by
 unfold updF;rw [leadM_some h hb hi];rfl
theorem updF_no {V:Vw} {n:Nat} (hb:∀ k<n,updB V k=false):updF V n=⟨0,0,false⟩:=by
 unfold updF;rw [leadM_none hb];rfl
def cohB (hb eco:List (BitVec 64)) (a b:Nat):Bool:=decide (a≠b) && bit hb a b && bit eco b a
def cohR (hb eco:List (BitVec 64)) (a:Nat):Option Nat:=leadM (cohB hb eco a) eco.length
def cohF (hb eco:List (BitVec 64)):Ft:=
 match leadM (fun a=>(cohR hb eco a).isSome) hb.length with
 | some a=>⟨a,((cohR hb eco a).getD 0:Nat),true⟩
 | none=>ft0
theorem cohF_at {hb eco:List (BitVec 64)} {a b:Nat} (ha:a<hb.length) (hbl:b<eco.length) (h:cohB hb eco a b=true) (hr:∀ k<b,cohB hb eco a k=false) (hp:∀ k<a,∀ j<eco.length,cohB hb eco k j=false) :
  cohF hb eco=⟨a,b,true⟩:=by
 have e1:cohR hb eco a=some b:=leadM_some h hr hbl
 have e2:leadM (fun a=>(cohR hb eco a).isSome) hb.length=some a:=leadM_some (by simp [e1]) (fun k hk=>by
  have:cohR hb eco k=none:=leadM_none (hp k hk)
  simp [this]) ha
 unfold cohF;rw [e2];simp [e1]
theorem cohF_no {hb eco:List (BitVec 64)} (hp:∀ k<hb.length,∀ j<eco.length,cohB hb eco k j=false):cohF hb eco=⟨0,0,false⟩:=by
 have e2:leadM (fun a=>(cohR hb eco a).isSome) hb.length=none:=leadM_none fun k hk=>by
  have:cohR hb eco k=none:=leadM_none (hp k hk)
  simp [this]
 unfold cohF;rw [e2];rfl
def togF (V:Vw) (n:Nat):List (BitVec 64):=orM n [((n:Int),poF V n),((n:Int),rfF V n),((n:Int),coF V n),((n:Int),frF V n)]
noncomputable def fltM (V:Vw) (n:Nat) (k:Int):Ft:=
 if k=2 then updF V n else if k=3 then circF (porfF V n) else if k=4 then circF (hbF V n) else if k=5 then cohF (hbF V n) (ecoF V n) else if k=6 then circF (plusM n (togF V n)) else ft0
def rulesM (m:Int):List Int:=if m=1 then [1,2,6] else if m=2 then [1,2,3,4,5] else []
structure Bk where
 rule:Int
 a:Int
 b:Int
 br:Bool
end Go.AL.Rl
namespace Go.AL.Rl
open Go Go.AL Go.Proofs
set_option maxRecDepth 100000
set_option maxHeartbeats 1600000
variable {γ:Nat→Option AV}
end Go.AL.Rl
namespace Go.AL.Rl
open Go Go.AL Go.Proofs
set_option maxRecDepth 100000
set_option maxHeartbeats 1600000
variable {γ:Nat→Option AV}
end Go.AL.Rl
namespace Go.AL.Rl
open Go Go.AL Go.Proofs
set_option maxRecDepth 100000
set_option maxHeartbeats 1600000
variable {γ:Nat→Option AV}
end Go.AL.Rl
namespace Go.AL.Rl
open Go Go.AL Go.Proofs
set_option maxRecDepth 100000
set_option maxHeartbeats 1600000
variable {γ:Nat→Option AV}
end Go.AL.Rl
namespace Go.AL.Rl
open Go Go.AL Go.Proofs
set_option maxRecDepth 100000
set_option maxHeartbeats 1600000
variable {γ:Nat→Option AV}
end Go.AL.Rl
namespace Go.AL.Rl
open Go Go.AL Go.Proofs
set_option maxRecDepth 100000
set_option maxHeartbeats 1600000
variable {γ:Nat→Option AV}
end Go.AL.Rl
namespace Go.AL.Rl
open Go Go.AL Go.Proofs
set_option maxRecDepth 100000
set_option maxHeartbeats 1600000
variable {γ:Nat→Option AV}
end Go.AL.Rl
namespace Go.AL.Rl
open Go Go.AL Go.Proofs
set_option maxRecDepth 100000
set_option maxHeartbeats 1600000
variable {γ:Nat→Option AV}
end Go.AL.Rl
namespace Go.AL.Rl
open Go Go.AL Go.Proofs
set_option maxRecDepth 100000
set_option maxHeartbeats 1600000
variable {γ:Nat→Option AV}
end Go.AL.Rl
namespace Go.AL.Rl
open Go Go.AL Go.Proofs
set_option maxRecDepth 100000
set_option maxHeartbeats 1600000
variable {γ:Nat→Option AV}
end Go.AL.Rl
namespace Go.AL.Rl
open Go Go.AL Go.Proofs
set_option maxRecDepth 100000
set_option maxHeartbeats 1600000
variable {γ:Nat→Option AV}
end Go.AL.Rl
namespace Go.AL.Rl
open Go Go.AL Go.Proofs
set_option maxRecDepth 100000
set_option maxHeartbeats 1600000
def caM (V:Vw) (b a:Nat):Bool:=acqM (V.ev.getD a ev0) && (decide (a=b) || fenceM (V.ev.getD a ev0) && poM V b a)
theorem rowT_bit (V:Vw) (n r a:Nat):∀ w,(rowT V n w r).getLsbD a=true↔∃ v<w,swR V v r=true∧(tgtM V n v).getLsbD a=true
 | 0=>by simp [rowT]
 | w+1=>by
  have ih:=rowT_bit V n r a w
  unfold rowT
  constructor
  ·intro h
   split at h
   ·rw [BitVec.getLsbD_or,Bool.or_eq_true] at h
    rcases h with h | h
    ·obtain ⟨v,hv,h1,h2⟩:=ih.1 h;exact ⟨v,by omega,h1,h2⟩
    ·exact ⟨w,by omega,by assumption,h⟩
   ·obtain ⟨v,hv,h1,h2⟩:=ih.1 h;exact ⟨v,by omega,h1,h2⟩
  ·rintro ⟨v,hv,h1,h2⟩
   by_cases hvw:v=w
   ·subst hvw
    rw [if_pos h1,BitVec.getLsbD_or,h2,Bool.or_true]
   ·have h3:=ih.2 ⟨v,by omega,h1,h2⟩
    split
    ·rw [BitVec.getLsbD_or,h3];rfl
    ·exact h3
theorem ne0_bit (x:BitVec 64):x≠0#64↔∃ j,x.getLsbD j=true:=by
 constructor
 ·intro h
  refine Classical.byContradiction fun hc=>h (BitVec.eq_of_getLsbD_eq fun i hi=>?_)
  cases hx:x.getLsbD i with
  | true=>exact absurd ⟨i,hx⟩ hc
  | false=>simp
 ·rintro ⟨j,hj⟩ h
  subst h;simp at hj
theorem tgt_bit (V:Vw) (n w a:Nat) (hn:n≤62):(tgtM V n w).getLsbD a=true↔a<n∧∃ b<n,rdrM V (seqM V n w) b=true∧caM V b a=true:=by
 unfold tgtM
 rw [mask_bit _ _ (by omega)]
 simp only [Bool.and_eq_true,decide_eq_true_eq,behM,Bool.or_eq_true,ne0_bit,BitVec.getLsbD_and,mask_bit _ _ (show n≤64 by omega),caM]
 constructor
 ·rintro ⟨h1,h2,⟨h3,h4⟩ | ⟨h3,j,⟨h4,h5⟩,h6,h7⟩⟩
  ·exact ⟨h1,a,h3,h4,h2,.inl rfl⟩
  ·exact ⟨h1,j,h4,h5,h2,.inr ⟨h3,h7⟩⟩
 ·rintro ⟨h1,b,h2,h3,h4,h5 | ⟨h5,h6⟩⟩
  ·subst h5;exact ⟨h1,h4,.inl ⟨h2,h3⟩⟩
  ·exact ⟨h1,h4,.inr ⟨h5,b,⟨h2,h3⟩,h2,h6⟩⟩
end Go.AL.Rl
namespace Go.AL.Rl
open Go Go.AL Go.Proofs
set_option maxRecDepth 100000
set_option maxHeartbeats 3200000
structure Emb (V U:Vw) (n m:Nat) (f:Nat→Nat):Prop where
 lt:∀ i<n,f i<m
 inj:∀ i<n,∀ j<n,f i=f j→i=j
 ids:∀ i<n,U.ids.getD (f i) id0=V.ids.getD i id0
 ev:∀ i<n,U.ev.getD (f i) ev0=V.ev.getD i ev0
 fr:∀ i<n,∀ j<n,V.fr.getD i 0=(j:Nat)→U.fr.getD (f i) 0=(f j:Nat)
 pl:∀ i<n,∀ j<n,nearM V i j=true→0≤V.pl.getD i 0→V.pl.getD i 0<V.pl.getD j 0→0≤U.pl.getD (f i) 0∧U.pl.getD (f i) 0<U.pl.getD (f j) 0
 upd:∀ i<n,(V.ev.getD i ev0).kind=3→U.pl.getD (f i) 0=U.pl.getD (U.fr.getD (f i) 0).toNat 0+1→V.pl.getD i 0=V.pl.getD (V.fr.getD i 0).toNat 0+1
theorem sw_iffE {V:Vw} {n:Nat} (hn:n≤62) {r a:Nat}:bit (swF V n) r a=true↔r<n∧a<n∧∃ w<n,swR V w r=true∧∃ b<n,rdrM V (seqM V n w) b=true∧caM V b a=true:=by
 unfold swF
 rw [bit_rel (by omega)]
 simp only [Bool.and_eq_true,decide_eq_true_eq]
 refine and_congr_right fun hr=>and_congr_right fun ha=>?_
 have e:bit (swRows V n) r a=(rowT V n n r).getLsbD a:=by unfold bit swRows;rw [tab_get n _ r hr]
 rw [e,rowT_bit]
 constructor
 ·rintro ⟨w,hw,h1,h2⟩
  rw [tgt_bit V n w a hn] at h2
  exact ⟨w,hw,h1,h2.2⟩
 ·rintro ⟨w,hw,h1,h2⟩
  exact ⟨w,hw,h1,(tgt_bit V n w a hn).2 ⟨ha,h2⟩⟩
theorem circ_br {rows:List (BitVec 64)}:(circF rows).br=true↔∃ i<rows.length,bit rows i i=true:=by
 unfold circF
 cases e:leadM (fun i=>bit rows i i) rows.length with
 | some i=>
  obtain ⟨h1,h2,_⟩:=leadM_mem e
  exact ⟨fun _=>⟨i,h1,h2⟩,fun _=>rfl⟩
 | none=>
  constructor
  ·intro h;cases h
  ·rintro ⟨i,h1,h2⟩
   rw [leadM_nothing e i h1] at h2;cases h2
theorem upd_br {V:Vw} {n:Nat}:(updF V n).br=true↔∃ i<n,updB V i=true:=by
 unfold updF
 cases e:leadM (updB V) n with
 | some i=>
  obtain ⟨h1,h2,_⟩:=leadM_mem e
  exact ⟨fun _=>⟨i,h1,h2⟩,fun _=>rfl⟩
 | none=>
  constructor
  ·intro h;cases h
  ·rintro ⟨i,h1,h2⟩
   rw [leadM_nothing e i h1] at h2;cases h2
theorem coh_br {hb eco:List (BitVec 64)}:(cohF hb eco).br=true↔∃ a<hb.length,∃ b<eco.length,cohB hb eco a b=true:=by
 unfold cohF
 cases e:leadM (fun a=>(cohR hb eco a).isSome) hb.length with
 | some a=>
  obtain ⟨h1,h2,_⟩:=leadM_mem e
  obtain ⟨b,hb2⟩:=Option.isSome_iff_exists.1 h2
  obtain ⟨h3,h4,_⟩:=leadM_mem hb2
  exact ⟨fun _=>⟨a,h1,b,h3,h4⟩,fun _=>rfl⟩
 | none=>
  constructor
  ·intro h;cases h
  ·rintro ⟨a,h1,b,h2,h3⟩
   have:=leadM_nothing e a h1
   cases e2:cohR hb eco a with
   | some x=>rw [e2] at this;cases this
   | none=>rw [leadM_nothing e2 b h2] at h3;cases h3
theorem hb_fits (V:Vw) {n:Nat} (h:n≤62):Fits n (hbF V n):=fits_plus (fits_or2 (fits_poF V h) (fits_swF V h))
theorem eco_fits (V:Vw) {n:Nat} (h:n≤62):Fits n (ecoF V n):=fits_plus (fits_orP V h)
section
variable {V U:Vw} {n m:Nat} {f:Nat→Nat} (E:Emb V U n m f) (hV:Wf V n) (hU:Wf U m)
include E
theorem e_po {i j:Nat} (hi:i<n) (hj:j<n):poM U (f i) (f j)=poM V i j:=by
 unfold poM;rw [E.ids i hi,E.ids j hj]
theorem e_rf {i j:Nat} (hi:i<n) (hj:j<n) (h:rfM V i j=true):rfM U (f i) (f j)=true:=by
 unfold rfM at *
 rw [decide_eq_true_eq] at *
 exact E.fr j hj i hi h
theorem e_near {i j:Nat} (hi:i<n) (hj:j<n):nearM U (f i) (f j)=nearM V i j:=by
 unfold nearM;rw [E.ev i hi,E.ev j hj]
theorem e_co {i j:Nat} (hi:i<n) (hj:j<n) (h:coM V i j=true):coM U (f i) (f j)=true:=by
 unfold coM at *
 simp only [Bool.and_eq_true,decide_eq_true_eq] at *
 obtain ⟨⟨h1,h2⟩,h3⟩:=h
 have:=E.pl i hi j hj h2 h1 h3
 exact ⟨⟨this.1,by rw [e_near E hi hj];exact h2⟩,this.2⟩
include hV
theorem e_fr {i j:Nat} (hi:i<n) (hj:j<n) (h:frM V i j=true):frM U (f i) (f j)=true:=by
 unfold frM at *
 simp only [Bool.and_eq_true,decide_eq_true_eq] at *
 obtain ⟨⟨h1,h2⟩,h3⟩:=h
 have hl:=hV.frl i hi
 have hk:(V.fr.getD i 0).toNat<n:=by omega
 have e:=E.fr i hi (V.fr.getD i 0).toNat hk (by omega)
 refine ⟨⟨fun h=>h1 (E.inj i hi j hj h),by omega⟩,?_⟩
 rw [e]
 have:((f (V.fr.getD i 0).toNat:Nat):Int).toNat=f (V.fr.getD i 0).toNat:=by omega
 rw [this]
 exact e_co E hk hj h3
theorem e_seq {w:Nat} (hw:w<n) {j:Nat} (h:InSeq V n w j):InSeq U m (f w) (f j):=by
 induction h with
 | base=>exact .base
 | @step i hi hk hs ih=>
  have hr:readsM (V.ev.getD i ev0)=true:=by unfold readsM;rw [hk];rfl
  have h1:=hV.frg i hi hr
  have h2:=hV.frl i hi
  have e:=E.fr i hi (V.fr.getD i 0).toNat (by omega) (by omega)
  refine .step (E.lt i hi) (by rw [E.ev i hi];exact hk) ?_
  rw [e]
  have:((f (V.fr.getD i 0).toNat:Nat):Int).toNat=f (V.fr.getD i 0).toNat:=by omega
  rw [this];exact ih
include hU
theorem e_sw {i j:Nat} (h:bit (swF V n) i j=true):bit (swF U m) (f i) (f j)=true:=by
 rw [sw_iffE hV.small] at h
 obtain ⟨hi,hj,w,hw,h1,b,hb,h2,h3⟩:=h
 rw [sw_iffE hU.small]
 refine ⟨E.lt i hi,E.lt j hj,f w,E.lt w hw,?_,f b,E.lt b hb,?_,?_⟩
 ·unfold swR at *
  rw [E.ev w hw,E.ev i hi,e_po E hi hw]
  simp only [Bool.and_eq_true,Bool.or_eq_true,decide_eq_true_eq] at *
  refine ⟨h1.1,h1.2.imp (fun h=>by rw [h]) id⟩
 ·unfold rdrM at *
  rw [E.ev b hb]
  simp only [Bool.and_eq_true,decide_eq_true_eq] at *
  refine ⟨h2.1,?_⟩
  have hlt:=hV.frl b hb
  have hg:=hV.frg b hb h2.1.1
  have e:=E.fr b hb (V.fr.getD b 0).toNat (by omega) (by omega)
  rw [e]
  have:((f (V.fr.getD b 0).toNat:Nat):Int).toNat=f (V.fr.getD b 0).toNat:=by omega
  rw [this]
  have hs:=(seq_bit (by have:=hV.small;omega) hw _).1 h2.2
  exact (seq_bit (by have:=hU.small;omega) (E.lt w hw) _).2 (e_seq E hV hw hs)
 ·unfold caM at *
  rw [E.ev j hj,e_po E hb hj]
  simp only [Bool.and_eq_true,Bool.or_eq_true,decide_eq_true_eq] at *
  refine ⟨h3.1,h3.2.imp (fun h=>by rw [h]) id⟩
theorem e_rel {p q:Nat→Nat→Bool} (h:∀ i<n,∀ j<n,p i j=true→q (f i) (f j)=true) {i j:Nat} (hb:bit (relRows n p) i j=true):bit (relRows m q) (f i) (f j)=true:=by
 rw [bit_relI hV.small] at hb
 rw [bit_relI hU.small]
 exact ⟨E.lt i hb.1,E.lt j hb.2.1,h i hb.1 j hb.2.1 hb.2.2⟩
omit E hV hU in
theorem e_plus {A B:List (BitVec 64)} (hB:Fits m B) (h:∀ i j,bit A i j=true→bit B (f i) (f j)=true) {i j:Nat} (hb:bit (plusM n A) i j=true):bit (plusM m B) (f i) (f j)=true:=
 plus_least (fun i j=>bit (plusM m B) (f i) (f j)=true) (fun i j h1=>plus_edge (h i j h1)) (fun i k j h1 h2=>plus_trans hB h1 h2) hb
theorem e_orM {l k:List (Int × List (BitVec 64))} (h:∀ x∈l,∃ y∈k,∀ i j,bit x.2 i j=true→bit y.2 (f i) (f j)=true) {i j:Nat} (hb:bit (orM n l) i j=true):bit (orM m k) (f i) (f j)=true:=by
 have _hV:=hV
 have _hU:=hU
 rw [bit_orM] at hb ⊢
 obtain ⟨hi,x,hx,hb⟩:=hb
 obtain ⟨y,hy,h2⟩:=h x hx
 exact ⟨E.lt i hi,y,hy,h2 i j hb⟩
theorem e_porf {i j:Nat} (h:bit (porfF V n) i j=true):bit (porfF U m) (f i) (f j)=true:=by
 have hf:=fits_or2 (fits_poF U hU.small) (fits_rfF U hU.small)
 refine e_plus hf (fun i j h=>?_) h
 refine e_orM E hV hU (fun x hx=>?_) h
 simp only [List.mem_cons,List.not_mem_nil,or_false] at hx
 rcases hx with rfl | rfl
 ·exact ⟨((m:Int),poF U m),by simp,fun i j h=>e_rel E hV hU (p:=poM V) (q:=poM U) (fun i hi j hj h=>by rw [e_po E hi hj];exact h) h⟩
 ·exact ⟨((m:Int),rfF U m),by simp,fun i j h=>e_rel E hV hU (fun i hi j hj h=>e_rf E hi hj h) h⟩
theorem e_hb {i j:Nat} (h:bit (hbF V n) i j=true):bit (hbF U m) (f i) (f j)=true:=by
 have hf:=fits_or2 (fits_poF U hU.small) (fits_swF U hU.small)
 refine e_plus hf (fun i j h=>?_) h
 refine e_orM E hV hU (fun x hx=>?_) h
 simp only [List.mem_cons,List.not_mem_nil,or_false] at hx
 rcases hx with rfl | rfl
 ·exact ⟨((m:Int),poF U m),by simp,fun i j h=>e_rel E hV hU (p:=poM V) (q:=poM U) (fun i hi j hj h=>by rw [e_po E hi hj];exact h) h⟩
 ·exact ⟨((m:Int),swF U m),by simp,fun i j h=>e_sw E hV hU h⟩
theorem e_eco {i j:Nat} (h:bit (ecoF V n) i j=true):bit (ecoF U m) (f i) (f j)=true:=by
 refine e_plus (fits_orP U hU.small) (fun i j h=>?_) h
 refine e_orM E hV hU (fun x hx=>?_) h
 simp only [List.mem_cons,List.not_mem_nil,or_false] at hx
 rcases hx with rfl | rfl | rfl
 ·exact ⟨((m:Int),rfF U m),by simp,fun i j h=>e_rel E hV hU (fun i hi j hj h=>e_rf E hi hj h) h⟩
 ·exact ⟨((m:Int),coF U m),by simp,fun i j h=>e_rel E hV hU (fun i hi j hj h=>e_co E hi hj h) h⟩
 ·exact ⟨((m:Int),frF U m),by simp,fun i j h=>e_rel E hV hU (fun i hi j hj h=>e_fr E hV hi hj h) h⟩
omit E hV in
theorem fits_tog:Fits m (togF U m):=fits_or (by have:=hU.small;omega) (by simp [fits_poF U hU.small,fits_rfF U hU.small,fits_coF U hU.small,fits_frF U hU.small])
theorem e_tog {i j:Nat} (h:bit (plusM n (togF V n)) i j=true):bit (plusM m (togF U m)) (f i) (f j)=true:=by
 refine e_plus (fits_tog hU) (fun i j h=>?_) h
 refine e_orM E hV hU (fun x hx=>?_) h
 simp only [List.mem_cons,List.not_mem_nil,or_false] at hx
 rcases hx with rfl | rfl | rfl | rfl
 ·exact ⟨((m:Int),poF U m),by simp,fun i j h=>e_rel E hV hU (p:=poM V) (q:=poM U) (fun i hi j hj h=>by rw [e_po E hi hj];exact h) h⟩
 ·exact ⟨((m:Int),rfF U m),by simp,fun i j h=>e_rel E hV hU (fun i hi j hj h=>e_rf E hi hj h) h⟩
 ·exact ⟨((m:Int),coF U m),by simp,fun i j h=>e_rel E hV hU (fun i hi j hj h=>e_co E hi hj h) h⟩
 ·exact ⟨((m:Int),frF U m),by simp,fun i j h=>e_rel E hV hU (fun i hi j hj h=>e_fr E hV hi hj h) h⟩
theorem e_circ {A B:List (BitVec 64)} (h:∀ i j,bit A i j=true→bit B (f i) (f j)=true) (hb:(circF A).br=true):(circF B).br=true:=by
 have _E:=E
 have _hV:=hV
 have _hU:=hU
 obtain ⟨i,_,h2⟩:=circ_br.1 hb
 have:=h i i h2
 refine circ_br.2 ⟨f i,?_,this⟩
 rcases Nat.lt_or_ge (f i) B.length with h3 | h3
 ·exact h3
 ·rw [bit_out h3] at this;cases this
theorem flt_emb (k:Int) (h:(fltM V n k).br=true):(fltM U m k).br=true:=by
 unfold fltM at *
 split at h
 ·rename_i e
  rw [if_pos e]
  obtain ⟨i,hi,hb⟩:=upd_br.1 h
  refine upd_br.2 ⟨f i,E.lt i hi,?_⟩
  unfold updB at *
  rw [Bool.and_eq_true,decide_eq_true_eq,decide_eq_true_eq] at *
  exact ⟨by rw [E.ev i hi];exact hb.1,fun h=>hb.2 (E.upd i hi hb.1 h)⟩
 ·rename_i e1
  rw [if_neg e1]
  split at h
  ·rename_i e;rw [if_pos e];exact e_circ E hV hU (fun i j=>e_porf E hV hU) h
  ·rename_i e2
   rw [if_neg e2]
   split at h
   ·rename_i e;rw [if_pos e];exact e_circ E hV hU (fun i j=>e_hb E hV hU) h
   ·rename_i e3
    rw [if_neg e3]
    split at h
    ·rename_i e
     rw [if_pos e]
     obtain ⟨a,ha,b,hb,hc⟩:=coh_br.1 h
     unfold cohB at hc
     simp only [Bool.and_eq_true,decide_eq_true_eq] at hc
     have z1:=e_hb E hV hU hc.1.2
     have z2:=e_eco E hV hU hc.2
     have f1:=fits_bits (hb_fits V hV.small) hc.1.2
     have l1:((hbF V n).length:Int)=n:=(hb_fits V hV.small).2.2.1
     refine coh_br.2 ⟨f a,(fits_bits (hb_fits U hU.small) z1).1,f b,(fits_bits (eco_fits U hU.small) z2).1,?_⟩
     unfold cohB
     simp only [Bool.and_eq_true,decide_eq_true_eq]
     exact ⟨⟨fun e=>hc.1.1 (E.inj a (by omega) b (by omega) e),z1⟩,z2⟩
    ·rename_i e4
     rw [if_neg e4]
     split at h
     ·rename_i e;rw [if_pos e];exact e_circ E hV hU (fun i j=>e_tog E hV hU) h
     ·cases h
end
end Go.AL.Rl
namespace Go.AL.Rl
open Go Go.AL Go.Proofs
set_option maxRecDepth 100000
set_option maxHeartbeats 3200000
theorem numOf_sub {L:List EId} (hn:L.Nodup) {x y:EId} (hx:x∈L) (hy:y∈L):numOf L x<numOf L y↔[x,y].Sublist L:=by
 have hp:L.Pairwise fun x y=>numOf L x<numOf L y:=by
  rw [List.pairwise_iff_getElem]
  intro i j hi hj hij
  have h1:=numOf_at hn hi
  have h2:=numOf_at hn hj
  rw [show L.getD i id0=L[i] by simp [hi]] at h1
  rw [show L.getD j id0=L[j] by simp [hj]] at h2
  omega
 have hs:∀ {a b:EId},[a,b].Sublist L→numOf L a<numOf L b:=fun h=>List.pairwise_iff_forall_sublist.1 hp h
 constructor
 ·intro h
  rcases sub_or hx hy (fun e=>by rw [e] at h;omega) with h1 | h1
  ·exact h1
  ·have:=hs h1;omega
 ·exact fun h=>hs h
theorem numOf_filter {L:List EId} (hn:L.Nodup) (p:EId→Bool) {x y:EId} (hx:x∈L.filter p) (hy:y∈L.filter p) (h:numOf (L.filter p) x<numOf (L.filter p) y):numOf L x<numOf L y:=
 (numOf_sub hn (List.mem_filter.1 hx).1 (List.mem_filter.1 hy).1).2 (((numOf_sub (hn.filter p) hx hy).1 h).trans List.filter_sublist)
theorem pl_in {g:Gr} {d:EId} (h0:d.t≠0) (h:0≤plOf g d):d∈g.ord.getD ((eventM g d).getD ev0).loc.toNat []∧plOf g d=(numOf (g.ord.getD ((eventM g d).getD ev0).loc.toNat []) d:Nat)+1:=by
 unfold plOf at *
 rw [if_neg h0] at *
 cases e:(g.ord.getD ((eventM g d).getD ev0).loc.toNat []).findIdx? fun x=>decide (x=d) with
 | none=>rw [e] at h;simp at h
 | some k=>
  have hm:d∈g.ord.getD ((eventM g d).getD ev0).loc.toNat []:=by
   rw [List.findIdx?_eq_some_iff_getElem] at e
   obtain ⟨h1,h2,_⟩:=e
   rw [decide_eq_true_eq] at h2
   have:=List.getElem_mem h1
   rwa [h2] at this
  refine ⟨hm,?_⟩
  unfold numOf
  rw [e];rfl
theorem pl_has {g:Gr} {d:EId} (h0:d.t≠0) (h:d∈g.ord.getD ((eventM g d).getD ev0).loc.toNat []):plOf g d=(numOf (g.ord.getD ((eventM g d).getD ev0).loc.toNat []) d:Nat)+1:=by
 unfold plOf
 rw [if_neg h0,numOf_find h]
theorem ord_nodup {g:Gr} (hg:GOk g) (x:Nat):(g.ord.getD x []).Nodup:=by
 rcases Nat.lt_or_ge x g.init.length with h | h
 ·exact ((ordered_iff g x).1 (hg.orders x h)).1
 ·have:g.ord.getD x []=[]:=by
   rw [List.getD_eq_getElem?_getD,List.getElem?_eq_none (by have:=hg.lord;omega)];rfl
  rw [this];exact List.nodup_nil
theorem adj_split {L:List EId} {k:Nat} (hk:k<L.length):L=L.take k++L.getD k id0 :: L.drop (k+1):=by
 rw [show L.getD k id0=L[k] by simp [hk],←List.drop_eq_getElem_cons hk,List.take_append_drop]
theorem adj_at {L:List EId} (hn:L.Nodup) {A B:List EId} {x:EId} (e:L=A++x :: B):numOf L x=A.length:=by
 have h1:A.length<L.length:=by rw [e];simp
 have h2:L.getD A.length id0=x:=by rw [e];simp
 have:=numOf_at hn h1
 rwa [h2] at this
theorem adj_first {L:List EId} (hn:L.Nodup) (l:List EId) {x:EId} (hx:x∈L) (hl:x∈l) (h0:numOf L x=0):numOf (keepO l L) x=0:=by
 have hk:=numOf_lt hx
 have e:=adj_split hk
 rw [numOf_get hx,h0,List.take_zero,List.nil_append] at e
 have e2:keepO l L=[]++x :: keepO l (L.drop (0+1)):=by
  conv=>lhs;rw [e]
  unfold keepO
  rw [List.filter_cons_of_pos (by simpa using hl)];rfl
 exact adj_at (hn.filter _) e2
theorem adj_next {L:List EId} (hn:L.Nodup) (l:List EId) {s d:EId} (hs:s∈L) (hd:d∈L) (hsl:s∈l) (hdl:d∈l) (h:numOf L d=numOf L s+1):numOf (keepO l L) d=numOf (keepO l L) s+1:=by
 have hk:=numOf_lt hd
 have e:=adj_split hk
 rw [numOf_get hd] at e
 have e1:L.take (numOf L d)=L.take (numOf L s)++[s]:=by
  rw [h,take_succ' _ _ id0 (numOf_lt hs),numOf_get hs]
 rw [e1] at e
 generalize L.take (numOf L s)=A at e
 generalize L.drop (numOf L d+1)=B at e
 have f1:keepO l L=keepO l A++s :: (d :: keepO l B):=by
  conv=>lhs;rw [e]
  unfold keepO
  rw [List.filter_append,List.filter_append,List.filter_cons_of_pos (by simpa using hsl),List.filter_cons_of_pos (by simpa using hdl),List.filter_nil]
  simp
 have f2:keepO l L=(keepO l A++[s])++d :: keepO l B:=by rw [f1];simp
 rw [adj_at (L:=keepO l L) (hn.filter _) f1,adj_at (L:=keepO l L) (hn.filter _) f2]
 simp
section
variable {g:Gr} {l:List EId} (hg:GOk g) (hC:ClG g l)
include hg hC
theorem k_idsT (d:EId):d∈idsT (keepM g l) (keepM g l).th.length↔d∈l:=by
 rw [←evT_iff];exact k_evT hg hC d
theorem k_idsG (d:EId) (h:d∈idsG (keepM g l)):d∈idsG g∧(d.t=0∨d∈l):=by
 rw [idsG,List.mem_append,idsI_mem] at h
 rw [idsG,List.mem_append,idsI_mem]
 rcases h with h | h
 ·exact ⟨.inl h,.inl h.1⟩
 ·have:=(k_idsT hg hC d).1 h
  exact ⟨.inr (evT_iff.1 (hC.2.1 d this)),.inr this⟩
theorem k_ord (x:Nat):(keepM g l).ord.getD x []=keepO l (g.ord.getD x []):=by
 have _hg:=hg
 have _hC:=hC
 unfold keepM
 rcases Nat.lt_or_ge x g.ord.length with h | h
 ·simp [h]
 ·simp [List.getElem?_eq_none h,keepO]
theorem k_ev' (d:EId) (h:d∈idsG (keepM g l)):eventM (keepM g l) d=eventM g d:=by
 rcases (k_idsG hg hC d h).2 with h1 | h1
 ·exact k_event0 _ h1
 ·exact k_event hg hC d h1
theorem k_emb:Emb (viewG (keepM g l)) (viewG g) (nG (keepM g l)) (nG g) fun i=>numOf (idsG g) ((idsG (keepM g l)).getD i id0):=by
 have hk:=k_ok hg hC
 have hm:∀ i<nG (keepM g l),(idsG (keepM g l)).getD i id0∈idsG (keepM g l):=fun i hi=>getD_mem hi
 have hmg:∀ i<nG (keepM g l),(idsG (keepM g l)).getD i id0∈idsG g:=fun i hi=>(k_idsG hg hC _ (hm i hi)).1
 have hlt:∀ i<nG (keepM g l),numOf (idsG g) ((idsG (keepM g l)).getD i id0)<nG g:=fun i hi=>numOf_lt (hmg i hi)
 have hev:∀ i<nG (keepM g l),eventM g ((idsG (keepM g l)).getD i id0)=some ((viewG (keepM g l)).ev.getD i ev0):=fun i hi=>by
  rw [←k_ev' hg hC _ (hm i hi)];exact evsG_get _ i hi
 have hfr:∀ i<nG (keepM g l),(viewG (keepM g l)).fr.getD i 0=frOf (keepM g l) ((idsG (keepM g l)).getD i id0):=fun i hi=>by
  show (tabI _ _).getD i 0=_
  rw [tabI_get _ _ _ hi]
 have hpl:∀ i<nG (keepM g l),(viewG (keepM g l)).pl.getD i 0=plOf (keepM g l) ((idsG (keepM g l)).getD i id0):=fun i hi=>by
  show (tabI _ _).getD i 0=_
  rw [tabI_get _ _ _ hi]
 have gfr:∀ i<nG (keepM g l),(viewG g).fr.getD (numOf (idsG g) ((idsG (keepM g l)).getD i id0)) 0=frOf g ((idsG (keepM g l)).getD i id0):=fun i hi=>by
  show (tabI _ _).getD _ 0=_
  rw [tabI_get _ _ _ (hlt i hi),numOf_get (hmg i hi)]
 have gpl:∀ i<nG (keepM g l),(viewG g).pl.getD (numOf (idsG g) ((idsG (keepM g l)).getD i id0)) 0=plOf g ((idsG (keepM g l)).getD i id0):=fun i hi=>by
  show (tabI _ _).getD _ 0=_
  rw [tabI_get _ _ _ (hlt i hi),numOf_get (hmg i hi)]
 have gev:∀ i<nG (keepM g l),(viewG g).ev.getD (numOf (idsG g) ((idsG (keepM g l)).getD i id0)) ev0=(viewG (keepM g l)).ev.getD i ev0:=fun i hi=>by
  have h1:=evsG_get g _ (hlt i hi)
  rw [numOf_get (hmg i hi),hev i hi] at h1
  exact (Option.some.inj h1).symm
 -- a source, in both
 have hsrc:∀ i<nG (keepM g l),∀ j<nG (keepM g l),(viewG (keepM g l)).fr.getD i 0=(j:Nat)→((idsG (keepM g l)).getD i id0)∈l∧readsM ((eventM g ((idsG (keepM g l)).getD i id0)).getD ev0)=true∧srcOf g ((idsG (keepM g l)).getD i id0)=(idsG (keepM g l)).getD j id0:=fun i hi j hj h=>by
  rw [hfr i hi] at h
  unfold frOf at h
  by_cases h0:((idsG (keepM g l)).getD i id0).t=0
  ·rw [if_pos h0] at h;omega
  ·rw [if_neg h0] at h
   have hin:((idsG (keepM g l)).getD i id0)∈l:=(k_idsG hg hC _ (hm i hi)).2.resolve_left h0
   rw [k_event hg hC _ hin] at h
   by_cases hr:readsM ((eventM g ((idsG (keepM g l)).getD i id0)).getD ev0)=true
   ·rw [if_pos hr,k_src hg hC _ hin] at h
    refine ⟨hin,hr,?_⟩
    obtain ⟨w,hw,_⟩:=source_mem (src_ok hg (hmg i hi) h0) hr
    have hs:srcOf g ((idsG (keepM g l)).getD i id0)∈idsG (keepM g l):=by
     rw [idsG_mem,k_source hg hC _ hin hr,hw];rfl
    rw [←numOf_get hs]
    congr 1;omega
   ·rw [if_neg hr] at h;omega
 have hfr2:∀ i<nG (keepM g l),∀ j<nG (keepM g l),(viewG (keepM g l)).fr.getD i 0=(j:Nat)→(viewG g).fr.getD (numOf (idsG g) ((idsG (keepM g l)).getD i id0)) 0=(numOf (idsG g) ((idsG (keepM g l)).getD j id0):Nat):=fun i hi j hj h=>by
  obtain ⟨h1,h2,h3⟩:=hsrc i hi j hj h
  rw [gfr i hi]
  unfold frOf
  rw [if_neg (evT_t (hC.2.1 _ h1)),if_pos h2,h3]
 refine ⟨hlt,fun i hi j hj h=>?_,fun i hi=>numOf_get (hmg i hi),gev,hfr2,fun i hi j hj hn h0 h1=>?_,fun i hi hk3 h=>?_⟩
 ·have e:(idsG (keepM g l)).getD i id0=(idsG (keepM g l)).getD j id0:=by
   rw [←numOf_get (hmg i hi),←numOf_get (hmg j hj),h]
  exact getD_inj (idsG_nodup _) hi hj e
 ·rw [gpl i hi,gpl j hj]
  rw [hpl i hi] at h0 h1
  rw [hpl j hj] at h1
  -- the locations are one
  have hloc:((eventM g ((idsG (keepM g l)).getD i id0)).getD ev0).loc=((eventM g ((idsG (keepM g l)).getD j id0)).getD ev0).loc:=by
   unfold nearM at hn
   simp only [Bool.and_eq_true,decide_eq_true_eq] at hn
   rw [hev i hi,hev j hj]
   exact hn.2
  have hjt:((idsG (keepM g l)).getD j id0).t≠0:=fun e=>by
   unfold plOf at h1
   rw [if_pos e] at h1
   unfold plOf at h0
   omega
  obtain ⟨j1,j2⟩:=pl_in (g:=keepM g l) hjt (by omega)
  have hjin:((idsG (keepM g l)).getD j id0)∈l:=(k_idsG hg hC _ (hm j hj)).2.resolve_left hjt
  rw [k_event hg hC _ hjin,k_ord hg hC] at j1 j2
  have j1':((idsG (keepM g l)).getD j id0)∈g.ord.getD ((eventM g ((idsG (keepM g l)).getD j id0)).getD ev0).loc.toNat []:=(List.mem_filter.1 j1).1
  have j3:=pl_has hjt j1'
  by_cases hit:((idsG (keepM g l)).getD i id0).t=0
  ·have e:plOf g ((idsG (keepM g l)).getD i id0)=0:=by unfold plOf;rw [if_pos hit]
   rw [e,j3]
   omega
  ·obtain ⟨i1,i2⟩:=pl_in (g:=keepM g l) hit h0
   have hiin:((idsG (keepM g l)).getD i id0)∈l:=(k_idsG hg hC _ (hm i hi)).2.resolve_left hit
   rw [k_event hg hC _ hiin,k_ord hg hC] at i1 i2
   have i1':((idsG (keepM g l)).getD i id0)∈g.ord.getD ((eventM g ((idsG (keepM g l)).getD i id0)).getD ev0).loc.toNat []:=(List.mem_filter.1 i1).1
   have i3:=pl_has hit i1'
   rw [i2,j2,hloc] at h1
   rw [hloc] at i1
   have:=numOf_filter (ord_nodup hg _) _ i1 j1 (by unfold keepO at h1;omega)
   rw [i3,j3,hloc]
   omega
 ·have hr3:readsM ((viewG (keepM g l)).ev.getD i ev0)=true:=by unfold readsM;rw [hk3];rfl
  have hV:=viewG_wf hk
  have f1:=hV.frg i hi hr3
  have f2:=hV.frl i hi
  obtain ⟨j,hj⟩:∃ j:Nat,(viewG (keepM g l)).fr.getD i 0=(j:Nat):=⟨((viewG (keepM g l)).fr.getD i 0).toNat,by omega⟩
  have hjn:j<nG (keepM g l):=by omega
  have e1:=hfr2 i hi j hjn hj
  rw [e1] at h
  have e2:((numOf (idsG g) ((idsG (keepM g l)).getD j id0):Nat):Int).toNat=numOf (idsG g) ((idsG (keepM g l)).getD j id0):=by omega
  rw [e2,gpl i hi,gpl j hjn] at h
  rw [hj]
  have e3:((j:Nat):Int).toNat=j:=by omega
  rw [e3,hpl i hi,hpl j hjn]
  obtain ⟨s1,s2,s3⟩:=hsrc i hi j hjn hj
  have hit:=evT_t (hC.2.1 _ s1)
  have hw:writesM ((eventM g ((idsG (keepM g l)).getD i id0)).getD ev0)=true:=by
   rw [hev i hi,Option.getD_some];unfold writesM;rw [hk3];rfl
  obtain ⟨w,hw1,hw2,hw3,hw4,_⟩:=source_mem (src_ok hg (hmg i hi) hit) s2
  rw [s3] at hw1 hw2
  -- the update is in its location's order
  have hisW:isW g (((eventM g ((idsG (keepM g l)).getD i id0)).getD ev0).loc.toNat:Nat) ((idsG (keepM g l)).getD i id0)=true:=by
   unfold isW
   rw [hev i hi] at hw ⊢
   simp only [Option.getD_some] at hw ⊢
   have hfine:=(hg.events (((idsG (keepM g l)).getD i id0).t-1).toNat (by have:=(hC.2.1 _ s1).2.1;have:=(hC.2.1 _ s1).1;omega)).2 ((idsG (keepM g l)).getD i id0).i.toNat (by have:=(hC.2.1 _ s1).2.2;omega)
   have hT:=event_T (hC.2.1 _ s1)
   rw [hev i hi] at hT
   rw [←Option.some.inj hT] at hfine
   have hl0:0≤((viewG (keepM g l)).ev.getD i ev0).loc:=by
    unfold fineM at hfine
    simp only [Bool.and_eq_true] at hfine
    have:=hfine.2
    rw [if_neg (by rw [hk3];omega),decide_eq_true_eq] at this
    exact this.1
   rw [hw,decide_eq_true hit]
   simp only [Bool.and_true,Bool.true_and,decide_eq_true_eq]
   omega
  have hin:=ord_has hg hisW
  have p1:=pl_has hit hin
  have p1k:plOf (keepM g l) ((idsG (keepM g l)).getD i id0)=(numOf (keepO l (g.ord.getD ((eventM g ((idsG (keepM g l)).getD i id0)).getD ev0).loc.toNat [])) ((idsG (keepM g l)).getD i id0):Nat)+1:=by
   have:=pl_has (g:=keepM g l) hit (by rw [k_event hg hC _ s1,k_ord hg hC];exact List.mem_filter.2 ⟨hin,by simpa using s1⟩)
   rw [k_event hg hC _ s1,k_ord hg hC] at this
   exact this
  have hno:=ord_nodup hg ((eventM g ((idsG (keepM g l)).getD i id0)).getD ev0).loc.toNat
  by_cases hjt:((idsG (keepM g l)).getD j id0).t=0
  ·have e4:plOf g ((idsG (keepM g l)).getD j id0)=0:=by unfold plOf;rw [if_pos hjt]
   have e5:plOf (keepM g l) ((idsG (keepM g l)).getD j id0)=0:=by unfold plOf;rw [if_pos hjt]
   rw [e4,p1] at h
   rw [e5,p1k]
   -- the first of all is the first of the kept
   have hz:numOf (g.ord.getD ((eventM g ((idsG (keepM g l)).getD i id0)).getD ev0).loc.toNat []) ((idsG (keepM g l)).getD i id0)=0:=by omega
   have:=adj_first hno l hin s1 hz
   rw [this];rfl
  ·have sjin:((idsG (keepM g l)).getD j id0)∈l:=(k_idsG hg hC _ (hm j hjn)).2.resolve_left hjt
   have hlocs:((eventM g ((idsG (keepM g l)).getD j id0)).getD ev0).loc=((eventM g ((idsG (keepM g l)).getD i id0)).getD ev0).loc:=by
    rw [hw1,Option.getD_some];exact hw4
   have hge:0≤plOf g ((idsG (keepM g l)).getD j id0):=by omega
   obtain ⟨q1,q2⟩:=pl_in hjt hge
   rw [hlocs] at q1 q2
   have q2k:plOf (keepM g l) ((idsG (keepM g l)).getD j id0)=(numOf (keepO l (g.ord.getD ((eventM g ((idsG (keepM g l)).getD i id0)).getD ev0).loc.toNat [])) ((idsG (keepM g l)).getD j id0):Nat)+1:=by
    have:=pl_has (g:=keepM g l) hjt (by rw [k_event hg hC _ sjin,k_ord hg hC,hlocs];exact List.mem_filter.2 ⟨q1,by simpa using sjin⟩)
    rw [k_event hg hC _ sjin,k_ord hg hC,hlocs] at this
    exact this
   rw [p1,q2] at h
   rw [p1k,q2k]
   have:=adj_next hno l q1 hin sjin s1 (by omega)
   omega
end
end Go.AL.Rl
namespace Go.AL.Rl
open Go Go.AL Go.Proofs
set_option maxRecDepth 100000
set_option maxHeartbeats 1600000
structure Tail (V U:Vw) (n m:Nat) (f:Nat→Nat) (N:Nat):Prop where
 cov:∀ a<m,(∃ i<n,a=f i)∨a=N
 nim:∀ i<n,f i≠N
 po:∀ b<m,poM U N b=false
 rf:∀ b<m,U.fr.getD b 0≠(N:Nat)
 frn:∀ i<n,V.fr.getD i 0<0→U.fr.getD (f i) 0<0
 pln:∀ i<n,0≤U.pl.getD (f i) 0→0≤V.pl.getD i 0
 plu:∀ i<n,∀ j<n,nearM V i j=true→0≤V.pl.getD i 0→V.pl.getD i 0=V.pl.getD j 0→i=j
 plh:∀ i<n,∀ j<n,nearM V i j=true→0≤V.pl.getD i 0→0≤U.pl.getD (f j) 0→0≤V.pl.getD j 0
section
variable {V U:Vw} {n m:Nat} {f:Nat→Nat} {N:Nat} (E:Emb V U n m f) (Y:Tail V U n m f N) (hV:Wf V n) (hU:Wf U m)
include E Y
theorem t_fr {j k:Nat} (hj:j<n) (hV:Wf V n) (h:U.fr.getD (f j) 0=(k:Nat)):∃ i<n,k=f i∧V.fr.getD j 0=(i:Nat):=by
 have hl:=hV.frl j hj
 by_cases h0:0≤V.fr.getD j 0
 ·have e:=E.fr j hj (V.fr.getD j 0).toNat (by omega) (by omega)
  rw [e] at h
  exact ⟨(V.fr.getD j 0).toNat,by omega,by omega,by omega⟩
 ·have:=Y.frn j hj (by omega)
  omega
theorem t_rf {i j:Nat} (hi:i<n) (hj:j<n) (hV:Wf V n):rfM U (f i) (f j)=rfM V i j:=by
 rw [Bool.eq_iff_iff]
 constructor
 ·intro h
  unfold rfM at *
  rw [decide_eq_true_eq] at *
  obtain ⟨k,hk,e1,e2⟩:=t_fr E Y hj hV h
  rw [E.inj i hi k hk e1,e2]
 ·exact e_rf E hi hj
theorem t_co {i j:Nat} (hi:i<n) (hj:j<n):coM U (f i) (f j)=coM V i j:=by
 rw [Bool.eq_iff_iff]
 constructor
 ·intro h
  unfold coM at h ⊢
  simp only [Bool.and_eq_true,decide_eq_true_eq] at h ⊢
  obtain ⟨⟨h1,h2⟩,h3⟩:=h
  rw [e_near E hi hj] at h2
  have p1:=Y.pln i hi h1
  have p2:=Y.plh i hi j hj h2 p1 (by omega)
  refine ⟨⟨p1,h2⟩,?_⟩
  rcases Int.lt_trichotomy (V.pl.getD i 0) (V.pl.getD j 0) with q | q | q
  ·exact q
  ·have:=Y.plu i hi j hj h2 p1 q
   subst this;omega
  ·have h4:nearM V j i=true:=by
    unfold nearM at h2 ⊢
    simp only [Bool.and_eq_true,decide_eq_true_eq] at h2 ⊢
    exact ⟨⟨h2.1.2,h2.1.1⟩,h2.2.symm⟩
   have:=E.pl j hj i hi h4 p2 q
   omega
 ·exact e_co E hi hj
theorem t_img {a b:Nat} (ha:a<m) (hb:b<m) (h:poM U a b=true):∃ i<n,a=f i:=by
 have _hE:=E
 rcases Y.cov a ha with h1 | h1
 ·exact h1
 ·subst h1;rw [Y.po b hb] at h;cases h
include hV
theorem t_seq {w:Nat} {x:Nat} (h:InSeq U m (f w) x) (hw:w<n):(∃ s<n,x=f s∧InSeq V n w s)∨x=N:=by
 induction h with
 | base=>exact .inl ⟨w,hw,rfl,.base⟩
 | @step i hi hk hs ih=>
  rcases Y.cov i hi with ⟨s,hs1,rfl⟩ | h1
  ·left
   refine ⟨s,hs1,rfl,?_⟩
   rw [E.ev s hs1] at hk
   have hr:readsM (V.ev.getD s ev0)=true:=by unfold readsM;rw [hk];rfl
   have h1:=hV.frg s hs1 hr
   have h2:=hV.frl s hs1
   have e:=E.fr s hs1 (V.fr.getD s 0).toNat (by omega) (by omega)
   refine .step hs1 hk ?_
   rw [e] at ih
   have e3:((f (V.fr.getD s 0).toNat:Nat):Int).toNat=f (V.fr.getD s 0).toNat:=by omega
   rw [e3] at ih
   rcases ih with ⟨s',k1,k2,k3⟩ | k
   ·rw [E.inj _ (by omega) s' k1 k2];exact k3
   ·exact absurd k (Y.nim _ (by omega))
  ·exact .inr h1
include hU
theorem t_sw {i j:Nat} (hi:i<n) (hj:j<n) (h:bit (swF U m) (f i) (f j)=true):bit (swF V n) i j=true:=by
 rw [sw_iffE hU.small] at h
 obtain ⟨_,_,w,hw,h1,b,hb,h2,h3⟩:=h
 rw [sw_iffE hV.small]
 -- who reads
 have hbi:∃ b'<n,b=f b':=by
  unfold caM at h3
  simp only [Bool.and_eq_true,Bool.or_eq_true,decide_eq_true_eq] at h3
  rcases h3.2 with h4 | h4
  ·exact ⟨j,hj,h4.symm⟩
  ·exact t_img E Y hb (E.lt j hj) h4.2
 obtain ⟨b',hb',rfl⟩:=hbi
 unfold rdrM at h2
 rw [E.ev b' hb'] at h2
 simp only [Bool.and_eq_true,decide_eq_true_eq] at h2
 have h0:=hV.frg b' hb' h2.1.1
 have hl:=hV.frl b' hb'
 have e:=E.fr b' hb' (V.fr.getD b' 0).toNat (by omega) (by omega)
 rw [e] at h2
 have e3:((f (V.fr.getD b' 0).toNat:Nat):Int).toNat=f (V.fr.getD b' 0).toNat:=by omega
 rw [e3] at h2
 have hs:=(seq_bit (by have:=hU.small;omega) hw _).1 h2.2
 -- who writes first
 have hwi:∃ w'<n,w=f w':=by
  rcases Y.cov w hw with h4 | h4
  ·exact h4
  ·exfalso
   subst h4
   -- nobody reads from it
   have key:∀ x,InSeq U m w x→x=w:=fun x hx=>by
    induction hx with
    | base=>rfl
    | @step i hi hk hs ih=>
     have hr:readsM (U.ev.getD i ev0)=true:=by unfold readsM;rw [hk];rfl
     have:=hU.frg i hi hr
     have:=Y.rf i hi
     omega
   have:=key _ hs
   exact Y.nim _ (by omega) this
 obtain ⟨w',hw',rfl⟩:=hwi
 refine ⟨hi,hj,w',hw',?_,b',hb',?_,?_⟩
 ·unfold swR at h1 ⊢
  rw [E.ev w' hw',E.ev i hi,e_po E hi hw'] at h1
  simp only [Bool.and_eq_true,Bool.or_eq_true,decide_eq_true_eq] at h1 ⊢
  exact ⟨h1.1,h1.2.imp (fun h=>E.inj i hi w' hw' h) id⟩
 ·unfold rdrM
  simp only [Bool.and_eq_true,decide_eq_true_eq]
  refine ⟨h2.1,(seq_bit (by have:=hV.small;omega) hw' _).2 ?_⟩
  rcases t_seq E Y hV hs hw' with ⟨s,k1,k2,k3⟩ | k
  ·rw [E.inj _ (by omega) s k1 k2];exact k3
  ·exact absurd k (Y.nim _ (by omega))
 ·unfold caM at h3 ⊢
  rw [E.ev j hj,e_po E hb' hj] at h3
  simp only [Bool.and_eq_true,Bool.or_eq_true,decide_eq_true_eq] at h3 ⊢
  exact ⟨h3.1,h3.2.imp (fun h=>E.inj j hj b' hb' h) id⟩
theorem t_swN {b:Nat} (h:bit (swF U m) N b=true):False:=by
 have _hE:=E
 have _hV:=hV
 rw [sw_iffE hU.small] at h
 obtain ⟨_,hbm,w,hw,h1,b',hb',h2,h3⟩:=h
 unfold swR at h1
 simp only [Bool.and_eq_true,Bool.or_eq_true,decide_eq_true_eq] at h1
 have hw2:N=w:=by
  rcases h1.2 with h4 | h4
  ·exact h4
  ·rw [Y.po w hw] at h4;cases h4.2
 subst hw2
 unfold rdrM at h2
 simp only [Bool.and_eq_true,decide_eq_true_eq] at h2
 have hs:=(seq_bit (by have:=hU.small;omega) hw _).1 h2.2
 have key:∀ x,InSeq U m N x→x=N:=fun x hx=>by
  induction hx with
  | base=>rfl
  | @step i hi hk hs ih=>
   have hr:readsM (U.ev.getD i ev0)=true:=by unfold readsM;rw [hk];rfl
   have:=hU.frg i hi hr
   have:=Y.rf i hi
   omega
 have h5:=key _ hs
 have h6:=hU.frg b' hb' h2.1.1
 have h7:=Y.rf b' hb'
 omega
end
end Go.AL.Rl
namespace Go.AL.Rl
open Go Go.AL Go.Proofs
set_option maxRecDepth 100000
set_option maxHeartbeats 3200000
variable {γ:Nat→Option AV}
def evL (l:List (List Ev)):List LV:=l.map evs
def idL (l:List (List EId)):List LV:=l.map ids
theorem evss_L (l:List (List Ev)):(evss l).l=(evL l).map fun x=>.vs 5 fun _=>x:=by simp [evss,evL]
theorem idss_L (l:List (List EId)):(idss l).l=(idL l).map fun x=>.vs 2 fun _=>x:=by simp [idss,idL]
theorem evL_len (l:List (List Ev)):(evL l).length=l.length:=by simp [evL]
theorem idL_len (l:List (List EId)):(idL l).length=l.length:=by simp [idL]
theorem evs_flat (l:List Ev):∀ v∈(evs l).l,v.flat=true:=by
 intro v hv
 simp only [evs,LV.l_of,List.mem_map] at hv
 obtain ⟨x,_,rfl⟩:=hv
 rfl
theorem id_flat (l:List EId):∀ v∈(ids l).l,v.flat=true:=by
 intro v hv
 simp only [ids,LV.l_of,List.mem_map] at hv
 obtain ⟨x,_,rfl⟩:=hv
 rfl
theorem set_last {α:Type} (l:List α) (a b:α):(l++[a]).set l.length b=l++[b]:=by simp
abbrev cpV (g:Gr) (n1 n2 n3 a b c d:Nat):AV:=.agg [.sl a 0 1 (fun _=>0) fun _=>g.init.length,.sl b n1 1 (fun _=>0) fun _=>g.th.length,.sl c n2 1 (fun _=>0) fun _=>g.fr.length,.sl d n3 1 (fun _=>0) fun _=>g.ord.length]
theorem rcopy_own0 (g:Gr) (hb:RdB g) (hR:Rd g):Owns Try.prog γ 8 [aGr g] (cpV g g.th.length g.fr.length g.ord.length 2 4 5 6)
  [.any,.any,.run 0 1 fun _=>is g.init,.any,.nest g.th.length 5 (fun _=>evL g.th) none,.nest g.fr.length 2 (fun _=>idL g.fr) none,.nest g.ord.length 2 (fun _=>idL g.ord) none]:=by
 have b0:=hb.init
 have b1:=hb.th
 have b2:=hb.fr
 have b3:=hb.ord
 have c1:∀ t,(g.th.getD t []).length * 40≤140737488351232:=fun t=>by
  rcases Nat.lt_or_ge t g.th.length with h1 | h1
  ·exact hb.ths _ (getD_mem h1)
  ·simp [List.getElem?_eq_none h1]
 have c2:∀ t,(g.fr.getD t []).length * 16≤140737488351232:=fun t=>by
  rcases Nat.lt_or_ge t g.fr.length with h1 | h1
  ·exact hb.frs _ (getD_mem h1)
  ·simp [List.getElem?_eq_none h1]
 have c3:∀ t,(g.ord.getD t []).length * 16≤140737488351232:=fun t=>by
  rcases Nat.lt_or_ge t g.ord.length with h1 | h1
  ·exact hb.ords _ (getD_mem h1)
  ·simp [List.getElem?_eq_none h1]
 obtain ⟨TH,hTH⟩:∃ TH:Nat→List LV,∀ i,TH i=evL (g.th.take i):=⟨_,fun _=>rfl⟩
 obtain ⟨FR,hFR⟩:∃ FR:Nat→List LV,∀ i,FR i=idL (g.fr.take i):=⟨_,fun _=>rfl⟩
 obtain ⟨OR,hOR⟩:∃ OR:Nat→List LV,∀ i,OR i=idL (g.ord.take i):=⟨_,fun _=>rfl⟩
 have t0:TH 0=[]:=by rw [hTH];rfl
 have f0:FR 0=[]:=by rw [hFR];rfl
 have o0:OR 0=[]:=by rw [hOR];rfl
 have tS:∀ i,i<g.th.length→TH (i+1)=TH i++[evs (g.th.getD i [])]:=fun i hi=>by rw [hTH,hTH,take_succ' _ i [] hi];simp [evL]
 have fS:∀ i,i<g.fr.length→FR (i+1)=FR i++[ids (g.fr.getD i [])]:=fun i hi=>by rw [hFR,hFR,take_succ' _ i [] hi];simp [idL]
 have oS:∀ i,i<g.ord.length→OR (i+1)=OR i++[ids (g.ord.getD i [])]:=fun i hi=>by rw [hOR,hOR,take_succ' _ i [] hi];simp [idL]
 have tl:∀ i,i≤g.th.length→(TH i).length=i:=fun i hi=>by rw [hTH,evL_len];simp;omega
 have fl:∀ i,i≤g.fr.length→(FR i).length=i:=fun i hi=>by rw [hFR,idL_len];simp;omega
 have ol:∀ i,i≤g.ord.length→(OR i).length=i:=fun i hi=>by rw [hOR,idL_len];simp;omega
 have te:TH g.th.length=evL g.th:=by rw [hTH,List.take_length]
 have fe:FR g.fr.length=idL g.fr:=by rw [hFR,List.take_length]
 have oe:OR g.ord.length=idL g.ord:=by rw [hOR,List.take_length]
 clear hTH hFR hOR
 obtain ⟨G,hG⟩:∃ G:Nat→Nat,∀ x,G x=x:=⟨_,fun _=>rfl⟩
 have hG0:G 0=0:=hG 0
 refine Owns.go (ty:=ty) ty_eq mo Try.func8 rfl Try.ntmps8 Try.results8 Try.call8 (by simp) fun P C CQ D W F E hF=>?_
 cbv
 skip
 repeat' (first
  |(refine ⟨fun _ h_s=>?_,fun _ h_s=>?_⟩<;>(cbv;(try simp only [nc] at *);try simp (disch:=(first|omega|(simp only [lnS];omega))) only [rdT,rdS,reduceCtorEq,trT] at h_s))
  |(refine hF ?_;intro _;clear hF)
  |(refine hF ?_;cbv;clear hF)
  |(refine ⟨fun _=>?_,?_⟩;(· ((try simp only [nc] at *);first|done|omega|exact ⟨by omega,rfl⟩|(simp (disch:=(first|omega|(simp only [lnS];omega))) only [rdT,rdS];first|done|omega|rfl|exact ⟨by omega,rfl⟩|(simp;done)|(simp;omega))|(intros;trivial)|(refine ⟨by simp;omega,by simp;omega,fun v hv=>?_⟩;simp only [is,evs,ids,LV.l_of,List.mem_map] at hv;obtain ⟨_,_,rfl⟩:=hv;rfl)));(try (simp only [nc] at *));(try simp (disch:=(first|omega|(simp only [lnS];omega))) only [rdT,rdS]);(try cbv))
  | fail
 )
 skip
 skip
 refine E.w (AWP.ghostField 3 1 1 rfl rfl ?_)
 refine AWP.step (Step.unrun 4 5 rfl) ?_
 refine E.loopSA (ι:=Nat) (fun i=>i≤g.th.length) (fun i=>g.th.length-i) (fun i=>[(4,.i fun _=>((i:Nat):Int))]) (fun i h=>(h.set 3 (.box (.agg [.sl 2 0 1 (fun _=>0) fun _=>g.init.length,.sl 4 (G i) 1 (fun _=>0) fun _=>i,.nils,.nils]))).set 4 (.nest (G i) 5 (fun _=>TH i) none)) 0 (fun _=>by first|rfl|simp) (Nat.zero_le _) ?_ fun i hi I hI=>?_
 ·cbv;simp [t0,hG0]
 cbv
 have e1:=tS i
 have e2:=tl i hi
 have e3:=c1 i
 repeat' (first
  |(refine hI (i+1) ?_ ?_ ?_;rotate_left 1;(· ((try simp only [nc] at *);omega));(cbv;clear hI;(try clear hF);(try simp only [nc] at *);(try simp (disch:=(first|omega|(simp only [lnS];omega))) only [rdT,rdS,anT]));rotate_left 1;(try ((try simp only [nc] at *);omega)))
  | (refine hJ (Step.put 4 5 rfl rfl fun _=>⟨rfl,rfl,?_⟩) ?_)
  |(refine E.st fun J hJ=>?_;refine E.de 10 [] [some 5] (by decide +kernel) ?_;cbv;(fail_if_success guard_target =~ False))
  |(refine ⟨fun _ h_s=>?_,fun _ h_s=>?_⟩<;>(cbv;(try simp only [nc] at *);try simp (disch:=(first|omega|(simp only [lnS];omega))) only [rdT,rdS,reduceCtorEq,trT] at h_s))
  |(refine hF ?_;intro _;clear hF)
  |(refine hF ?_;cbv;clear hF)
  |(refine ⟨fun _=>?_,?_⟩;(· ((try simp only [nc] at *);first|done|omega|exact ⟨by omega,rfl⟩|(simp (disch:=(first|omega|(simp only [lnS];omega))) only [rdT,rdS];first|done|omega|rfl|exact ⟨by omega,rfl⟩|(simp;done)|(simp;omega))|(intros;trivial)|(refine ⟨by simp;omega,by simp;omega,fun v hv=>?_⟩;simp only [is,evs,ids,LV.l_of,List.mem_map] at hv;obtain ⟨_,_,rfl⟩:=hv;rfl)|exact ⟨by first|trivial|rfl,by first|trivial|rfl,by first|trivial|rfl|(simp [LV.l];done),by first|omega|(simp;omega),by first|omega|(simp;omega),by first|exact evs_flat _|exact id_flat _⟩|exact ⟨by first|trivial|rfl,by first|trivial|rfl,by first|omega|(simp [e2];done),by omega,by omega⟩));(try (simp only [nc] at *));(try simp (disch:=(first|omega|(simp only [lnS];omega))) only [rdT,rdS]);(try cbv))
  | fail
 )
 ·rw [LV.l_of];simp [LV.l]
 ·rw [e1 (by omega),set_last]
  simp [hG,LV.l]
 obtain rfl:i=g.th.length:=by ((try simp only [nc] at *);omega)
 clear e1 e2 e3
 refine E.w (AWP.ghostField 3 2 1 rfl rfl ?_)
 refine AWP.step (Step.unrun 5 2 rfl) ?_
 refine E.loopSA (ι:=Nat) (fun i=>i≤g.fr.length) (fun i=>g.fr.length-i) (fun i=>[(5,.i fun _=>((i:Nat):Int))]) (fun i h=>(h.set 3 (.box (.agg [.sl 2 0 1 (fun _=>0) fun _=>g.init.length,.sl 4 (G g.th.length) 1 (fun _=>0) fun _=>g.th.length,.sl 5 (G i) 1 (fun _=>0) fun _=>i,.nils]))).set 5 (.nest (G i) 2 (fun _=>FR i) none)) 0 (fun _=>by first|rfl|simp) (Nat.zero_le _) ?_ fun i hi I hI=>?_
 ·cbv;simp [f0,hG0]
 cbv
 have e1:=fS i
 have e2:=fl i hi
 have e3:=c2 i
 repeat' (first
  |(refine hI (i+1) ?_ ?_ ?_;rotate_left 1;(· ((try simp only [nc] at *);omega));(cbv;clear hI;(try clear hF);(try simp only [nc] at *);(try simp (disch:=(first|omega|(simp only [lnS];omega))) only [rdT,rdS,anT]));rotate_left 1;(try ((try simp only [nc] at *);omega)))
  | (refine hJ (Step.put 5 6 rfl rfl fun _=>⟨rfl,rfl,?_⟩) ?_)
  |(refine E.st fun J hJ=>?_;refine E.de 10 [] [some 2] (by decide +kernel) ?_;cbv;(fail_if_success guard_target =~ False))
  |(refine ⟨fun _ h_s=>?_,fun _ h_s=>?_⟩<;>(cbv;(try simp only [nc] at *);try simp (disch:=(first|omega|(simp only [lnS];omega))) only [rdT,rdS,reduceCtorEq,trT] at h_s))
  |(refine hF ?_;intro _;clear hF)
  |(refine hF ?_;cbv;clear hF)
  |(refine ⟨fun _=>?_,?_⟩;(· ((try simp only [nc] at *);first|done|omega|exact ⟨by omega,rfl⟩|(simp (disch:=(first|omega|(simp only [lnS];omega))) only [rdT,rdS];first|done|omega|rfl|exact ⟨by omega,rfl⟩|(simp;done)|(simp;omega))|(intros;trivial)|(refine ⟨by simp;omega,by simp;omega,fun v hv=>?_⟩;simp only [is,evs,ids,LV.l_of,List.mem_map] at hv;obtain ⟨_,_,rfl⟩:=hv;rfl)|exact ⟨by first|trivial|rfl,by first|trivial|rfl,by first|trivial|rfl|(simp [LV.l];done),by first|omega|(simp;omega),by first|omega|(simp;omega),by first|exact evs_flat _|exact id_flat _⟩|exact ⟨by first|trivial|rfl,by first|trivial|rfl,by first|omega|(simp [e2];done),by omega,by omega⟩));(try (simp only [nc] at *));(try simp (disch:=(first|omega|(simp only [lnS];omega))) only [rdT,rdS]);(try cbv))
  | fail
 )
 ·rw [LV.l_of];simp [LV.l]
 ·rw [e1 (by omega),set_last]
  simp [hG,LV.l]
 obtain rfl:i=g.fr.length:=by ((try simp only [nc] at *);omega)
 clear e1 e2 e3
 refine E.w (AWP.ghostField 3 3 1 rfl rfl ?_)
 refine AWP.step (Step.unrun 6 2 rfl) ?_
 refine E.loopSA (ι:=Nat) (fun i=>i≤g.ord.length) (fun i=>g.ord.length-i) (fun i=>[(6,.i fun _=>((i:Nat):Int))]) (fun i h=>(h.set 3 (.box (.agg [.sl 2 0 1 (fun _=>0) fun _=>g.init.length,.sl 4 (G g.th.length) 1 (fun _=>0) fun _=>g.th.length,.sl 5 (G g.fr.length) 1 (fun _=>0) fun _=>g.fr.length,.sl 6 (G i) 1 (fun _=>0) fun _=>i]))).set 6 (.nest (G i) 2 (fun _=>OR i) none)) 0 (fun _=>by first|rfl|simp) (Nat.zero_le _) ?_ fun i hi I hI=>?_
 ·cbv;simp [o0,hG0]
 cbv
 have e1:=oS i
 have e2:=ol i hi
 have e3:=c3 i
 repeat' (first
  |(refine hI (i+1) ?_ ?_ ?_;rotate_left 1;(· ((try simp only [nc] at *);omega));(cbv;clear hI;(try clear hF);(try simp only [nc] at *);(try simp (disch:=(first|omega|(simp only [lnS];omega))) only [rdT,rdS,anT]));rotate_left 1;(try ((try simp only [nc] at *);omega)))
  | (refine hJ (Step.put 6 7 rfl rfl fun _=>⟨rfl,rfl,?_⟩) ?_)
  |(refine E.st fun J hJ=>?_;refine E.de 10 [] [some 2] (by decide +kernel) ?_;cbv;(fail_if_success guard_target =~ False))
  |(refine ⟨fun _ h_s=>?_,fun _ h_s=>?_⟩<;>(cbv;(try simp only [nc] at *);try simp (disch:=(first|omega|(simp only [lnS];omega))) only [rdT,rdS,reduceCtorEq,trT] at h_s))
  |(refine hF ?_;intro _;clear hF)
  |(refine hF ?_;cbv;clear hF)
  |(refine ⟨fun _=>?_,?_⟩;(· ((try simp only [nc] at *);first|done|omega|exact ⟨by omega,rfl⟩|(simp (disch:=(first|omega|(simp only [lnS];omega))) only [rdT,rdS];first|done|omega|rfl|exact ⟨by omega,rfl⟩|(simp;done)|(simp;omega))|(intros;trivial)|(refine ⟨by simp;omega,by simp;omega,fun v hv=>?_⟩;simp only [is,evs,ids,LV.l_of,List.mem_map] at hv;obtain ⟨_,_,rfl⟩:=hv;rfl)|exact ⟨by first|trivial|rfl,by first|trivial|rfl,by first|trivial|rfl|(simp [LV.l];done),by first|omega|(simp;omega),by first|omega|(simp;omega),by first|exact evs_flat _|exact id_flat _⟩|exact ⟨by first|trivial|rfl,by first|trivial|rfl,by first|omega|(simp [e2];done),by omega,by omega⟩));(try (simp only [nc] at *));(try simp (disch:=(first|omega|(simp only [lnS];omega))) only [rdT,rdS]);(try cbv))
  | fail
 )
 ·rw [LV.l_of];simp [LV.l]
 ·rw [e1 (by omega),set_last]
  simp [hG,LV.l]
 obtain rfl:i=g.ord.length:=by ((try simp only [nc] at *);omega)
 clear e1 e2 e3
 refine hF ?_ ?_
 all_goals simp [leV,leVs,leH,leB,vresult,AV.cells,hG,te,fe,oe]
theorem rcopy_own (g:Gr) (hb:RdB g) (hR:Rd g):∃ n1 n2 n3,Owns Try.prog γ 8 [aGr g] (cpV g n1 n2 n3 2 4 5 6)
  [.any,.any,.run 0 1 fun _=>is g.init,.any,.nest n1 5 (fun _=>evL g.th) none,.nest n2 2 (fun _=>idL g.fr) none,.nest n3 2 (fun _=>idL g.ord) none]:=⟨_,_,_,rcopy_own0 g hb hR⟩
end Go.AL.Rl
namespace Go.AL.Rl
open Go Go.AL Go.Proofs
set_option maxRecDepth 100000
set_option maxHeartbeats 3200000
variable {γ:Nat→Option AV}
def addS (g:Gr) (t:Nat) (e:Ev) (d:EId):Gr:=⟨g.init,g.th.set t (g.th.getD t []++[e]),g.fr.set t (g.fr.getD t []++[d]),g.ord⟩
def addO (g:Gr) (t:Nat) (e:Ev) (p:Int):List EId:=(g.ord.getD e.loc.toNat []).take (p-1).toNat++[⟨(t:Int)+1,((g.th.getD t []).length:Int)⟩]++(g.ord.getD e.loc.toNat []).drop (p-1).toNat
def addG (g:Gr) (t:Nat) (e:Ev) (d:EId) (p:Int):Gr:=⟨g.init,(addS g t e d).th,(addS g t e d).fr,if writesM e=true then g.ord.set e.loc.toNat (addO g t e p) else g.ord⟩
def addC (g:Gr) (t:Nat) (e:Ev) (d:EId) (p:Int):Prop:=fineM g.init.length e=true∧(if writesM e=true then 1≤p∧p≤((g.ord.getD e.loc.toNat []).length:Nat)+1 else p=0)∧GOk (addG g t e d p)
instance (g:Gr) (t:Nat) (e:Ev) (d:EId) (p:Int):Decidable (addC g t e d p):=inferInstanceAs (Decidable (_∧_))
def addE (g:Gr) (thread:Int) (e:Ev) (d:EId) (p:Int):Int:=
 if GOk g then (if 1≤thread∧thread≤(g.th.length:Nat) then (if (g.th.getD (thread-1).toNat []).length=14 then 3 else if addC g (thread-1).toNat e d p then 0 else 2) else 9) else 2
def addR (g:Gr) (thread:Int) (e:Ev) (d:EId) (p:Int):Gr:=if addE g thread e d p=0 then addG g (thread-1).toNat e d p else ⟨[],[],[],[]⟩
theorem rdb_ok {g:Gr} (h:GOk g):RdB g:=by
 have hs:=h.short
 have h1:=hs.th
 have h2:=hs.init
 have h3:=h.lfr
 have h4:=h.lord
 have e2:∀ l∈g.fr,l.length≤14:=fun l hl=>by
  obtain ⟨t,ht,rfl⟩:=List.getElem_of_mem hl
  have:=(h.events t (by omega)).1
  have h5:=hs.at t
  rw [show g.fr.getD t []=g.fr[t] by simp [ht]] at this
  omega
 have e3:∀ l∈g.ord,l.length≤56:=fun l hl=>by
  obtain ⟨x,hx,rfl⟩:=List.getElem_of_mem hl
  have:=h.orders x (by omega)
  unfold orderedM at this
  have hc:cntT x g.th≤56:=by have:=cntT_take hs x g.th.length;rw [List.take_length] at this;omega
  rw [show g.ord.getD x []=g.ord[x] by simp [hx]] at this
  simp only [Bool.and_eq_true,decide_eq_true_eq] at this
  omega
 exact ⟨by omega,by omega,by omega,by omega,fun l hl=>by have:=hs.ths l hl;omega,fun l hl=>by have:=e2 l hl;omega,fun l hl=>by have:=e3 l hl;omega⟩
theorem ord56 {g:Gr} (h:GOk g) (x:Nat):(g.ord.getD x []).length≤56:=by
 rcases Nat.lt_or_ge x g.init.length with hx | hx
 ·have:=h.orders x hx
  unfold orderedM at this
  have hc:cntT x g.th≤56:=by have:=cntT_take h.short x g.th.length;rw [List.take_length] at this;omega
  simp only [Bool.and_eq_true,decide_eq_true_eq] at this
  omega
 ·rw [List.getD_eq_getElem?_getD,List.getElem?_eq_none (by have:=h.lord;omega)];simp
theorem rd_short {g:Gr} (h:GOk g):Rd g:=by
 have hb:=rdb_ok h
 exact ⟨by have:=hb.init;omega,by have:=hb.th;omega,by have:=hb.fr;omega,by have:=hb.ord;omega,fun l hl=>by have:=hb.ths l hl;omega,fun l hl=>by have:=hb.frs l hl;omega,fun l hl=>by have:=hb.ords l hl;omega⟩
end Go.AL.Rl
namespace Go.AL.Rl
open Go Go.AL Go.Proofs
set_option maxRecDepth 100000
set_option maxHeartbeats 1600000
theorem gr_ext {a b:Gr} (h1:a.init=b.init) (h2:a.th=b.th) (h3:a.fr=b.fr) (h4:a.ord=b.ord):a=b:=by cases a;cases b;simp_all
theorem getD_set' {α:Type} (l:List α) (i j:Nat) (x d:α) (hi:i<l.length):(l.set i x).getD j d=if j=i then x else l.getD j d:=by
 rw [List.getD_eq_getElem?_getD,List.getElem?_set,List.getD_eq_getElem?_getD]
 by_cases e:i=j
 ·subst e;simp [hi]
 ·rw [if_neg e,if_neg fun h=>e h.symm]
theorem getD_app1 {α:Type} (l:List α) (x d:α) {j:Nat} (hj:j<l.length):(l++[x]).getD j d=l.getD j d:=by
 rw [List.getD_eq_getElem?_getD,List.getElem?_append_left hj,List.getD_eq_getElem?_getD]
theorem gD' {α:Type} {l:List α} {i:Nat} {d:α} (h:i<l.length):l.getD i d=l[i]:=by simp [h]
abbrev newD (g:Gr) (t:Nat):EId:=⟨(t:Int)+1,((g.th.getD t []).length:Int)⟩
section
variable {g:Gr} {t:Nat} {e:Ev} {d:EId} {p:Int} (hg:GOk g) (ht:t<g.th.length) (hh:GOk (addG g t e d p))
theorem add_thl:(addG g t e d p).th.length=g.th.length:=by show (g.th.set t _).length=_;simp
theorem add_frl:(addG g t e d p).fr.length=g.fr.length:=by show (g.fr.set t _).length=_;simp
include ht
theorem add_th (s:Nat):(addG g t e d p).th.getD s []=if s=t then g.th.getD t []++[e] else g.th.getD s []:=getD_set' _ _ _ _ _ ht
theorem add_len_le (s:Nat):(g.th.getD s []).length≤((addG g t e d p).th.getD s []).length:=by
 rw [add_th ht]
 split
 ·rename_i h;subst h;simp
 ·exact Nat.le_refl _
theorem add_get (s j:Nat) (hj:j<(g.th.getD s []).length):((addG g t e d p).th.getD s []).getD j ev0=(g.th.getD s []).getD j ev0:=by
 rw [add_th ht]
 split
 ·rename_i h;subst h;exact getD_app1 _ _ _ hj
 ·rfl
theorem add_evT {x:EId} (h:evT g x):evT (addG g t e d p) x:=by
 obtain ⟨h1,h2,h3,h4⟩:=h
 refine ⟨h1,by rw [add_thl];exact h2,h3,?_⟩
 have:=add_len_le (g:=g) (e:=e) (d:=d) (p:=p) ht (x.t-1).toNat
 omega
theorem add_event {x:EId} (h:x∈idsG g):eventM (addG g t e d p) x=eventM g x:=by
 rw [idsG_mem] at h
 by_cases h0:x.t=0
 ·unfold eventM
  rw [if_pos h0,if_pos h0]
  rfl
 ·have hT:evT g x:=by
   unfold eventM at h
   rw [if_neg h0] at h
   split at h
   ·rename_i hc;exact ⟨by omega,hc.2.1,hc.2.2.1,hc.2.2.2⟩
   ·cases h
  rw [event_T hT,event_T (add_evT ht hT)]
  obtain ⟨h1,h2,h3,h4⟩:=hT
  rw [add_get ht _ _ (by omega)]
theorem add_cases {x:EId} (h:evT (addG g t e d p) x):evT g x∨x=newD g t:=by
 obtain ⟨h1,h2,h3,h4⟩:=h
 rw [add_thl] at h2
 rw [add_th ht] at h4
 split at h4
 ·rename_i e1
  rw [List.length_append] at h4
  simp only [List.length_cons,List.length_nil] at h4
  by_cases h5:x.i<((g.th.getD t []).length:Nat)
  ·left;exact ⟨h1,h2,h3,by rw [e1];exact h5⟩
  ·right;exact EId.ext' (by simp only;omega) (by simp only;omega)
 ·left;exact ⟨h1,h2,h3,h4⟩
theorem new_not:newD g t∉idsG g:=by
 have _ht:=ht
 rw [idsG_mem]
 unfold eventM
 rw [if_neg (by simp only;omega)]
 have e1:((t:Int)+1-1).toNat=t:=by omega
 rw [if_neg (by simp only [e1];omega)]
 simp
theorem new_evT:evT (addG g t e d p) (newD g t):=by
 refine ⟨by simp only;omega,by rw [add_thl];simp only;omega,by simp only;omega,?_⟩
 have e1:((newD g t).t-1).toNat=t:=by simp only;omega
 rw [e1,add_th ht,if_pos rfl,List.length_append]
 simp only [List.length_cons,List.length_nil]
 omega
include hg
theorem add_src {x:EId} (h:evT g x):srcOf (addG g t e d p) x=srcOf g x:=by
 obtain ⟨h1,h2,h3,h4⟩:=h
 have hf:=hg.lfr
 unfold srcOf
 have:(addG g t e d p).fr.getD (x.t-1).toNat []=if (x.t-1).toNat=t then g.fr.getD t []++[d] else g.fr.getD (x.t-1).toNat []:=getD_set' _ _ _ _ _ (by omega)
 rw [this]
 split
 ·rename_i e1
  have h5:=(hg.events t ht).1
  rw [e1] at h4 ⊢
  exact getD_app1 _ _ _ (by omega)
 ·rfl
theorem src_in {x:EId} (h:evT g x) (hr:readsM ((eventM g x).getD ev0)=true):srcOf g x∈idsG g:=by
 have _ht:=ht
 have hx:x∈idsG g:=idsG_mem.2 (by rw [event_T h];rfl)
 obtain ⟨w,hw,_⟩:=source_mem (src_ok hg hx (evT_t h)) hr
 exact idsG_mem.2 (by rw [hw];rfl)
theorem add_cl:ClG (addG g t e d p) (idsT g g.th.length):=by
 refine ⟨idsT_nodup g _,fun x hx=>add_evT ht (evT_iff.2 hx),fun x hx a ha hah=>?_⟩
 have hx:=evT_iff.2 hx
 rw [←evT_iff]
 rcases add_cases ht ha with h1 | h1
 ·exact h1
 ·exfalso
  subst h1
  rcases hah with ⟨h2,h3⟩ | ⟨h2,h3⟩
  ·obtain ⟨b1,b2,b3,b4⟩:=hx
   simp only at h2 h3
   have e1:(x.t-1).toNat=t:=by omega
   rw [e1] at b4
   omega
  ·have hxi:x∈idsG g:=idsG_mem.2 (by rw [event_T hx];rfl)
   rw [add_event ht hxi] at h2
   rw [add_src hg ht hx] at h3
   have:=src_in hg ht hx h2
   rw [h3] at this
   exact new_not ht this
include hh
theorem add_kQ (s:Nat) (hs:s<g.th.length):kQ (addG g t e d p) (idsT g g.th.length) s=(g.th.getD s []).length:=by
 have hC:=add_cl (e:=e) (d:=d) (p:=p) hg ht
 have hs':s<(addG g t e d p).th.length:=by rw [add_thl];exact hs
 have hle:=add_len_le (g:=g) (e:=e) (d:=d) (p:=p) ht s
 have hk:=kQ_le hh hC s hs'
 have key:∀ j<((addG g t e d p).th.getD s []).length,(j<(g.th.getD s []).length↔j<kQ (addG g t e d p) (idsT g g.th.length) s):=fun j hj=>by
  rw [←k_in hh hC s j hs' hj,←evT_iff,evT_mk]
  exact ⟨fun h=>⟨hs,h⟩,fun h=>h.2⟩
 rcases Nat.lt_trichotomy (kQ (addG g t e d p) (idsT g g.th.length) s) (g.th.getD s []).length with h | h | h
 ·have:=(key (kQ (addG g t e d p) (idsT g g.th.length) s) (by omega)).1 h
  omega
 ·exact h
 ·have:=(key (g.th.getD s []).length (by omega)).2 h
  omega
theorem add_keep:keepM (addG g t e d p) (idsT g g.th.length)=g:=by
 have hC:=add_cl (e:=e) (d:=d) (p:=p) hg ht
 have hlf:=hg.lfr
 refine gr_ext rfl ?_ ?_ ?_
 ·refine List.ext_getElem (by show ((List.range _).map _).length=_;rw [List.length_map,List.length_range,add_thl]) fun s h1 h2=>?_
  have h3:=kth hh hC s (by rw [add_thl];exact h2)
  rw [add_kQ hg ht hh s h2] at h3
  rw [←gD' (d:=[]) h1,h3,←gD' (d:=[]) h2,add_th ht]
  split
  ·rename_i e1;subst e1;simp
  ·simp
 ·refine List.ext_getElem (by show ((List.range _).map _).length=_;rw [List.length_map,List.length_range,add_thl,hlf]) fun s h1 h2=>?_
  have hs:s<g.th.length:=by omega
  have h3:=kfr hh hC s (by rw [add_thl];exact hs)
  rw [add_kQ hg ht hh s hs] at h3
  have h5:=(hg.events s hs).1
  have h6:(addG g t e d p).fr.getD s []=if s=t then g.fr.getD t []++[d] else g.fr.getD s []:=getD_set' _ _ _ _ _ (by omega)
  rw [←gD' (d:=[]) h1,h3,←gD' (d:=[]) h2,h6,←h5]
  split
  ·rename_i e1;subst e1;simp
  ·simp
 ·have hin:∀ x<g.ord.length,∀ y∈g.ord.getD x [],y∈idsT g g.th.length:=fun x hx y hy=>by
   have h1:=hg.orders x (by have:=hg.lord;omega)
   obtain ⟨i,hi,rfl⟩:=List.getElem_of_mem hy
   unfold orderedM at h1
   simp only [Bool.and_eq_true,decide_eq_true_eq] at h1
   obtain ⟨ev,he,h0,_⟩:=isW_event (h1.1 i hi).1
   rw [gD' hi] at he h0
   rw [←evT_iff]
   unfold eventM at he
   rw [if_neg h0] at he
   split at he
   ·rename_i hc;exact ⟨by omega,hc.2.1,hc.2.2.1,hc.2.2.2⟩
   ·cases he
  have hself:∀ x<g.ord.length,keepO (idsT g g.th.length) (g.ord.getD x [])=g.ord.getD x []:=fun x hx=>by
   unfold keepO
   rw [List.filter_eq_self]
   intro y hy
   exact decide_eq_true (hin x hx y hy)
  have hnew:newD g t∉idsT g g.th.length:=fun h=>new_not ht (idsG_mem.2 (by rw [event_T (evT_iff.2 h)];rfl))
  show List.map (keepO _) (if writesM e=true then g.ord.set e.loc.toNat (addO g t e p) else g.ord)=g.ord
  by_cases hw:writesM e=true
  ·rw [if_pos hw]
   refine List.ext_getElem (by simp) fun x h1 h2=>?_
   rw [List.getElem_map,List.getElem_set]
   split
   ·rename_i e1
    rw [←gD' (d:=[]) h2]
    have hs:=hself x h2
    unfold addO
    rw [e1]
    unfold keepO at *
    rw [List.filter_append,List.filter_append,List.filter_cons_of_neg (by simp only [decide_eq_true_eq];exact hnew),List.filter_nil,List.append_nil,←List.filter_append,List.take_append_drop]
    exact hs
   ·rw [←gD' (d:=[]) h2];exact hself x h2
  ·rw [if_neg hw]
   refine List.ext_getElem (by simp) fun x h1 h2=>?_
   rw [List.getElem_map,←gD' (d:=[]) h2];exact hself x h2
abbrev addF (g:Gr) (t:Nat) (e:Ev) (d:EId) (p:Int) (i:Nat):Nat:=numOf (idsG (addG g t e d p)) ((idsG g).getD i id0)
theorem add_emb:Emb (viewG g) (viewG (addG g t e d p)) (nG g) (nG (addG g t e d p)) (addF g t e d p):=by
 have:=k_emb hh (add_cl (e:=e) (d:=d) (p:=p) hg ht)
 rw [add_keep hg ht hh] at this
 exact this
theorem add_tail:Tail (viewG g) (viewG (addG g t e d p)) (nG g) (nG (addG g t e d p)) (addF g t e d p) (numOf (idsG (addG g t e d p)) (newD g t)):=by
 have E:=add_emb hg ht hh
 have hN:newD g t∈idsG (addG g t e d p):=idsG_mem.2 (by rw [event_T (new_evT ht)];rfl)
 have hsub:∀ x∈idsG g,x∈idsG (addG g t e d p):=fun x hx=>idsG_mem.2 (by rw [add_event ht hx];exact idsG_mem.1 hx)
 have hids:∀ a<nG (addG g t e d p),(idsG (addG g t e d p)).getD a id0∈idsG g∨(idsG (addG g t e d p)).getD a id0=newD g t:=fun a ha=>by
  have hm:=getD_mem (d:=id0) ha
  by_cases h0:((idsG (addG g t e d p)).getD a id0).t=0
  ·left
   rw [idsG_mem] at hm ⊢
   unfold eventM at hm ⊢
   rw [if_pos h0] at hm ⊢
   exact hm
  ·have hT:evT (addG g t e d p) ((idsG (addG g t e d p)).getD a id0):=by
    have h:=idsG_mem.1 hm
    unfold eventM at h
    rw [if_neg h0] at h
    split at h
    ·rename_i hc;exact ⟨by omega,hc.2.1,hc.2.2.1,hc.2.2.2⟩
    ·cases h
   rcases add_cases ht hT with h1 | h1
   ·exact .inl (idsG_mem.2 (by rw [event_T h1];rfl))
   ·exact .inr h1
 refine ⟨fun a ha=>?_,fun i hi h=>?_,fun b hb=>?_,fun b hb h=>?_,fun i hi h=>?_,fun i hi h=>?_,fun i hi j hj h1 h2 h3=>?_,fun i hi j hj h1 h2 h3=>?_⟩
 ·rcases hids a ha with h1 | h1
  ·left
   refine ⟨numOf (idsG g) ((idsG (addG g t e d p)).getD a id0),numOf_lt h1,?_⟩
   show a=numOf _ _
   rw [numOf_get h1,numOf_at (idsG_nodup _) ha]
  ·right
   rw [←h1,numOf_at (idsG_nodup _) ha]
 ·have hm:=getD_mem (d:=id0) hi
  have h1:=numOf_get (hsub _ hm)
  have h2:=numOf_get hN
  rw [show numOf (idsG (addG g t e d p)) ((idsG g).getD i id0)=_ from h,h2] at h1
  exact new_not ht (h1 ▸ hm)
 ·unfold poM
  show (decide (((idsG (addG g t e d p)).getD b id0).t≠0) && (decide (((idsG (addG g t e d p)).getD (numOf (idsG (addG g t e d p)) (newD g t)) id0).t=0) || decide (((idsG (addG g t e d p)).getD (numOf (idsG (addG g t e d p)) (newD g t)) id0).t=((idsG (addG g t e d p)).getD b id0).t) && decide (((idsG (addG g t e d p)).getD (numOf (idsG (addG g t e d p)) (newD g t)) id0).i<((idsG (addG g t e d p)).getD b id0).i)))=false
  rw [numOf_get hN]
  generalize hx:(idsG (addG g t e d p)).getD b id0=x
  have hm:=getD_mem (d:=id0) hb
  have hb':=hids b hb
  rw [hx] at hb'
  rw [Bool.eq_false_iff]
  intro h
  simp only [Bool.and_eq_true,Bool.or_eq_true,decide_eq_true_eq] at h
  obtain ⟨h1,h2⟩:=h
  rcases h2 with h2 | ⟨h2,h3⟩
  ·omega
  ·rcases hb' with h4 | h4
   ·rw [idsG_mem] at h4
    unfold eventM at h4
    rw [if_neg h1] at h4
    split at h4
    ·rename_i hc
     have e1:(x.t-1).toNat=t:=by omega
     rw [e1] at hc
     omega
    ·cases h4
   ·rw [h4] at h3;simp only at h3;omega
 ·have hr:readsM ((viewG (addG g t e d p)).ev.getD b ev0)=true:=(fr_iff hh b hb).1 (by rw [h];omega)
  obtain ⟨w,e1,hw,hne,_⟩:=src_of hh b hb hr
  have hev:=vev hh b hb
  have h0:((idsG (addG g t e d p)).getD b id0).t≠0:=fun h0=>by rw [init_reads hev h0] at hr;cases hr
  rw [vfr hh b hb] at h
  unfold frOf at h
  rw [if_neg h0,hev,Option.getD_some,if_pos hr] at h
  have hT:evT (addG g t e d p) ((idsG (addG g t e d p)).getD b id0):=by
   unfold eventM at hev
   rw [if_neg h0] at hev
   split at hev
   ·rename_i hc;exact ⟨by omega,hc.2.1,hc.2.2.1,hc.2.2.2⟩
   ·cases hev
  have hsm:srcOf (addG g t e d p) ((idsG (addG g t e d p)).getD b id0)∈idsG (addG g t e d p):=by
   obtain ⟨w',hw',_⟩:=source_mem (src_ok hh (getD_mem hb) h0) (by rw [hev];exact hr)
   exact idsG_mem.2 (by rw [hw'];rfl)
  have hsn:srcOf (addG g t e d p) ((idsG (addG g t e d p)).getD b id0)=newD g t:=by
   rw [←numOf_get hsm,←numOf_get hN]
   congr 1
   omega
  rcases add_cases ht hT with h1 | h1
  ·rw [add_src hg ht h1] at hsn
   have hxi:(idsG (addG g t e d p)).getD b id0∈idsG g:=idsG_mem.2 (by rw [event_T h1];rfl)
   have:=src_in hg ht h1 (by rw [←add_event (e:=e) (d:=d) (p:=p) ht hxi,hev];exact hr)
   rw [hsn] at this
   exact new_not ht this
  ·rw [vfr hh b hb] at e1
   unfold frOf at e1
   rw [if_neg h0,hev,Option.getD_some,if_pos hr,hsn,←h1,numOf_at (idsG_nodup _) hb] at e1
   omega
 ·have h1:¬ readsM ((viewG g).ev.getD i ev0)=true:=fun h2=>by have:=(fr_iff hg i hi).2 h2;omega
  rw [←E.ev i hi] at h1
  have h3:¬ 0≤(viewG (addG g t e d p)).fr.getD (addF g t e d p i) 0:=fun h2=>h1 ((fr_iff hh _ (E.lt i hi)).1 h2)
  omega
 ·have h1:=(pl_iff hh _ (E.lt i hi)).1 h
  rw [E.ev i hi] at h1
  exact (pl_iff hg i hi).2 h1
 ·have hwi:=(pl_iff hg i hi).1 h2
  have hwj:=(pl_iff hg j hj).1 (by omega)
  unfold nearM at h1
  simp only [Bool.and_eq_true,decide_eq_true_eq] at h1
  exact pl_inj hg i j hi hj hwi hwj h1.2 h3
 ·have hwj:=(pl_iff hh _ (E.lt j hj)).1 h3
  rw [E.ev j hj] at hwj
  exact (pl_iff hg j hj).2 hwj
end
end Go.AL.Rl
namespace Go.AL.Rl
open Go Go.AL Go.Proofs
set_option maxRecDepth 100000
set_option maxHeartbeats 3200000
variable {γ:Nat→Option AV}
theorem evL_set (l:List (List Ev)) (t:Nat) (x:List Ev):(evL l).set t (evs x)=evL (l.set t x):=by simp [evL,List.map_set]
theorem idL_set (l:List (List EId)) (t:Nat) (x:List EId):(idL l).set t (ids x)=idL (l.set t x):=by simp [idL,List.map_set]
theorem evL_get (l:List (List Ev)) (t:Nat):(evL l).getD t .nil=evs (l.getD t []):=by
 unfold evL
 rcases Nat.lt_or_ge t l.length with h | h
 ·simp [h]
 ·simp [List.getElem?_eq_none h,evs,LV.of]
theorem idL_get (l:List (List EId)) (t:Nat):(idL l).getD t .nil=ids (l.getD t []):=by
 unfold idL
 rcases Nat.lt_or_ge t l.length with h | h
 ·simp [h]
 ·simp [List.getElem?_eq_none h,ids,LV.of]
theorem one_len (f:AV→AV) (z x:AV):(LV.of (List.map f (setAll (List.replicate (Nat.succ 0) z) [(0,x)]))).l.length=1:=by simp [setAll]
theorem tn1 (t:Nat):((t:Int)+1-1).toNat=t:=by omega
theorem fine_nat {n:Nat} {e:Ev} (h:fineM n e=true) (hw:writesM e=true):∃ x:Nat,e.loc=(x:Int)∧x<n:=by
 unfold fineM at h
 unfold writesM at hw
 simp only [Bool.and_eq_true,Bool.or_eq_true,decide_eq_true_eq] at h hw
 have hk:¬ e.kind=4:=by omega
 have h4:=h.2
 rw [if_neg hk,decide_eq_true_eq] at h4
 exact ⟨e.loc.toNat,by omega,by omega⟩
theorem rd_add {g:Gr} (hg:GOk g) (t:Nat) (e:Ev) (d:EId) (p:Int):Rd (addG g t e d p):=by
 have hb:=rd_short hg
 have h:=rdb_ok hg
 have hs:=hg.short
 have hm:∀ {α:Type} (l:List (List α)) (i:Nat) (x:List α),(∀ y∈l,(y.length:Int)≤9223372036854775807)→(x.length:Int)≤9223372036854775807→∀ y∈l.set i x,(y.length:Int)≤9223372036854775807:=fun l i x h1 h2 y hy=>by
  rcases List.mem_or_eq_of_mem_set hy with hy | rfl
  ·exact h1 y hy
  ·exact h2
 have a1:=hs.at t
 have a2:((g.fr.getD t []).length:Int) * 16≤140737488351232:=by
  rcases Nat.lt_or_ge t g.fr.length with h1 | h1
  ·have:=h.frs _ (getD_mem (d:=[]) h1);omega
  ·rw [List.getD_eq_getElem?_getD,List.getElem?_eq_none h1];simp
 have a3:((g.ord.getD e.loc.toNat []).length:Int) * 16≤140737488351232:=by
  rcases Nat.lt_or_ge e.loc.toNat g.ord.length with h1 | h1
  ·have:=h.ords _ (getD_mem (d:=[]) h1);omega
  ·rw [List.getD_eq_getElem?_getD,List.getElem?_eq_none h1];simp
 refine ⟨hb.init,by show ((g.th.set t _).length:Int)≤_;rw [List.length_set];exact hb.th,by show ((g.fr.set t _).length:Int)≤_;rw [List.length_set];exact hb.fr,?_,hm _ _ _ hb.ths (by rw [List.length_append];simp only [List.length_cons,List.length_nil];omega),hm _ _ _ hb.frs (by rw [List.length_append];simp only [List.length_cons,List.length_nil];omega),?_⟩
 ·show ((if writesM e=true then g.ord.set e.loc.toNat (addO g t e p) else g.ord).length:Int)≤_
  split
  ·rw [List.length_set];exact hb.ord
  ·exact hb.ord
 ·show ∀ y∈(if writesM e=true then g.ord.set e.loc.toNat (addO g t e p) else g.ord),_
  split
  ·refine hm _ _ _ hb.ords ?_
   unfold addO
   simp only [List.length_append,List.length_take,List.length_drop,List.length_cons,List.length_nil]
   omega
  ·exact hb.ords
theorem gcheck_iff {g:Gr}:gcheckM g=0↔GOk g:=by
 constructor
 ·intro h
  unfold gcheckM at h
  split at h
  ·split at h
   ·assumption
   ·cases h
  ·cases h
 ·exact gcheck0
end Go.AL.Rl
namespace Go.AL.Rl
open Go Go.AL Go.Proofs
set_option maxRecDepth 100000
set_option maxHeartbeats 3200000
variable {γ:Nat→Option AV}
end Go.AL.Rl
namespace Go.AL.Rl
open Go Go.AL Go.Proofs
set_option maxRecDepth 100000
set_option maxHeartbeats 3200000
variable {γ:Nat→Option AV}
section
variable {g:Gr} {t:Nat} {e:Ev} {d:EId} {p:Int} (hg:GOk g) (ht:t<g.th.length) (hh:GOk (addG g t e d p)) {x y:Nat} (hx:x<nG g) (hy:y<nG g)
include hg ht hh hx hy
end
end Go.AL.Rl
namespace Go.AL.Rl
open Go Go.AL Go.Proofs
set_option maxRecDepth 100000
set_option maxHeartbeats 1600000
structure Wke (a b:Ev):Prop where
 kind:b.kind=a.kind
 loc:b.loc=a.loc
 rd:b.rd=a.rd
 wr:b.wr=a.wr
 ord:1≤a.order→a.order≤6→1≤b.order∧b.order≤6
 acq:acqM b=true→acqM a=true
 rel:relM b=true→relM a=true
 na:b.order≠1→a.order≠1
structure Wk (g h:Gr):Prop where
 init:h.init=g.init
 fr:h.fr=g.fr
 ord:h.ord=g.ord
 len:h.th.length=g.th.length
 lens:∀ t,(h.th.getD t []).length=(g.th.getD t []).length
 evs:∀ t i,Wke ((g.th.getD t []).getD i ev0) ((h.th.getD t []).getD i ev0)
section
variable {g h:Gr} (W:Wk g h)
include W
end
end Go.AL.Rl
namespace Go.AL.Rl
open Go Go.AL Go.Proofs
set_option maxRecDepth 100000
set_option maxHeartbeats 1600000
variable {γ:Nat→Option AV}
abbrev aFc (g:Gr) (n:Int) (po rf co fr eco porf loc sw hb:List (BitVec 64)):AV:=
 .agg [.vs 1 fun _=>is g.init,.vs 1 fun _=>evss g.th,.vs 1 fun _=>idss g.fr,.vs 1 fun _=>idss g.ord,.i fun _=>n,.vs 1 fun _=>us po,.i fun _=>n,.vs 1 fun _=>us rf,.i fun _=>n,.vs 1 fun _=>us co,.i fun _=>n,.vs 1 fun _=>us fr,.i fun _=>n,.vs 1 fun _=>us eco,.i fun _=>n,.vs 1 fun _=>us porf,.i fun _=>n,.vs 1 fun _=>us loc,.i fun _=>n,.vs 1 fun _=>us sw,.i fun _=>n,.vs 1 fun _=>us hb]
theorem known_ok (m:Int):Pure Try.prog γ false 23 [.i fun _=>m] (.b fun _=>decide (m=1∨m=2)):=by
 refine Pure.go (ty:=ty) ty_eq mo Try.func23 rfl Try.ntmps23 Try.results23 Try.call23 (by simp) fun P C CQ D W F E hF=>?_
 cbv
 repeat' (first
  |(refine ⟨fun _ h_s=>?_,fun _ h_s=>?_⟩<;>(cbv;(try simp only [nc] at *);try simp (disch:=(first|omega|(simp only [lnS];omega))) only [rdT,rdS,reduceCtorEq,trT] at h_s))
  |(refine hF ?_;intro _;clear hF)
  |(refine hF ?_;cbv;clear hF)
  |(refine ⟨fun _=>?_,?_⟩;(· ((try simp only [nc] at *);first|done|omega|exact ⟨by omega,rfl⟩|(simp (disch:=(first|omega|(simp only [lnS];omega))) only [rdT,rdS];first|done|omega|rfl|exact ⟨by omega,rfl⟩|(simp;done)|(simp;omega))|(intros;trivial)));(try (simp only [nc] at *));(try simp (disch:=(first|omega|(simp only [lnS];omega))) only [rdT,rdS]);(try cbv))
  | fail
 )
 all_goals simp_all
theorem rules_yes1:Pure Try.prog γ false 32 [.i fun _=>1] (.vs 1 fun _=>is [1,2,6]):=by
 refine Pure.go (ty:=ty) ty_eq mo Try.func32 rfl Try.ntmps32 Try.results32 Try.call32 (by simp) fun P C CQ D W F E hF=>?_
 cbv
 repeat' (first
  |(refine ⟨fun _ h_s=>?_,fun _ h_s=>?_⟩<;>(cbv;(try simp only [nc] at *);try simp (disch:=(first|omega|(simp only [lnS];omega))) only [rdT,rdS,reduceCtorEq,trT] at h_s))
  |(refine hF ?_;intro _;clear hF)
  |(refine hF ?_;cbv;clear hF)
  |(refine ⟨fun _=>?_,?_⟩;(· ((try simp only [nc] at *);first|done|omega|exact ⟨by omega,rfl⟩|(simp (disch:=(first|omega|(simp only [lnS];omega))) only [rdT,rdS];first|done|omega|rfl|exact ⟨by omega,rfl⟩|(simp;done)|(simp;omega))|(intros;trivial)));(try (simp only [nc] at *));(try simp (disch:=(first|omega|(simp only [lnS];omega))) only [rdT,rdS]);(try cbv))
  | fail
 )
 all_goals simp_all [is,setAll,LV.of,AV.nrm]
theorem rules_yes2:Pure Try.prog γ false 32 [.i fun _=>2] (.vs 1 fun _=>is [1,2,3,4,5]):=by
 refine Pure.go (ty:=ty) ty_eq mo Try.func32 rfl Try.ntmps32 Try.results32 Try.call32 (by simp) fun P C CQ D W F E hF=>?_
 cbv
 repeat' (first
  |(refine ⟨fun _ h_s=>?_,fun _ h_s=>?_⟩<;>(cbv;(try simp only [nc] at *);try simp (disch:=(first|omega|(simp only [lnS];omega))) only [rdT,rdS,reduceCtorEq,trT] at h_s))
  |(refine hF ?_;intro _;clear hF)
  |(refine hF ?_;cbv;clear hF)
  |(refine ⟨fun _=>?_,?_⟩;(· ((try simp only [nc] at *);first|done|omega|exact ⟨by omega,rfl⟩|(simp (disch:=(first|omega|(simp only [lnS];omega))) only [rdT,rdS];first|done|omega|rfl|exact ⟨by omega,rfl⟩|(simp;done)|(simp;omega))|(intros;trivial)));(try (simp only [nc] at *));(try simp (disch:=(first|omega|(simp only [lnS];omega))) only [rdT,rdS]);(try cbv))
  | fail
 )
 all_goals simp_all [is,setAll,LV.of,AV.nrm]
def gB:Gr:=⟨[0,0],[[⟨2,0,5,0,1⟩,⟨1,1,5,0,0⟩],[⟨2,1,5,0,1⟩,⟨1,0,5,0,0⟩]],[[⟨0,0⟩,⟨0,1⟩],[⟨0,0⟩,⟨0,0⟩]],[[⟨1,0⟩],[⟨2,0⟩]]⟩
theorem ar_ok (k l w:Int):Pure Try.prog γ false 29 [.i fun _=>k,.i fun _=>l,.i fun _=>w] (aEv ⟨k,l,5,0,w⟩):=by
 refine Pure.go (ty:=ty) ty_eq mo Try.func29 rfl Try.ntmps29 Try.results29 Try.call29 (by simp) fun P C CQ D W F E hF=>?_
 cbv
 repeat' (first
  |(refine ⟨fun _ h_s=>?_,fun _ h_s=>?_⟩<;>(cbv;(try simp only [nc] at *);try simp (disch:=(first|omega|(simp only [lnS];omega))) only [rdT,rdS,reduceCtorEq,trT] at h_s))
  |(refine hF ?_;intro _;clear hF)
  |(refine hF ?_;cbv;clear hF)
  |(refine ⟨fun _=>?_,?_⟩;(· ((try simp only [nc] at *);first|done|omega|exact ⟨by omega,rfl⟩|(simp (disch:=(first|omega|(simp only [lnS];omega))) only [rdT,rdS];first|done|omega|rfl|exact ⟨by omega,rfl⟩|(simp;done)|(simp;omega))|(intros;trivial)));(try (simp only [nc] at *));(try simp (disch:=(first|omega|(simp only [lnS];omega))) only [rdT,rdS]);(try cbv))
  | fail
 )
 all_goals (try simp only [nc] at *)
 all_goals (try simp (disch:=(first|omega|(simp only [lnS];omega))) only [rdT,rdS])
theorem buffers_ok:Pure Try.prog γ false 17 [] (aGr gB):=by
 refine Pure.go (ty:=ty) ty_eq mo Try.func17 rfl Try.ntmps17 Try.results17 Try.call17 (by simp) fun P C CQ D W F E hF=>?_
 cbv
 repeat' (first
  |(refine E.c (SCalls.of_le (ar_ok 1 0 0) ?_ ?_);(· (cbv;(try simp only [nc] at *);first|done|(simp;done)|(simp (disch:=(first|omega|(simp only [lnS];omega))) only [rdT,rdS,anT];first|done|omega|(refine ⟨?_,?_⟩<;>omega))|(simp (disch:=(first|omega|(simp only [lnS];omega))) [rdT,rdS];done)));cbv)
  |(refine E.c (SCalls.of_le (ar_ok 2 1 1) ?_ ?_);(· (cbv;(try simp only [nc] at *);first|done|(simp;done)|(simp (disch:=(first|omega|(simp only [lnS];omega))) only [rdT,rdS,anT];first|done|omega|(refine ⟨?_,?_⟩<;>omega))|(simp (disch:=(first|omega|(simp only [lnS];omega))) [rdT,rdS];done)));cbv)
  |(refine E.c (SCalls.of_le (ar_ok 1 1 0) ?_ ?_);(· (cbv;(try simp only [nc] at *);first|done|(simp;done)|(simp (disch:=(first|omega|(simp only [lnS];omega))) only [rdT,rdS,anT];first|done|omega|(refine ⟨?_,?_⟩<;>omega))|(simp (disch:=(first|omega|(simp only [lnS];omega))) [rdT,rdS];done)));cbv)
  |(refine E.c (SCalls.of_le (ar_ok 2 0 1) ?_ ?_);(· (cbv;(try simp only [nc] at *);first|done|(simp;done)|(simp (disch:=(first|omega|(simp only [lnS];omega))) only [rdT,rdS,anT];first|done|omega|(refine ⟨?_,?_⟩<;>omega))|(simp (disch:=(first|omega|(simp only [lnS];omega))) [rdT,rdS];done)));cbv)
  |(refine ⟨fun _ h_s=>?_,fun _ h_s=>?_⟩<;>(cbv;(try simp only [nc] at *);try simp (disch:=(first|omega|(simp only [lnS];omega))) only [rdT,rdS,reduceCtorEq,trT] at h_s))
  |(refine hF ?_;intro _;clear hF)
  |(refine hF ?_;cbv;clear hF)
  |(refine ⟨fun _=>?_,?_⟩;(· ((try simp only [nc] at *);first|done|omega|exact ⟨by omega,rfl⟩|(simp (disch:=(first|omega|(simp only [lnS];omega))) only [rdT,rdS];first|done|omega|rfl|exact ⟨by omega,rfl⟩|(simp;done)|(simp;omega))|(intros;trivial)));(try (simp only [nc] at *));(try simp (disch:=(first|omega|(simp only [lnS];omega))) only [rdT,rdS]);(try cbv))
  | fail
 )
theorem circle_ok (n:Int) (rows:List (BitVec 64)) (hl:rows.length≤64):Pure Try.prog γ false 42 [encRel n rows] (aFt (circF rows)):=by
 refine Pure.go (ty:=ty) ty_eq mo Try.func42 rfl Try.ntmps42 Try.results42 Try.call42 (by simp) fun P C CQ D W F E hF=>?_
 cbv
 repeat' (first
  |(refine ⟨fun _ h_s=>?_,fun _ h_s=>?_⟩<;>(cbv;(try simp only [nc] at *);try simp (disch:=(first|omega|(simp only [lnS];omega))) only [rdT,rdS,reduceCtorEq,trT] at h_s))
  |(refine hF ?_;intro _;clear hF)
  |(refine hF ?_;cbv;clear hF)
  |(refine ⟨fun _=>?_,?_⟩;(· ((try simp only [nc] at *);first|done|omega|exact ⟨by omega,rfl⟩|(simp (disch:=(first|omega|(simp only [lnS];omega))) only [rdT,rdS];first|done|omega|rfl|exact ⟨by omega,rfl⟩|(simp;done)|(simp;omega))|(intros;trivial)));(try (simp only [nc] at *));(try simp (disch:=(first|omega|(simp only [lnS];omega))) only [rdT,rdS]);(try cbv))
  | fail
 )
 refine E.loopS (ι:=Nat) (fun i=>i≤rows.length∧(∀ k<i,bit rows k k=false)) (fun i=>rows.length-i) (fun i=>[(8,.i fun _=>((i:Nat):Int))]) (fun i h=>h) 0 (fun _=>by first|rfl|simp) ⟨Nat.zero_le _,?_⟩ ?_ fun i hi I hI=>?_
 ·intro k hk;omega
 ·cbv;simp
 cbv
 obtain ⟨hi,hp⟩:=hi
 have hb:bit rows i i=(!decide ((rows.getD i 0 >>> i) &&& 1#64=0#64)):=(getLsb_and1 _ _).symm
 have hbi:=bofInt (k:=i) (by omega)
 repeat' (first
  |(refine hI (i+1) ?_ ?_ ?_;rotate_left 1;(· ((try simp only [nc] at *);omega));(cbv;clear hI;(try clear hF);(try simp only [nc] at *);(try simp (disch:=(first|omega|(simp only [lnS];omega))) only [rdT,rdS,anT]));rotate_left 1;(try ((try simp only [nc] at *);omega)))
  |(refine ⟨fun _ h_s=>?_,fun _ h_s=>?_⟩<;>(cbv;(try simp only [nc] at *);try simp (disch:=(first|omega|(simp only [lnS];omega))) only [rdT,rdS,reduceCtorEq,trT] at h_s))
  |(refine hF ?_;intro _;clear hF)
  |(refine hF ?_;cbv;clear hF)
  |(refine ⟨fun _=>?_,?_⟩;(· ((try simp only [nc] at *);first|done|omega|exact ⟨by omega,rfl⟩|(simp (disch:=(first|omega|(simp only [lnS];omega))) only [rdT,rdS];first|done|omega|rfl|exact ⟨by omega,rfl⟩|(simp;done)|(simp;omega))|(intros;trivial)));(try (simp only [nc] at *));(try simp (disch:=(first|omega|(simp only [lnS];omega))) only [rdT,rdS]);(try cbv))
  | fail
 )
 ·have hbt:bit rows i i=true:=by rw [hb];simpa using h_s
  rw [circF_at (by ((try simp only [nc] at *);omega)) hbt hp]
  exact ⟨fun _=>rfl,fun _=>rfl,fun _=>rfl,trivial⟩
 ·refine ⟨by ((try simp only [nc] at *);omega),fun k hk=>?_⟩
  rcases Nat.lt_or_ge k i with h1 | h1
  ·exact hp k h1
  ·obtain rfl:k=i:=by omega
   rw [hb];simpa using h_s
 ·push_cast;rfl
 ·have e:i=rows.length:=by ((try simp only [nc] at *);omega)
  subst e
  rw [circF_no hp]
  exact ⟨fun _=>rfl,fun _=>rfl,fun _=>rfl,trivial⟩
theorem index_at (l:List EId) (d:EId) (hl:(l.length:Int)≤9223372036854775807) (k0:Nat) (hk0:k0<l.length) (hd:l.getD k0 id0=d) (hb:∀ k<k0,l.getD k id0≠d):Pure Try.prog γ false 92 [.vs 2 fun _=>ids l,aId d] (.i fun _=>(k0:Int)):=by
 refine Pure.go (ty:=ty) ty_eq mo Try.func92 rfl Try.ntmps92 Try.results92 Try.call92 (by simp) fun P C CQ D W F E hF=>?_
 cbv
 repeat' (first
  |(refine ⟨fun _ h_s=>?_,fun _ h_s=>?_⟩<;>(cbv;(try simp only [nc] at *);try simp (disch:=(first|omega|(simp only [lnS];omega))) only [rdT,rdS,reduceCtorEq,trT] at h_s))
  |(refine hF ?_;intro _;clear hF)
  |(refine hF ?_;cbv;clear hF)
  |(refine ⟨fun _=>?_,?_⟩;(· ((try simp only [nc] at *);first|done|omega|exact ⟨by omega,rfl⟩|(simp (disch:=(first|omega|(simp only [lnS];omega))) only [rdT,rdS];first|done|omega|rfl|exact ⟨by omega,rfl⟩|(simp;done)|(simp;omega))|(intros;trivial)));(try (simp only [nc] at *));(try simp (disch:=(first|omega|(simp only [lnS];omega))) only [rdT,rdS]);(try cbv))
  |(refine E.d 5 (by decide +kernel) ?_;cbv;(fail_if_success guard_target =~ False))
  | fail
 )
 refine E.loopS (ι:=Nat) (fun i=>i≤l.length∧(i≤k0)) (fun i=>l.length-i) (fun i=>[(8,.i fun _=>((i:Nat):Int))]) (fun i h=>h) 0 (fun _=>by first|rfl|simp) ⟨Nat.zero_le _,?_⟩ ?_ fun i hi I hI=>?_
 ·omega
 ·cbv;simp
 cbv
 obtain ⟨hi,hp⟩:=hi
 repeat' (first
  |(refine hI (i+1) ?_ ?_ ?_;rotate_left 1;(· ((try simp only [nc] at *);omega));(cbv;clear hI;(try clear hF);(try simp only [nc] at *);(try simp (disch:=(first|omega|(simp only [lnS];omega))) only [rdT,rdS,anT]));rotate_left 1;(try ((try simp only [nc] at *);omega)))
  |(refine ⟨fun _ h_s=>?_,fun _ h_s=>?_⟩<;>(cbv;(try simp only [nc] at *);try simp (disch:=(first|omega|(simp only [lnS];omega))) only [rdT,rdS,reduceCtorEq,trT] at h_s))
  |(refine hF ?_;intro _;clear hF)
  |(refine hF ?_;cbv;clear hF)
  |(refine ⟨fun _=>?_,?_⟩;(· ((try simp only [nc] at *);first|done|omega|exact ⟨by omega,rfl⟩|(simp (disch:=(first|omega|(simp only [lnS];omega))) only [rdT,rdS];first|done|omega|rfl|exact ⟨by omega,rfl⟩|(simp;done)|(simp;omega))|(intros;trivial)));(try (simp only [nc] at *));(try simp (disch:=(first|omega|(simp only [lnS];omega))) only [rdT,rdS]);(try cbv))
  |(refine E.d 5 (by decide +kernel) ?_;cbv;(fail_if_success guard_target =~ False))
  | fail
 )
 ·simp only [Bool.and_true,Bool.and_eq_true,decide_eq_true_eq] at h_s
  have he:l.getD i id0=d:=(EId.ext' h_s.1 h_s.2).symm
  have e:i=k0:=by
   rcases Nat.lt_or_ge i k0 with h1 | h1
   ·exact absurd he (hb i h1)
   ·omega
  subst e;rfl
 ·refine ⟨by ((try simp only [nc] at *);omega),?_⟩
  rcases Nat.lt_or_ge i k0 with h1 | h1
  ·omega
  ·exfalso
   obtain rfl:i=k0:=by omega
   rw [hd] at h_s
   simp at h_s
 ·push_cast;rfl
 ·exfalso;((try simp only [nc] at *);omega)
end Go.AL.Rl
namespace Go.AL.Rl
open Go Go.AL Go.Proofs
set_option maxRecDepth 100000
set_option maxHeartbeats 3200000
variable {γ:Nat→Option AV}
theorem place_at (g:Gr) (hg:Rd g) (loc:Int) (d:EId) (p:Int)
  (hp:(d.t=0∧p=0)∨(d.t≠0∧0≤loc∧loc<g.ord.length∧∃ k0:Nat,p=k0+1∧k0<(g.ord.getD loc.toNat []).length∧(g.ord.getD loc.toNat []).getD k0 id0=d∧∀ k<k0,(g.ord.getD loc.toNat []).getD k id0≠d)) :
  Pure Try.prog γ false 64 [aGr g,.i fun _=>loc,aId d] (.i fun _=>p):=by
 have hor:=hg.ord
 have hord:=ordsAt hg loc.toNat
 rcases hp with ⟨h0,hp⟩ | ⟨h0,h1,h2,k0,h3,h4,h5,h6⟩
 ·subst hp
  refine Pure.go (ty:=ty) ty_eq mo Try.func64 rfl Try.ntmps64 Try.results64 Try.call64 (by simp) fun P C CQ D W F E hF=>?_
  cbv
  repeat' (first
   |(refine ⟨fun _ h_s=>?_,fun _ h_s=>?_⟩<;>(cbv;(try simp only [nc] at *);try simp (disch:=(first|omega|(simp only [lnS];omega))) only [rdT,rdS,reduceCtorEq,trT] at h_s))
   |(refine hF ?_;intro _;clear hF)
   |(refine hF ?_;cbv;clear hF)
   |(refine ⟨fun _=>?_,?_⟩;(· ((try simp only [nc] at *);first|done|omega|exact ⟨by omega,rfl⟩|(simp (disch:=(first|omega|(simp only [lnS];omega))) only [rdT,rdS];first|done|omega|rfl|exact ⟨by omega,rfl⟩|(simp;done)|(simp;omega))|(intros;trivial)));(try (simp only [nc] at *));(try simp (disch:=(first|omega|(simp only [lnS];omega))) only [rdT,rdS]);(try cbv))
   |(refine E.d 6 (by decide +kernel) ?_;cbv;(fail_if_success guard_target =~ False))
   | fail
  )
  all_goals simp_all
 ·have kx:=index_at (γ:=γ) (g.ord.getD loc.toNat []) d hord k0 h4 h5 h6
  obtain ⟨l,hl⟩:∃ l,l=g.ord.getD loc.toNat []:=⟨_,rfl⟩
  rw [←hl] at kx h4 hord
  clear h5 h6
  refine Pure.go (ty:=ty) ty_eq mo Try.func64 rfl Try.ntmps64 Try.results64 Try.call64 (by simp) fun P C CQ D W F E hF=>?_
  cbv
  skip
  repeat' (first
   |((first|refine E.c (SCalls.of_le (kx) ?_ ?_)|refine E.q (QCalls.of_le (kx) ?_ ?_));(· (cbv;(try simp only [nc] at *);first|done|(simp;done)|(simp (disch:=(first|omega|(simp only [lnS];omega))) only [rdT,rdS,←hl,anT];first|done|omega|(refine ⟨?_,?_⟩<;>omega))|(simp (disch:=(first|omega|(simp only [lnS];omega))) [rdT,rdS,←hl];done)));cbv)
   |(refine ⟨fun _ h_s=>?_,fun _ h_s=>?_⟩<;>(cbv;(try simp only [nc] at *);try simp (disch:=(first|omega|(simp only [lnS];omega))) only [rdT,rdS,←hl,reduceCtorEq,trT] at h_s))
   |(refine hF ?_;intro _;clear hF)
   |(refine hF ?_;cbv;clear hF)
   |(refine ⟨fun _=>?_,?_⟩;(· ((try simp only [nc] at *);first|done|omega|exact ⟨by omega,rfl⟩|(simp (disch:=(first|omega|(simp only [lnS];omega))) only [rdT,rdS,←hl];first|done|omega|rfl|exact ⟨by omega,rfl⟩|(simp;done)|(simp;omega))|(intros;trivial)));(try (simp only [nc] at *));(try simp (disch:=(first|omega|(simp only [lnS];omega))) only [rdT,rdS,←hl]);(try cbv))
   |(refine E.d 6 (by decide +kernel) ?_;cbv;(fail_if_success guard_target =~ False))
   | fail
  )
  ·exact absurd (by assumption) h0
  ·rw [h3]
   simp only
   (try simp only [nc] at *)
   rw [w64_of (by ((try simp only [nc] at *);omega)) (by ((try simp only [nc] at *);omega))]
def kN (g:Gr) (t i:Nat):Nat:=g.init.length+(evsT g t).length+i
theorem idsT_at (g:Gr) (t i:Nat) (hi:i<(g.th.getD t []).length):∀ T,t<T→(evsT g t).length+i<(idsT g T).length∧(idsT g T).getD ((evsT g t).length+i) id0=⟨(t:Int)+1,(i:Int)⟩
 | 0,h=>absurd h (Nat.not_lt_zero _)
 | T+1,h=>by
  rw [idsT_succ]
  by_cases e:t=T
  ·subst e
   have hl:=idsT_len g t
   have hE:=idsE_len t (g.th.getD t []).length
   refine ⟨by rw [List.length_append,hE];omega,?_⟩
   rw [List.getD_eq_getElem?_getD,List.getElem?_append_right (by omega)]
   rw [show (evsT g t).length+i-(idsT g t).length=i by omega]
   have hi':i<(g.th[t]?.getD []).length:=by simpa using hi
   simp [idsE,hi']
  ·obtain ⟨h1,h2⟩:=idsT_at g t i hi T (by omega)
   refine ⟨by rw [List.length_append];omega,?_⟩
   rw [List.getD_eq_getElem?_getD,List.getElem?_append_left h1,←List.getD_eq_getElem?_getD,h2]
theorem kN_ids {g:Gr} {t i:Nat} (ht:t<g.th.length) (hi:i<(g.th.getD t []).length):kN g t i<nG g∧(idsG g).getD (kN g t i) id0=⟨(t:Int)+1,(i:Int)⟩:=by
 obtain ⟨h1,h2⟩:=idsT_at g t i hi g.th.length ht
 have hI:=idsI_len g.init.length
 refine ⟨by unfold nG idsG kN;rw [List.length_append,hI];omega,?_⟩
 unfold idsG kN
 rw [List.getD_eq_getElem?_getD,List.getElem?_append_right (by omega),hI,show g.init.length+(evsT g t).length+i-g.init.length=(evsT g t).length+i by omega,←List.getD_eq_getElem?_getD,h2]
theorem kN_ev {g:Gr} {t i:Nat} (ht:t<g.th.length) (hi:i<(g.th.getD t []).length) (hs:g.th.length≤4):(viewG g).ev.getD (kN g t i) ev0=(g.th.getD t []).getD i ev0:=by
 obtain ⟨h1,h2⟩:=kN_ids ht hi
 have:=evsG_get g (kN g t i) h1
 rw [h2] at this
 unfold eventM at this
 have hi':i<(g.th[t]?.getD []).length:=by simpa using hi
 rw [if_neg (by simp;omega),if_pos (by simp;omega)] at this
 have e:=(Option.some.inj this).symm
 show (evsG g).getD _ _=_
 rw [e]
 simp
theorem place_num (g:Gr) (hg:Rd g) (h:GOk g) (k:Nat) (hk:k<nG g) (hw:writesM ((viewG g).ev.getD k ev0)=true) (loc:Int) (hloc:loc=((viewG g).ev.getD k ev0).loc) (d:EId) (hd:(idsG g).getD k id0=d) :
  Pure Try.prog γ false 64 [aGr g,.i fun _=>loc,aId d] (.i fun _=>(viewG g).pl.getD k 0):=by
 subst hloc
 subst hd
 have hev:=vev h k hk
 rw [vpl h k hk]
 refine place_at g hg _ _ _ ?_
 rcases pl_write h hev hw with h1 | ⟨h0,k0,h1,h2,h3⟩
 ·exact .inl h1
 ·have hl:=fine_loc (event_fine h hev h0) (notFence_w hw)
  have hnd:(g.ord.getD ((viewG g).ev.getD k ev0).loc.toNat []).Nodup:=((ordered_iff g _).1 (h.orders _ (by omega))).1
  refine .inr ⟨h0,hl.1,by rw [h.lord];exact hl.2,k0,h1,h2,h3,fun j hj he=>?_⟩
  have:j=k0:=getD_inj hnd (by omega) h2 (he.trans h3.symm)
  omega
end Go.AL.Rl
namespace Go.AL.Rl
open Go Go.AL Go.Proofs
set_option maxRecDepth 100000
set_option maxHeartbeats 3200000
variable {γ:Nat→Option AV}
theorem kN_next (g:Gr) (t:Nat):kN g t (g.th.getD t []).length=kN g (t+1) 0:=by
 unfold kN;rw [evsT_succ,List.length_append];omega
theorem kN_end (g:Gr):kN g g.th.length 0=nG g:=by
 unfold kN nG idsG;rw [List.length_append,idsI_len,idsT_len];omega
theorem upd_init {g:Gr} (h:GOk g) (k:Nat) (hk:k<kN g 0 0):updB (viewG g) k=false:=by
 have hk':k<g.init.length:=by simpa [kN,evsT] using hk
 have hn:k<nG g:=by unfold nG idsG;rw [List.length_append,idsI_len];omega
 have he:=vev h k hn
 have h0:((idsG g).getD k id0).t=0:=by
  unfold idsG
  rw [List.getD_eq_getElem?_getD,List.getElem?_append_left (by rw [idsI_len];exact hk')]
  simp [idsI,hk']
 have:=(event_init he h0).1
 unfold updB
 rw [this];rfl
theorem upd_src {g:Gr} (h:GOk g) {t i:Nat} (ht:t<g.th.length) (hi:i<(g.th.getD t []).length) (hr:readsM ((viewG g).ev.getD (kN g t i) ev0)=true) :
  ∃ w:Nat,(viewG g).fr.getD (kN g t i) 0=w∧w<nG g∧writesM ((viewG g).ev.getD w ev0)=true∧((viewG g).ev.getD w ev0).loc=((viewG g).ev.getD (kN g t i) ev0).loc∧(idsG g).getD w id0=(g.fr.getD t []).getD i id0:=by
 obtain ⟨hk,hd⟩:=kN_ids ht hi
 obtain ⟨w,h1,h2,h3,h4,h5⟩:=src_of h (kN g t i) hk hr
 refine ⟨w,h1,h2,h4,h5,?_⟩
 have e:=vfr h _ hk
 rw [hd] at e
 have hev:=vev h _ hk
 rw [hd] at hev
 unfold frOf at e
 rw [if_neg (by simp;omega),hev] at e
 simp only [Option.getD_some] at e
 rw [if_pos hr,h1] at e
 have hw:w=numOf (idsG g) (srcOf g ⟨(t:Int)+1,(i:Int)⟩):=Int.ofNat_inj.1 e
 have hm:srcOf g ⟨(t:Int)+1,(i:Int)⟩∈idsG g:=by
  obtain ⟨wv,k1,_⟩:=source_mem (src_ok h (d:=⟨(t:Int)+1,(i:Int)⟩) (by rw [←hd];exact List.getElem_eq_getD (h:=hk) id0 ▸ List.getElem_mem _) (by simp;omega)) (by rw [hev];exact hr)
  exact idsG_mem.2 (by rw [k1];rfl)
 rw [hw,numOf_get hm]
 unfold srcOf
 simp
theorem ord_small {g:Gr} (h:GOk g) {x:Nat} (hx:x<g.init.length):(g.ord.getD x []).length≤56:=by
 have h1:=h.orders x hx
 unfold orderedM at h1
 rw [Bool.and_eq_true,decide_eq_true_eq,decide_eq_true_eq] at h1
 have h2:=cntT_le (ts:=g.th) (x:Int) h.short.ths
 have h3:=h.short.th
 omega
theorem pl_small {g:Gr} (h:GOk g) {k:Nat} (hk:k<nG g) (hw:writesM ((viewG g).ev.getD k ev0)=true):0≤(viewG g).pl.getD k 0∧(viewG g).pl.getD k 0≤60:=by
 have hev:=vev h k hk
 rw [vpl h k hk]
 rcases pl_write h hev hw with h1 | ⟨h0,k0,h1,h2,h3⟩
 ·omega
 ·have hl:=fine_loc (event_fine h hev h0) (notFence_w hw)
  have:=ord_small h (x:=((viewG g).ev.getD k ev0).loc.toNat) (by omega)
  omega
theorem update_ok (g:Gr) (hg:Rd g) (h:GOk g) (n:Int) (po rf co fr eco porf loc sw hb:List (BitVec 64)):Pure Try.prog γ false 40 [aFc g n po rf co fr eco porf loc sw hb] (aFt (updF (viewG g) (nG g))):=by
 have hth:=h.short.th
 have hin:=h.short.init
 have hle:∀ t,(g.th.getD t []).length≤14:=h.short.at
 have hk0:kN g 0 0=g.init.length:=by simp [kN,evsT]
 have hkb:∀ t i,t≤g.th.length→i≤(g.th.getD t []).length→kN g t i≤100:=fun t i h1 h2=>by
  have:=evsT_len h.short t
  have:=hle t
  unfold kN;omega
 have hU:∀ k,k<nG g→updB (viewG g) k=true→(∀ j<k,updB (viewG g) j=false)→updF (viewG g) (nG g)=⟨k,-1,true⟩:=fun k h1 h2 h3=>updF_at h1 h2 h3
 have hU0:(∀ j<nG g,updB (viewG g) j=false)→updF (viewG g) (nG g)=⟨0,0,false⟩:=updF_no
 have hui:=upd_init h
 generalize updF (viewG g) (nG g)=FT at *
 refine Pure.go (ty:=ty) ty_eq mo Try.func40 rfl Try.ntmps40 Try.results40 Try.call40 (by simp) fun P C CQ D W F E hF=>?_
 cbv
 repeat' (first
  |(refine ⟨fun _ h_s=>?_,fun _ h_s=>?_⟩<;>(cbv;(try simp only [nc] at *);try simp (disch:=(first|omega|(simp only [lnS];omega))) only [rdT,rdS,reduceCtorEq,trT] at h_s))
  |(refine hF ?_;intro _;clear hF)
  |(refine hF ?_;cbv;clear hF)
  |(refine ⟨fun _=>?_,?_⟩;(· ((try simp only [nc] at *);first|done|omega|exact ⟨by omega,rfl⟩|(simp (disch:=(first|omega|(simp only [lnS];omega))) only [rdT,rdS];first|done|omega|rfl|exact ⟨by omega,rfl⟩|(simp;done)|(simp;omega))|(intros;trivial)));(try (simp only [nc] at *));(try simp (disch:=(first|omega|(simp only [lnS];omega))) only [rdT,rdS]);(try cbv))
  |(refine E.d 16 (by decide +kernel) ?_;cbv;(fail_if_success guard_target =~ False))
  | fail
 )
 refine E.loopS (ι:=Nat) (fun t=>t≤g.th.length∧(∀ k<kN g t 0,updB (viewG g) k=false)) (fun t=>g.th.length-t) (fun t=>[(17,.i fun _=>((t:Nat):Int)),(3,.i fun _=>((kN g t 0:Nat):Int))]) (fun t h=>h) 0 (fun _=>by first|rfl|simp) ⟨Nat.zero_le _,?_⟩ ?_ fun t ht I hI=>?_
 ·exact hui
 ·cbv;simp [hk0]
 cbv
 obtain ⟨ht,hp⟩:=ht
 repeat' (first
  |(refine ⟨fun _ h_s=>?_,fun _ h_s=>?_⟩<;>(cbv;(try simp only [nc] at *);try simp (disch:=(first|omega|(simp only [lnS];omega))) only [rdT,rdS,reduceCtorEq,trT] at h_s))
  |(refine hF ?_;intro _;clear hF)
  |(refine hF ?_;cbv;clear hF)
  |(refine ⟨fun _=>?_,?_⟩;(· ((try simp only [nc] at *);first|done|omega|exact ⟨by omega,rfl⟩|(simp (disch:=(first|omega|(simp only [lnS];omega))) only [rdT,rdS];first|done|omega|rfl|exact ⟨by omega,rfl⟩|(simp;done)|(simp;omega))|(intros;trivial)));(try (simp only [nc] at *));(try simp (disch:=(first|omega|(simp only [lnS];omega))) only [rdT,rdS]);(try cbv))
  |(refine E.d 16 (by decide +kernel) ?_;cbv;(fail_if_success guard_target =~ False))
  | fail
 )
 ·refine E.loopS (ι:=Nat) (fun i=>i≤(g.th.getD t []).length∧(∀ k<kN g t i,updB (viewG g) k=false)) (fun i=>(g.th.getD t []).length-i) (fun i=>[(24,.i fun _=>((i:Nat):Int)),(3,.i fun _=>((kN g t i:Nat):Int))]) (fun i h=>h) 0 (fun _=>by first|rfl|simp) ⟨Nat.zero_le _,?_⟩ ?_ fun i hi I2 hI2=>?_
  ·exact hp
  ·cbv;simp
  cbv
  obtain ⟨hi,hp2⟩:=hi
  have hb:=hkb t i ht hi
  have hb1:=hle t
  repeat' (first
   |(refine hI (t+1) ?_ ?_ ?_;rotate_left 1;(· ((try simp only [nc] at *);omega));(cbv;clear hI;(try clear hF);(try simp only [nc] at *);(try simp (disch:=(first|omega|(simp only [lnS];omega))) only [rdT,rdS,anT]));rotate_left 1;(try ((try simp only [nc] at *);omega)))
   |(refine hI2 (i+1) ?_ ?_ ?_;rotate_left 1;(· ((try simp only [nc] at *);omega));(cbv;clear hI2;(try clear hF);(try simp only [nc] at *);(try simp (disch:=(first|omega|(simp only [lnS];omega))) only [rdT,rdS,anT]));rotate_left 1;(try ((try simp only [nc] at *);omega)))
   |(refine ⟨fun _ h_s=>?_,fun _ h_s=>?_⟩<;>(cbv;(try simp only [nc] at *);try simp (disch:=(first|omega|(simp only [lnS];omega))) only [rdT,rdS,reduceCtorEq,trT] at h_s))
   |(refine hF ?_;intro _;clear hF)
   |(refine hF ?_;cbv;clear hF)
   |(refine ⟨fun _=>?_,?_⟩;(· ((try simp only [nc] at *);first|done|omega|exact ⟨by omega,rfl⟩|(simp (disch:=(first|omega|(simp only [lnS];omega))) only [rdT,rdS];first|done|omega|rfl|exact ⟨by omega,rfl⟩|(simp;done)|(simp;omega))|(intros;trivial)));(try (simp only [nc] at *));(try simp (disch:=(first|omega|(simp only [lnS];omega))) only [rdT,rdS]);(try cbv))
   |(refine E.d 16 (by decide +kernel) ?_;cbv;(fail_if_success guard_target =~ False))
   | fail
  )
  ·have ht':t<g.th.length:=by ((try simp only [nc] at *);omega)
   have hi':i<(g.th.getD t []).length:=by ((try simp only [nc] at *);omega)
   obtain ⟨hk,hd⟩:=kN_ids ht' hi'
   have hev:=kN_ev ht' hi' hth
   have h3:((g.th.getD t []).getD i ev0).kind=3:=by assumption
   have hr:readsM ((viewG g).ev.getD (kN g t i) ev0)=true:=by rw [hev];unfold readsM;rw [h3];rfl
   have hw:writesM ((viewG g).ev.getD (kN g t i) ev0)=true:=by rw [hev];unfold writesM;rw [h3];rfl
   obtain ⟨w,s1,s2,s3,s4,s5⟩:=upd_src h ht' hi' hr
   have p1:=place_num (γ:=γ) g hg h (kN g t i) hk hw ((g.th.getD t []).getD i ev0).loc (by rw [hev]) ⟨(t:Int)+1,(i:Int)⟩ hd
   have p2:=place_num (γ:=γ) g hg h w s2 s3 ((g.th.getD t []).getD i ev0).loc (by rw [s4,hev]) ((g.fr.getD t []).getD i id0) s5
   have hfl:(g.fr.getD t []).length=(g.th.getD t []).length:=(h.events t ht').1
   have hfr:g.fr.length=g.th.length:=h.lfr
   have hu:updB (viewG g) (kN g t i)=decide ((viewG g).pl.getD (kN g t i) 0≠(viewG g).pl.getD w 0+1):=by unfold updB;rw [hev,h3,s1];simp
   have b1:=pl_small h hk hw
   have b2:=pl_small h s2 s3
   have hUk:=hU _ hk
   clear hU hU0 hui hkb s1 s5 hd hr hw hev
   generalize (viewG g).pl.getD (kN g t i) 0=x1 at *
   generalize (viewG g).pl.getD w 0=x2 at *
   repeat' (first
    |(refine hI2 (i+1) ?_ ?_ ?_;rotate_left 1;(· ((try simp only [nc] at *);omega));(cbv;clear hI2;(try clear hF);(try simp only [nc] at *);(try simp (disch:=(first|omega|(simp only [lnS];omega))) only [rdT,rdS,anT]));rotate_left 1;(try ((try simp only [nc] at *);omega)))
    |((first|refine E.c (SCalls.of_le (p2) ?_ ?_)|refine E.q (QCalls.of_le (p2) ?_ ?_));(· (cbv;(try simp only [nc] at *);first|done|(simp;done)|(simp (disch:=(first|omega|(simp only [lnS];omega))) only [rdT,rdS,anT];first|done|omega|(refine ⟨?_,?_⟩<;>omega))|(simp (disch:=(first|omega|(simp only [lnS];omega))) [rdT,rdS];done)));cbv)
    |(refine E.c (SCalls.of_le (p1) ?_ ?_);(· (cbv;(try simp only [nc] at *);first|done|(simp;done)|(simp (disch:=(first|omega|(simp only [lnS];omega))) only [rdT,rdS,anT];first|done|omega|(refine ⟨?_,?_⟩<;>omega))|(simp (disch:=(first|omega|(simp only [lnS];omega))) [rdT,rdS];done)));cbv)
    |(refine ⟨fun _ h_s=>?_,fun _ h_s=>?_⟩<;>(cbv;(try simp only [nc] at *);try simp (disch:=(first|omega|(simp only [lnS];omega))) only [rdT,rdS,reduceCtorEq,trT] at h_s))
    |(refine hF ?_;intro _;clear hF)
    |(refine hF ?_;cbv;clear hF)
    |(refine ⟨fun _=>?_,?_⟩;(· ((try simp only [nc] at *);first|done|omega|exact ⟨by omega,rfl⟩|(simp (disch:=(first|omega|(simp only [lnS];omega))) only [rdT,rdS];first|done|omega|rfl|exact ⟨by omega,rfl⟩|(simp;done)|(simp;omega))|(intros;trivial)));(try (simp only [nc] at *));(try simp (disch:=(first|omega|(simp only [lnS];omega))) only [rdT,rdS]);(try cbv))
    |(refine E.d 16 (by decide +kernel) ?_;cbv;(fail_if_success guard_target =~ False))
    | fail
   )
   ·have hs1:¬ x1=x2+1:=by
     first
      | exact h_s
      | (rw [w64_of (by omega) (by omega)] at h_s;exact h_s)
    rw [hUk (by rw [hu];exact decide_eq_true hs1) hp2]
    exact ⟨fun _=>rfl,fun _=>rfl,fun _=>rfl,trivial⟩
   ·have hs1:x1=x2+1:=by
     first
      | exact h_s
      | (rw [w64_of (by omega) (by omega)] at h_s;exact h_s)
    refine ⟨by ((try simp only [nc] at *);omega),fun k hk=>?_⟩
    rcases Nat.lt_or_ge k (kN g t i) with h1 | h1
    ·exact hp2 k h1
    ·obtain rfl:k=kN g t i:=by unfold kN at *;omega
     rw [hu];exact decide_eq_false (by simp [hs1])
   ·refine ⟨?_,by push_cast;rfl⟩
    unfold kN;push_cast;omega
  ·refine ⟨by ((try simp only [nc] at *);omega),fun k hk=>?_⟩
   have h3:¬ ((g.th.getD t []).getD i ev0).kind=3:=by assumption
   rcases Nat.lt_or_ge k (kN g t i) with h1 | h1
   ·exact hp2 k h1
   ·obtain rfl:k=kN g t i:=by unfold kN at *;omega
    unfold updB
    rw [kN_ev (by ((try simp only [nc] at *);omega)) (by ((try simp only [nc] at *);omega)) hth,decide_eq_false h3];rfl
  ·refine ⟨?_,by push_cast;rfl⟩
   unfold kN;push_cast;omega
  ·have e:i=(g.th.getD t []).length:=by ((try simp only [nc] at *);omega)
   subst e
   rw [kN_next] at hp2
   exact ⟨by ((try simp only [nc] at *);omega),hp2⟩
  ·have e:i=(g.th.getD t []).length:=by ((try simp only [nc] at *);omega)
   subst e
   rw [kN_next]
   exact ⟨rfl,by push_cast;rfl⟩
 ·have e:t=g.th.length:=by ((try simp only [nc] at *);omega)
  subst e
  rw [kN_end] at hp
  rw [hU0 hp]
  exact ⟨fun _=>rfl,fun _=>rfl,fun _=>rfl,trivial⟩
end Go.AL.Rl
namespace Go.AL.Rl
open Go Go.AL Go.Proofs
set_option maxRecDepth 100000
set_option maxHeartbeats 3200000
variable {γ:Nat→Option AV}
theorem coherence_ok (g:Gr) (n:Int) (po rf co fr eco porf loc sw hb:List (BitVec 64)) (le:eco.length≤64) (lh:hb.length≤64) (hle:hb.length=eco.length):Pure Try.prog γ false 44 [aFc g n po rf co fr eco porf loc sw hb] (aFt (cohF hb eco)):=by
 have hU:∀ a b,a<hb.length→b<eco.length→cohB hb eco a b=true→(∀ k<b,cohB hb eco a k=false)→(∀ k<a,∀ j<eco.length,cohB hb eco k j=false)→cohF hb eco=⟨a,b,true⟩:=fun a b h1 h2 h3 h4 h5=>cohF_at h1 h2 h3 h4 h5
 have hU0:(∀ k<hb.length,∀ j<eco.length,cohB hb eco k j=false)→cohF hb eco=⟨0,0,false⟩:=cohF_no
 have hB:∀ a b,cohB hb eco a b=(decide (a≠b) && (!decide ((hb.getD a 0 >>> b) &&& 1#64=0#64)) && (!decide ((eco.getD b 0 >>> a) &&& 1#64=0#64))):=fun a b=>by
  rw [getLsb_and1,getLsb_and1];rfl
 generalize cohF hb eco=FT at *
 generalize cohB hb eco=P' at *
 refine Pure.go (ty:=ty) ty_eq mo Try.func44 rfl Try.ntmps44 Try.results44 Try.call44 (by simp) fun P C CQ D W F E hF=>?_
 cbv
 repeat' (first
  |(refine ⟨fun _ h_s=>?_,fun _ h_s=>?_⟩<;>(cbv;(try simp only [nc] at *);try simp (disch:=(first|omega|(simp only [lnS];omega))) only [rdT,rdS,reduceCtorEq,trT] at h_s))
  |(refine hF ?_;intro _;clear hF)
  |(refine hF ?_;cbv;clear hF)
  |(refine ⟨fun _=>?_,?_⟩;(· ((try simp only [nc] at *);first|done|omega|exact ⟨by omega,rfl⟩|(simp (disch:=(first|omega|(simp only [lnS];omega))) only [rdT,rdS];first|done|omega|rfl|exact ⟨by omega,rfl⟩|(simp;done)|(simp;omega))|(intros;trivial)));(try (simp only [nc] at *));(try simp (disch:=(first|omega|(simp only [lnS];omega))) only [rdT,rdS]);(try cbv))
  |(refine E.d 11 (by decide +kernel) ?_;cbv;(fail_if_success guard_target =~ False))
  | fail
 )
 refine E.loopS (ι:=Nat) (fun a=>a≤hb.length∧(∀ k<a,∀ j<eco.length,P' k j=false)) (fun a=>hb.length-a) (fun a=>[(21,.i fun _=>((a:Nat):Int))]) (fun a h=>h) 0 (fun _=>by first|rfl|simp) ⟨Nat.zero_le _,?_⟩ ?_ fun a ha I hI=>?_
 ·intro k hk;omega
 ·cbv;simp
 cbv
 obtain ⟨ha,hp⟩:=ha
 repeat' (first
  |(refine ⟨fun _ h_s=>?_,fun _ h_s=>?_⟩<;>(cbv;(try simp only [nc] at *);try simp (disch:=(first|omega|(simp only [lnS];omega))) only [rdT,rdS,reduceCtorEq,trT] at h_s))
  |(refine hF ?_;intro _;clear hF)
  |(refine hF ?_;cbv;clear hF)
  |(refine ⟨fun _=>?_,?_⟩;(· ((try simp only [nc] at *);first|done|omega|exact ⟨by omega,rfl⟩|(simp (disch:=(first|omega|(simp only [lnS];omega))) only [rdT,rdS];first|done|omega|rfl|exact ⟨by omega,rfl⟩|(simp;done)|(simp;omega))|(intros;trivial)));(try (simp only [nc] at *));(try simp (disch:=(first|omega|(simp only [lnS];omega))) only [rdT,rdS]);(try cbv))
  |(refine E.d 11 (by decide +kernel) ?_;cbv;(fail_if_success guard_target =~ False))
  | fail
 )
 ·refine E.loopS (ι:=Nat) (fun b=>b≤eco.length∧(∀ j<b,P' a j=false)) (fun b=>eco.length-b) (fun b=>[(26,.i fun _=>((b:Nat):Int))]) (fun b h=>h) 0 (fun _=>by first|rfl|simp) ⟨Nat.zero_le _,?_⟩ ?_ fun b hb2 I2 hI2=>?_
  ·intro k hk;omega
  ·cbv;simp
  cbv
  obtain ⟨hb2,hp2⟩:=hb2
  have hab:=hB a b
  have hba:=bofInt (k:=a) (by omega)
  have hbb:=bofInt (k:=b) (by omega)
  have hin:((a:Int)=b)↔a=b:=Int.ofNat_inj
  repeat' (first
   |(refine hI (a+1) ?_ ?_ ?_;rotate_left 1;(· ((try simp only [nc] at *);omega));(cbv;clear hI;(try clear hF);(try simp only [nc] at *);(try simp (disch:=(first|omega|(simp only [lnS];omega))) only [rdT,rdS,anT]));rotate_left 1;(try ((try simp only [nc] at *);omega)))
   |(refine hI2 (b+1) ?_ ?_ ?_;rotate_left 1;(· ((try simp only [nc] at *);omega));(cbv;clear hI2;(try clear hF);(try simp only [nc] at *);(try simp (disch:=(first|omega|(simp only [lnS];omega))) only [rdT,rdS,anT]));rotate_left 1;(try ((try simp only [nc] at *);omega)))
   |(refine ⟨fun _ h_s=>?_,fun _ h_s=>?_⟩<;>(cbv;(try simp only [nc] at *);try simp (disch:=(first|omega|(simp only [lnS];omega))) only [rdT,rdS,reduceCtorEq,trT] at h_s))
   |(refine hF ?_;intro _;clear hF)
   |(refine hF ?_;cbv;clear hF)
   |(refine ⟨fun _=>?_,?_⟩;(· ((try simp only [nc] at *);first|done|omega|exact ⟨by omega,rfl⟩|(simp (disch:=(first|omega|(simp only [lnS];omega))) only [rdT,rdS];first|done|omega|rfl|exact ⟨by omega,rfl⟩|(simp;done)|(simp;omega))|(intros;trivial)));(try (simp only [nc] at *));(try simp (disch:=(first|omega|(simp only [lnS];omega))) only [rdT,rdS]);(try cbv))
   |(refine E.d 11 (by decide +kernel) ?_;cbv;(fail_if_success guard_target =~ False))
   | fail
  )
  ·have ht:P' a b=true:=by
    clear hB hU hU0 hp hp2
    rw [hab]
    simp_all
   rw [hU a b (by ((try simp only [nc] at *);omega)) (by ((try simp only [nc] at *);omega)) ht hp2 hp]
   exact ⟨fun _=>rfl,fun _=>rfl,fun _=>rfl,trivial⟩
  iterate 3
   ·have ht:P' a b=false:=by
     clear hB hU hU0 hp hp2
     rw [hab]
     first
      | (simp_all;done)
      | (simp_all;omega)
    refine ⟨by ((try simp only [nc] at *);omega),fun j hj=>?_⟩
    rcases Nat.lt_or_ge j b with h1 | h1
    ·exact hp2 j h1
    ·obtain rfl:j=b:=by omega
     exact ht
   ·push_cast;rfl
  ·refine ⟨by ((try simp only [nc] at *);omega),fun k hk j hj=>?_⟩
   rcases Nat.lt_or_ge k a with h1 | h1
   ·exact hp k h1 j hj
   ·obtain rfl:k=a:=by omega
    exact hp2 j (by ((try simp only [nc] at *);omega))
  ·push_cast;rfl
 ·have e:a=hb.length:=by ((try simp only [nc] at *);omega)
  subst e
  rw [hU0 hp]
  exact ⟨fun _=>rfl,fun _=>rfl,fun _=>rfl,trivial⟩
theorem alike4 (n:Int) (a b c d:List (BitVec 64)) (ha:Fits n a) (hb:Fits n b) (hc:Fits n c) (hd:Fits n d):Alike [(n,a),(n,b),(n,c),(n,d)]:=by
 refine ⟨by simp,fun i hi=>?_⟩
 have:i=0∨i=1∨i=2∨i=3:=by simp at hi;omega
 rcases this with rfl | rfl | rfl | rfl
 ·simp [ha]
 ·simp [hb]
 ·simp [hc]
 ·simp [hd]
theorem togF_fits (V:Vw) {n:Nat} (hn:n≤62):Fits n (togF V n):=fits_or (by omega) (l:=[((n:Int),poF V n),((n:Int),rfF V n),((n:Int),coF V n),((n:Int),frF V n)]) (by
 have f1:=fits_poF V hn
 have f2:=fits_rfF V hn
 have f3:=fits_coF V hn
 have f4:=fits_frF V hn
 simp [f1,f2,f3,f4])
noncomputable abbrev aFg (g:Gr):AV:=aFc g (nG g:Nat) (poF (viewG g) (nG g)) (rfF (viewG g) (nG g)) (coF (viewG g) (nG g)) (frF (viewG g) (nG g)) (ecoF (viewG g) (nG g)) (porfF (viewG g) (nG g)) (locF (viewG g) (nG g)) (swF (viewG g) (nG g)) (hbF (viewG g) (nG g))
theorem together_ok (g:Gr) (h:GOk g):Pure Try.prog γ false 47 [aFg g] (encRel (nG g:Nat) (togF (viewG g) (nG g))):=by
 have hn:=(viewG_wf h).small
 have f1:=fits_poF (viewG g) hn
 have f2:=fits_rfF (viewG g) hn
 have f3:=fits_coF (viewG g) hn
 have f4:=fits_frF (viewG g) hn
 have o4:=or_yes (γ:=γ) [((nG g:Int),poF (viewG g) (nG g)),((nG g:Int),rfF (viewG g) (nG g)),((nG g:Int),coF (viewG g) (nG g)),((nG g:Int),frF (viewG g) (nG g))] (by simp) (alike4 _ _ _ _ _ f1 f2 f3 f4) (nG g) rfl
 unfold togF
 unfold aFg
 clear f1 f2 f3 f4
 generalize orM (nG g) [((nG g:Int),poF (viewG g) (nG g)),((nG g:Int),rfF (viewG g) (nG g)),((nG g:Int),coF (viewG g) (nG g)),((nG g:Int),frF (viewG g) (nG g))]=rr at *
 generalize poF (viewG g) (nG g)=r1 at *
 generalize rfF (viewG g) (nG g)=r2 at *
 generalize coF (viewG g) (nG g)=r3 at *
 generalize frF (viewG g) (nG g)=r4 at *
 refine Pure.go (ty:=ty) ty_eq mo Try.func47 rfl Try.ntmps47 Try.results47 Try.call47 (by simp) fun P C CQ D W F E hF=>?_
 cbv
 repeat' (first
  | (refine E.c (SCalls.of_bare (o4) rfl ?_ ?_);(· (cbv;simp [rls,ps,us,is,LV.of];done));cbv)
  | (refine E.c (SCalls.of_le (o4) ?_ ?_);(· (cbv;simp [rls,ps,us,is,LV.of];done));cbv)
  | (refine E.q (QCalls.of_le (o4) ?_ ?_);(· (cbv;simp [rls,ps,us,is,LV.of];done));cbv)
  |(refine ⟨fun _ h_s=>?_,fun _ h_s=>?_⟩<;>(cbv;(try simp only [nc] at *);try simp (disch:=(first|omega|(simp only [lnS];omega))) only [rdT,rdS,reduceCtorEq,trT] at h_s))
  |(refine hF ?_;intro _;clear hF)
  |(refine hF ?_;cbv;clear hF)
  |(refine ⟨fun _=>?_,?_⟩;(· ((try simp only [nc] at *);first|done|omega|exact ⟨by omega,rfl⟩|(simp (disch:=(first|omega|(simp only [lnS];omega))) only [rdT,rdS];first|done|omega|rfl|exact ⟨by omega,rfl⟩|(simp;done)|(simp;omega))|(intros;trivial)));(try (simp only [nc] at *));(try simp (disch:=(first|omega|(simp only [lnS];omega))) only [rdT,rdS]);(try cbv))
  | fail
 )
theorem lensG (g:Gr) (h:GOk g):(porfF (viewG g) (nG g)).length≤64∧(hbF (viewG g) (nG g)).length=nG g∧(ecoF (viewG g) (nG g)).length=nG g∧(plusM (nG g) (togF (viewG g) (nG g))).length≤64:=by
 have hn:=(viewG_wf h).small
 have f1:=fits_poF (viewG g) hn
 have f2:=fits_rfF (viewG g) hn
 have f6:=fits_swF (viewG g) hn
 have k1:Fits (nG g) (porfF (viewG g) (nG g)):=fits_plus (fits_or2 f1 f2)
 have k2:Fits (nG g) (hbF (viewG g) (nG g)):=fits_plus (fits_or2 f1 f6)
 have k3:Fits (nG g) (ecoF (viewG g) (nG g)):=fits_plus (fits_orP (viewG g) hn)
 have k4:Fits (nG g) (plusM (nG g) (togF (viewG g) (nG g))):=fits_plus (togF_fits (viewG g) hn)
 have e1:=k1.2.2.1
 have e2:=k2.2.2.1
 have e3:=k3.2.2.1
 have e4:=k4.2.2.1
 omega
theorem flt1_ok (g:Gr):Pure Try.prog γ false 39 [aFg g] (aFt (fltM (viewG g) (nG g) 1)):=by
 rw [show fltM (viewG g) (nG g) 1=ft0 from rfl]
 unfold aFg
 refine Pure.go (ty:=ty) ty_eq mo Try.func39 rfl Try.ntmps39 Try.results39 Try.call39 (by simp) fun P C CQ D W F E hF=>?_
 cbv
 repeat' (first
  |(refine ⟨fun _ h_s=>?_,fun _ h_s=>?_⟩<;>(cbv;(try simp only [nc] at *);try simp (disch:=(first|omega|(simp only [lnS];omega))) only [rdT,rdS,reduceCtorEq,trT] at h_s))
  |(refine hF ?_;intro _;clear hF)
  |(refine hF ?_;cbv;clear hF)
  |(refine ⟨fun _=>?_,?_⟩;(· ((try simp only [nc] at *);first|done|omega|exact ⟨by omega,rfl⟩|(simp (disch:=(first|omega|(simp only [lnS];omega))) only [rdT,rdS];first|done|omega|rfl|exact ⟨by omega,rfl⟩|(simp;done)|(simp;omega))|(intros;trivial)));(try (simp only [nc] at *));(try simp (disch:=(first|omega|(simp only [lnS];omega))) only [rdT,rdS]);(try cbv))
  | fail
 )
theorem flt2_ok (g:Gr) (hg:Rd g) (h:GOk g):Pure Try.prog γ false 40 [aFg g] (aFt (fltM (viewG g) (nG g) 2)):=update_ok g hg h _ _ _ _ _ _ _ _ _ _
theorem flt3_ok (g:Gr) (h:GOk g):Pure Try.prog γ false 41 [aFg g] (aFt (fltM (viewG g) (nG g) 3)):=by
 have kc:=circle_ok (γ:=γ) (nG g:Nat) (porfF (viewG g) (nG g)) (lensG g h).1
 rw [show fltM (viewG g) (nG g) 3=circF (porfF (viewG g) (nG g)) from rfl]
 unfold aFg
 generalize circF (porfF (viewG g) (nG g))=FT at *
 refine Pure.go (ty:=ty) ty_eq mo Try.func41 rfl Try.ntmps41 Try.results41 Try.call41 (by simp) fun P C CQ D W F E hF=>?_
 cbv
 repeat' (first
  |(refine E.c (SCalls.of_le (kc) ?_ ?_);(· (cbv;(try simp only [nc] at *);first|done|(simp;done)|(simp (disch:=(first|omega|(simp only [lnS];omega))) only [rdT,rdS,anT];first|done|omega|(refine ⟨?_,?_⟩<;>omega))|(simp (disch:=(first|omega|(simp only [lnS];omega))) [rdT,rdS];done)));cbv)
  |(refine ⟨fun _ h_s=>?_,fun _ h_s=>?_⟩<;>(cbv;(try simp only [nc] at *);try simp (disch:=(first|omega|(simp only [lnS];omega))) only [rdT,rdS,reduceCtorEq,trT] at h_s))
  |(refine hF ?_;intro _;clear hF)
  |(refine hF ?_;cbv;clear hF)
  |(refine ⟨fun _=>?_,?_⟩;(· ((try simp only [nc] at *);first|done|omega|exact ⟨by omega,rfl⟩|(simp (disch:=(first|omega|(simp only [lnS];omega))) only [rdT,rdS];first|done|omega|rfl|exact ⟨by omega,rfl⟩|(simp;done)|(simp;omega))|(intros;trivial)));(try (simp only [nc] at *));(try simp (disch:=(first|omega|(simp only [lnS];omega))) only [rdT,rdS]);(try cbv))
  | fail
 )
theorem flt4_ok (g:Gr) (h:GOk g):Pure Try.prog γ false 43 [aFg g] (aFt (fltM (viewG g) (nG g) 4)):=by
 have kc:=circle_ok (γ:=γ) (nG g:Nat) (hbF (viewG g) (nG g)) (by have:=(lensG g h).2.1;have:=(viewG_wf h).small;omega)
 rw [show fltM (viewG g) (nG g) 4=circF (hbF (viewG g) (nG g)) from rfl]
 unfold aFg
 generalize circF (hbF (viewG g) (nG g))=FT at *
 refine Pure.go (ty:=ty) ty_eq mo Try.func43 rfl Try.ntmps43 Try.results43 Try.call43 (by simp) fun P C CQ D W F E hF=>?_
 cbv
 repeat' (first
  |(refine E.c (SCalls.of_le (kc) ?_ ?_);(· (cbv;(try simp only [nc] at *);first|done|(simp;done)|(simp (disch:=(first|omega|(simp only [lnS];omega))) only [rdT,rdS,anT];first|done|omega|(refine ⟨?_,?_⟩<;>omega))|(simp (disch:=(first|omega|(simp only [lnS];omega))) [rdT,rdS];done)));cbv)
  |(refine ⟨fun _ h_s=>?_,fun _ h_s=>?_⟩<;>(cbv;(try simp only [nc] at *);try simp (disch:=(first|omega|(simp only [lnS];omega))) only [rdT,rdS,reduceCtorEq,trT] at h_s))
  |(refine hF ?_;intro _;clear hF)
  |(refine hF ?_;cbv;clear hF)
  |(refine ⟨fun _=>?_,?_⟩;(· ((try simp only [nc] at *);first|done|omega|exact ⟨by omega,rfl⟩|(simp (disch:=(first|omega|(simp only [lnS];omega))) only [rdT,rdS];first|done|omega|rfl|exact ⟨by omega,rfl⟩|(simp;done)|(simp;omega))|(intros;trivial)));(try (simp only [nc] at *));(try simp (disch:=(first|omega|(simp only [lnS];omega))) only [rdT,rdS]);(try cbv))
  | fail
 )
theorem flt5_ok (g:Gr) (h:GOk g):Pure Try.prog γ false 44 [aFg g] (aFt (fltM (viewG g) (nG g) 5)):=by
 have hn:=(viewG_wf h).small
 have hl:=lensG g h
 exact coherence_ok g _ _ _ _ _ _ _ _ _ _ (by omega) (by omega) (by omega)
theorem flt6_ok (g:Gr) (h:GOk g):Pure Try.prog γ false 45 [aFg g] (aFt (fltM (viewG g) (nG g) 6)):=by
 have hn:=(viewG_wf h).small
 have kc:=circle_ok (γ:=γ) (nG g:Nat) (plusM (nG g) (togF (viewG g) (nG g))) (lensG g h).2.2.2
 have kt:=together_ok (γ:=γ) g h
 have kp:=plus_ok (γ:=γ) (nG g) _ (togF_fits (viewG g) hn)
 rw [show fltM (viewG g) (nG g) 6=circF (plusM (nG g) (togF (viewG g) (nG g))) from rfl]
 unfold aFg at *
 generalize circF (plusM (nG g) (togF (viewG g) (nG g)))=FT at *
 refine Pure.go (ty:=ty) ty_eq mo Try.func45 rfl Try.ntmps45 Try.results45 Try.call45 (by simp) fun P C CQ D W F E hF=>?_
 cbv
 repeat' (first
  |(refine E.c (SCalls.of_le (kc) ?_ ?_);(· (cbv;(try simp only [nc] at *);first|done|(simp;done)|(simp (disch:=(first|omega|(simp only [lnS];omega))) only [rdT,rdS,anT];first|done|omega|(refine ⟨?_,?_⟩<;>omega))|(simp (disch:=(first|omega|(simp only [lnS];omega))) [rdT,rdS];done)));cbv)
  |(refine E.c (SCalls.of_le (kp) ?_ ?_);(· (cbv;(try simp only [nc] at *);first|done|(simp;done)|(simp (disch:=(first|omega|(simp only [lnS];omega))) only [rdT,rdS,anT];first|done|omega|(refine ⟨?_,?_⟩<;>omega))|(simp (disch:=(first|omega|(simp only [lnS];omega))) [rdT,rdS];done)));cbv)
  |(refine E.c (SCalls.of_le (kt) ?_ ?_);(· (cbv;(try simp only [nc] at *);first|done|(simp;done)|(simp (disch:=(first|omega|(simp only [lnS];omega))) only [rdT,rdS,anT];first|done|omega|(refine ⟨?_,?_⟩<;>omega))|(simp (disch:=(first|omega|(simp only [lnS];omega))) [rdT,rdS];done)));cbv)
  |(refine ⟨fun _ h_s=>?_,fun _ h_s=>?_⟩<;>(cbv;(try simp only [nc] at *);try simp (disch:=(first|omega|(simp only [lnS];omega))) only [rdT,rdS,reduceCtorEq,trT] at h_s))
  |(refine hF ?_;intro _;clear hF)
  |(refine hF ?_;cbv;clear hF)
  |(refine ⟨fun _=>?_,?_⟩;(· ((try simp only [nc] at *);first|done|omega|exact ⟨by omega,rfl⟩|(simp (disch:=(first|omega|(simp only [lnS];omega))) only [rdT,rdS];first|done|omega|rfl|exact ⟨by omega,rfl⟩|(simp;done)|(simp;omega))|(intros;trivial)));(try (simp only [nc] at *));(try simp (disch:=(first|omega|(simp only [lnS];omega))) only [rdT,rdS]);(try cbv))
  | fail
 )
end Go.AL.Rl
