import Derived.Test.YtbpebafmnnofjaaGreatDoorPs6
set_option linter.unusedVariables false
set_option linter.unusedSimpArgs false
namespace Go.AL.Rl
open Go Go.AL Go.Proofs
set_option maxRecDepth 100000
set_option maxHeartbeats 3200000
variable {γ : Nat → Option AV}

theorem klongs_ok (a b : List Int) (ha : (a.length : Int) ≤ 9223372036854775807) : Pure Tryz.prog γ false 57 [.vs 1 fun _ => is a, .vs 1 fun _ => is b] (.b fun _ => decide (a = b)) := by
 refine Pure.go (ty := ty) ty_eq mo Tryz.func57 rfl Tryz.ntmps57 Tryz.results57 Tryz.call57 (by simp) fun P C CQ D W F E hF => ?_
 cbv
 repeat' (first
  |(refine ⟨fun _ h_s=>?_,fun _ h_s=>?_⟩<;>(cbv;(try simp only [nc] at *);try simp (disch:=(first|omega|(simp only [lnS];omega))) only [rdT,rdS,reduceCtorEq,trT] at h_s))
  |(refine hF ?_;intro _;clear hF)
  |(refine hF ?_;cbv;clear hF)
  |(refine ⟨fun _=>?_,?_⟩;(· ((try simp only [nc] at *);first|done|omega|exact ⟨by omega,rfl⟩|(simp (disch:=(first|omega|(simp only [lnS];omega))) only [rdT,rdS];first|done|omega|rfl|exact ⟨by omega,rfl⟩|(simp;done)|(simp;omega))|(intros;trivial)));(try (simp only [nc] at *));(try simp (disch:=(first|omega|(simp only [lnS];omega))) only [rdT,rdS]);(try cbv))
  |(refine E.d 8 (by decide +kernel) ?_;cbv;(fail_if_success guard_target =~ False))
  | fail
 )
 ·simp
  intro e; subst e; simp_all
 ·refine E.loopS (ι:=Nat) (fun i=>i≤a.length∧(∀ k < i,a.getD k 0 = b.getD k 0)) (fun i=>a.length - i) (fun i=>[(5,.i fun _=>((i : Nat) : Int))]) (fun i h=>h) 0 (fun _=>by first|rfl|simp) ⟨Nat.zero_le _,?_⟩ ?_ fun i hi I hI=>?_
  ·intro k hk; omega
  ·cbv; simp
  cbv
  obtain ⟨hi, hp⟩ := hi
  repeat' (first
   |(refine hI (i + 1) ?_ ?_ ?_;rotate_left 1;(· ((try simp only [nc] at *);omega));(cbv;clear hI;(try clear hF);(try simp only [nc] at *);(try simp (disch:=(first|omega|(simp only [lnS];omega))) only [rdT,rdS,anT]));rotate_left 1;(try ((try simp only [nc] at *);omega)))
   |(refine ⟨fun _ h_s=>?_,fun _ h_s=>?_⟩<;>(cbv;(try simp only [nc] at *);try simp (disch:=(first|omega|(simp only [lnS];omega))) only [rdT,rdS,reduceCtorEq,trT] at h_s))
   |(refine hF ?_;intro _;clear hF)
   |(refine hF ?_;cbv;clear hF)
   |(refine ⟨fun _=>?_,?_⟩;(· ((try simp only [nc] at *);first|done|omega|exact ⟨by omega,rfl⟩|(simp (disch:=(first|omega|(simp only [lnS];omega))) only [rdT,rdS];first|done|omega|rfl|exact ⟨by omega,rfl⟩|(simp;done)|(simp;omega))|(intros;trivial)));(try (simp only [nc] at *));(try simp (disch:=(first|omega|(simp only [lnS];omega))) only [rdT,rdS]);(try cbv))
   |(refine E.d 8 (by decide +kernel) ?_;cbv;(fail_if_success guard_target =~ False))
   | fail
  )
  ·refine decide_eq_false fun e => ?_
   subst e
   simp at h_s
  ·refine ⟨by ((try simp only [nc] at *); omega), fun k hk => ?_⟩
   rcases Nat.lt_or_ge k i with h1 | h1
   ·exact hp k h1
   ·obtain rfl : k = i := by omega
    simpa using h_s
  ·push_cast; rfl
  ·refine decide_eq_true (List.ext_getElem (by ((try simp only [nc] at *); omega)) fun k h1 h2 => ?_)
   have := hp k (by ((try simp only [nc] at *); omega))
   simpa [h1, h2] using this
theorem ev_iff (a b : Ev) : a = b ↔ a.kind = b.kind ∧ a.loc = b.loc ∧ a.order = b.order ∧ a.rd = b.rd ∧ a.wr = b.wr := by
 cases a; cases b; simp
theorem kevents_ok (a b : List Ev) (ha : (a.length : Int) ≤ 9223372036854775807) : Pure Tryz.prog γ false 58 [.vs 5 fun _ => evs a, .vs 5 fun _ => evs b] (.b fun _ => decide (a = b)) := by
 refine Pure.go (ty := ty) ty_eq mo Tryz.func58 rfl Tryz.ntmps58 Tryz.results58 Tryz.call58 (by simp) fun P C CQ D W F E hF => ?_
 cbv
 repeat' (first
  |(refine ⟨fun _ h_s=>?_,fun _ h_s=>?_⟩<;>(cbv;(try simp only [nc] at *);try simp (disch:=(first|omega|(simp only [lnS];omega))) only [rdT,rdS,reduceCtorEq,trT] at h_s))
  |(refine hF ?_;intro _;clear hF)
  |(refine hF ?_;cbv;clear hF)
  |(refine ⟨fun _=>?_,?_⟩;(· ((try simp only [nc] at *);first|done|omega|exact ⟨by omega,rfl⟩|(simp (disch:=(first|omega|(simp only [lnS];omega))) only [rdT,rdS];first|done|omega|rfl|exact ⟨by omega,rfl⟩|(simp;done)|(simp;omega))|(intros;trivial)));(try (simp only [nc] at *));(try simp (disch:=(first|omega|(simp only [lnS];omega))) only [rdT,rdS]);(try cbv))
  |(refine E.d 8 (by decide +kernel) ?_;cbv;(fail_if_success guard_target =~ False))
  | fail
 )
 ·simp
  intro e; subst e; simp_all
 ·refine E.loopS (ι:=Nat) (fun i=>i≤a.length∧(∀ k < i,a.getD k ev0 = b.getD k ev0)) (fun i=>a.length - i) (fun i=>[(5,.i fun _=>((i : Nat) : Int))]) (fun i h=>h) 0 (fun _=>by first|rfl|simp) ⟨Nat.zero_le _,?_⟩ ?_ fun i hi I hI=>?_
  ·intro k hk; omega
  ·cbv; simp
  cbv
  obtain ⟨hi, hp⟩ := hi
  repeat' (first
   |(refine hI (i + 1) ?_ ?_ ?_;rotate_left 1;(· ((try simp only [nc] at *);omega));(cbv;clear hI;(try clear hF);(try simp only [nc] at *);(try simp (disch:=(first|omega|(simp only [lnS];omega))) only [rdT,rdS,anT]));rotate_left 1;(try ((try simp only [nc] at *);omega)))
   |(refine ⟨fun _ h_s=>?_,fun _ h_s=>?_⟩<;>(cbv;(try simp only [nc] at *);try simp (disch:=(first|omega|(simp only [lnS];omega))) only [rdT,rdS,reduceCtorEq,trT] at h_s))
   |(refine hF ?_;intro _;clear hF)
   |(refine hF ?_;cbv;clear hF)
   |(refine ⟨fun _=>?_,?_⟩;(· ((try simp only [nc] at *);first|done|omega|exact ⟨by omega,rfl⟩|(simp (disch:=(first|omega|(simp only [lnS];omega))) only [rdT,rdS];first|done|omega|rfl|exact ⟨by omega,rfl⟩|(simp;done)|(simp;omega))|(intros;trivial)));(try (simp only [nc] at *));(try simp (disch:=(first|omega|(simp only [lnS];omega))) only [rdT,rdS]);(try cbv))
   |(refine E.d 8 (by decide +kernel) ?_;cbv;(fail_if_success guard_target =~ False))
   | fail
  )
  ·refine decide_eq_false fun e => ?_
   subst e
   simp at h_s
  ·refine ⟨by ((try simp only [nc] at *); omega), fun k hk => ?_⟩
   rcases Nat.lt_or_ge k i with h1 | h1
   ·exact hp k h1
   ·obtain rfl : k = i := by omega
    exact (ev_iff _ _).2 (by simpa [and_assoc] using h_s)
  ·push_cast; rfl
  ·refine decide_eq_true (List.ext_getElem (by ((try simp only [nc] at *); omega)) fun k h1 h2 => ?_)
   have := hp k (by ((try simp only [nc] at *); omega))
   simpa [h1, h2] using this
theorem mk_iff (a b : Mk) : a = b ↔ (a.id.t = b.id.t ∧ a.id.i = b.id.i) ∧ a.w = b.w := by
 constructor
 ·rintro rfl; exact ⟨⟨rfl, rfl⟩, rfl⟩
 ·rintro ⟨⟨h1, h2⟩, h3⟩; exact Mk.ext' (EId.ext' h1 h2) h3
theorem kmarks_ok (a b : List Mk) (ha : (a.length : Int) ≤ 9223372036854775807) : Pure Tryz.prog γ false 27 [.vs 3 fun _ => mks a, .vs 3 fun _ => mks b] (.b fun _ => decide (a = b)) := by
 refine Pure.go (ty := ty) ty_eq mo Tryz.func27 rfl Tryz.ntmps27 Tryz.results27 Tryz.call27 (by simp) fun P C CQ D W F E hF => ?_
 cbv
 skip
 repeat' (first
  |(refine ⟨fun _ h_s=>?_,fun _ h_s=>?_⟩<;>(cbv;(try simp only [nc] at *);try simp (disch:=(first|omega|(simp only [lnS,mks_len];omega))) only [rdT,rdS,mks_len,mks_get,reduceCtorEq,trT] at h_s))
  |(refine hF ?_;intro _;clear hF)
  |(refine hF ?_;cbv;clear hF)
  |(refine ⟨fun _=>?_,?_⟩;(· ((try simp only [nc] at *);first|done|omega|exact ⟨by omega,rfl⟩|(simp (disch:=(first|omega|(simp only [lnS,mks_len];omega))) only [rdT,rdS,mks_len,mks_get];first|done|omega|rfl|exact ⟨by omega,rfl⟩|(simp;done)|(simp;omega))|(intros;trivial)));(try (simp only [nc] at *));(try simp (disch:=(first|omega|(simp only [lnS,mks_len];omega))) only [rdT,rdS,mks_len,mks_get]);(try cbv))
  |(refine E.d 8 (by decide +kernel) ?_;cbv;(fail_if_success guard_target =~ False))
  | fail
 )
 ·simp
  intro e; subst e; simp_all
 ·refine E.loopS (ι:=Nat) (fun i=>i≤a.length∧(∀ k < i,a.getD k mk0 = b.getD k mk0)) (fun i=>a.length - i) (fun i=>[(5,.i fun _=>((i : Nat) : Int))]) (fun i h=>h) 0 (fun _=>by first|rfl|simp) ⟨Nat.zero_le _,?_⟩ ?_ fun i hi I hI=>?_
  ·intro k hk; omega
  ·cbv; simp
  cbv
  obtain ⟨hi, hp⟩ := hi
  repeat' (first
   |(refine hI (i + 1) ?_ ?_ ?_;rotate_left 1;(· ((try simp only [nc] at *);omega));(cbv;clear hI;(try clear hF);(try simp only [nc] at *);(try simp (disch:=(first|omega|(simp only [lnS,mks_len];omega))) only [rdT,rdS,mks_len,mks_get,anT]));rotate_left 1;(try ((try simp only [nc] at *);omega)))
   |(refine ⟨fun _ h_s=>?_,fun _ h_s=>?_⟩<;>(cbv;(try simp only [nc] at *);try simp (disch:=(first|omega|(simp only [lnS,mks_len];omega))) only [rdT,rdS,mks_len,mks_get,reduceCtorEq,trT] at h_s))
   |(refine hF ?_;intro _;clear hF)
   |(refine hF ?_;cbv;clear hF)
   |(refine ⟨fun _=>?_,?_⟩;(· ((try simp only [nc] at *);first|done|omega|exact ⟨by omega,rfl⟩|(simp (disch:=(first|omega|(simp only [lnS,mks_len];omega))) only [rdT,rdS,mks_len,mks_get];first|done|omega|rfl|exact ⟨by omega,rfl⟩|(simp;done)|(simp;omega))|(intros;trivial)));(try (simp only [nc] at *));(try simp (disch:=(first|omega|(simp only [lnS,mks_len];omega))) only [rdT,rdS,mks_len,mks_get]);(try cbv))
   |(refine E.d 8 (by decide +kernel) ?_;cbv;(fail_if_success guard_target =~ False))
   | fail
  )
  ·refine decide_eq_false fun e => ?_
   subst e
   simp at h_s
  ·refine ⟨by ((try simp only [nc] at *); omega), fun k hk => ?_⟩
   rcases Nat.lt_or_ge k i with h1 | h1
   ·exact hp k h1
   ·obtain rfl : k = i := by omega
    exact (mk_iff _ _).2 (by simpa [and_assoc] using h_s)
  ·push_cast; rfl
  ·refine decide_eq_true (List.ext_getElem (by ((try simp only [nc] at *); omega)) fun k h1 h2 => ?_)
   have := hp k (by ((try simp only [nc] at *); omega))
   simpa [h1, h2] using this
def sameG (a b : Gr) : Bool := decide (a.init = b.init) && decide (a.th = b.th) && decide (a.fr = b.fr) && decide (a.ord = b.ord)
theorem sameG_self (a : Gr) : sameG a a = true := by simp [sameG]
theorem list_same {α : Type} (a b : List α) (d : α) (hl : a.length = b.length) (h : ∀ k < a.length, a.getD k d = b.getD k d) : a = b := by
 refine List.ext_getElem hl fun k h1 h2 => ?_
 have := h k h1
 simpa [h1, h2] using this
theorem ors_le {g : Gr} (hg : Rd g) (x : Nat) : ((g.ord.getD x []).length : Int) ≤ 9223372036854775807 := by
 rcases Nat.lt_or_ge x g.ord.length with h1 | h1
 ·exact hg.ords _ (getD_mem h1)
 ·simp [List.getElem?_eq_none h1]
theorem kgraph_ok (a b : Gr) (ha : Rd a) (hb : Rd b) : Pure Tryz.prog γ false 26 [aGr a, aGr b] (.b fun _ => sameG a b) := by
 have kl := klongs_ok (γ := γ) a.init b.init ha.init
 have b2 := ha.th
 have b3 := ha.fr
 have b4 := ha.ord
 have c2 := hb.th
 have c3 := hb.fr
 have c4 := hb.ord
 have n1 : a.init ≠ b.init → false = sameG a b := fun h => by unfold sameG; rw [decide_eq_false h]; rfl
 have n2 : a.th ≠ b.th → false = sameG a b := fun h => by unfold sameG; rw [decide_eq_false h]; simp
 have n3 : a.fr ≠ b.fr → false = sameG a b := fun h => by unfold sameG; rw [decide_eq_false h]; simp
 have n4 : a.ord ≠ b.ord → false = sameG a b := fun h => by unfold sameG; rw [decide_eq_false h]; simp
 have ny : a.init = b.init → a.th = b.th → a.fr = b.fr → a.ord = b.ord → true = sameG a b := fun h1 h2 h3 h4 => by unfold sameG; simp [h1, h2, h3, h4]
 generalize sameG a b = z at *
 refine Pure.go (ty := ty) ty_eq mo Tryz.func26 rfl Tryz.ntmps26 Tryz.results26 Tryz.call26 (by simp) fun P C CQ D W F E hF => ?_
 cbv
 repeat' (first
  |(refine E.c (SCalls.of_le (kl) ?_ ?_);(· (cbv;(try simp only [nc] at *);first|done|(simp;done)|(simp (disch:=(first|omega|(simp only [lnS,mks_len];omega))) only [rdT,rdS,mks_len,mks_get,anT];first|done|omega|(refine ⟨?_,?_⟩<;>omega))|(simp (disch:=(first|omega|(simp only [lnS,mks_len];omega))) [rdT,rdS,mks_len,mks_get];done)));cbv)
  |(refine ⟨fun _ h_s=>?_,fun _ h_s=>?_⟩<;>(cbv;(try simp only [nc] at *);try simp (disch:=(first|omega|(simp only [lnS,mks_len];omega))) only [rdT,rdS,mks_len,mks_get,reduceCtorEq,trT] at h_s))
  |(refine hF ?_;intro _;clear hF)
  |(refine hF ?_;cbv;clear hF)
  |(refine ⟨fun _=>?_,?_⟩;(· ((try simp only [nc] at *);first|done|omega|exact ⟨by omega,rfl⟩|(simp (disch:=(first|omega|(simp only [lnS,mks_len];omega))) only [rdT,rdS,mks_len,mks_get];first|done|omega|rfl|exact ⟨by omega,rfl⟩|(simp;done)|(simp;omega))|(intros;trivial)));(try (simp only [nc] at *));(try simp (disch:=(first|omega|(simp only [lnS,mks_len];omega))) only [rdT,rdS,mks_len,mks_get]);(try cbv))
  |(refine E.d 10 (by decide +kernel) ?_;cbv;(fail_if_success guard_target =~ False))
  | fail
 )
 ·exact (n1 (by simpa using h_s)).symm
 ·exact (n2 fun e => by rw [e] at h_s; simp at h_s).symm
 ·exact (n3 fun e => by rw [e] at h_s; simp at h_s).symm
 ·exact (n4 fun e => by rw [e] at h_s; simp at h_s).symm
 refine E.loopS (ι:=Nat) (fun k=>k≤a.th.length∧(∀ j < k,a.th.getD j [] = b.th.getD j [])) (fun k=>a.th.length - k) (fun k=>[(5,.i fun _=>((k : Nat) : Int))]) (fun k h=>h) 0 (fun _=>by first|rfl|simp) ⟨Nat.zero_le _,?_⟩ ?_ fun k hk I hI=>?_
 ·intro j hj; omega
 ·cbv; simp
 cbv
 obtain ⟨hk, hpk⟩ := hk
 have ke := kevents_ok (γ := γ) (a.th.getD k []) (b.th.getD k []) (ths_le ha k)
 repeat' (first
  |(refine hI (k + 1) ?_ ?_ ?_;rotate_left 1;(· ((try simp only [nc] at *);omega));(cbv;clear hI;(try clear hF);(try simp only [nc] at *);(try simp (disch:=(first|omega|(simp only [lnS,mks_len];omega))) only [rdT,rdS,mks_len,mks_get,anT]));rotate_left 1;(try ((try simp only [nc] at *);omega)))
  |((first|refine E.c (SCalls.of_le (ke) ?_ ?_)|refine E.q (QCalls.of_le (ke) ?_ ?_));(· (cbv;(try simp only [nc] at *);first|done|(simp;done)|(simp (disch:=(first|omega|(simp only [lnS,mks_len];omega))) only [rdT,rdS,mks_len,mks_get,anT];first|done|omega|(refine ⟨?_,?_⟩<;>omega))|(simp (disch:=(first|omega|(simp only [lnS,mks_len];omega))) [rdT,rdS,mks_len,mks_get];done)));cbv)
  |(refine E.c (SCalls.of_le (ke) ?_ ?_);(· (cbv;(try simp only [nc] at *);first|done|(simp;done)|(simp (disch:=(first|omega|(simp only [lnS,mks_len];omega))) only [rdT,rdS,mks_len,mks_get,anT];first|done|omega|(refine ⟨?_,?_⟩<;>omega))|(simp (disch:=(first|omega|(simp only [lnS,mks_len];omega))) [rdT,rdS,mks_len,mks_get];done)));cbv)
  |(refine ⟨fun _ h_s=>?_,fun _ h_s=>?_⟩<;>(cbv;(try simp only [nc] at *);try simp (disch:=(first|omega|(simp only [lnS,mks_len];omega))) only [rdT,rdS,mks_len,mks_get,reduceCtorEq,trT] at h_s))
  |(refine hF ?_;intro _;clear hF)
  |(refine hF ?_;cbv;clear hF)
  |(refine ⟨fun _=>?_,?_⟩;(· ((try simp only [nc] at *);first|done|omega|exact ⟨by omega,rfl⟩|(simp (disch:=(first|omega|(simp only [lnS,mks_len];omega))) only [rdT,rdS,mks_len,mks_get];first|done|omega|rfl|exact ⟨by omega,rfl⟩|(simp;done)|(simp;omega))|(intros;trivial)));(try (simp only [nc] at *));(try simp (disch:=(first|omega|(simp only [lnS,mks_len];omega))) only [rdT,rdS,mks_len,mks_get]);(try cbv))
  |(refine E.d 10 (by decide +kernel) ?_;cbv;(fail_if_success guard_target =~ False))
  | fail
 )
 ·exact (n2 fun e => by rw [e] at h_s; simp at h_s).symm
 ·refine ⟨by ((try simp only [nc] at *); omega), fun j hj => ?_⟩
  rcases Nat.lt_or_ge j k with h1 | h1
  ·exact hpk j h1
  ·obtain rfl : j = k := by omega
   simpa using h_s
 ·push_cast; rfl
 have z2 : a.th = b.th := list_same _ _ [] (by ((try simp only [nc] at *); omega)) fun j hj => hpk j (by ((try simp only [nc] at *); omega))
 refine E.loopS (ι:=Nat) (fun m=>m≤a.fr.length∧(∀ j < m,a.fr.getD j [] = b.fr.getD j [])) (fun m=>a.fr.length - m) (fun m=>[(6,.i fun _=>((m : Nat) : Int))]) (fun m h=>h) 0 (fun _=>by first|rfl|simp) ⟨Nat.zero_le _,?_⟩ ?_ fun m hm I2 hI2=>?_
 ·intro j hj; omega
 ·cbv; simp
 cbv
 obtain ⟨hm, hpm⟩ := hm
 have ke2 := kids_ok (γ := γ) (a.fr.getD m []) (b.fr.getD m []) (frs_le ha m)
 repeat' (first
  |(refine hI2 (m + 1) ?_ ?_ ?_;rotate_left 1;(· ((try simp only [nc] at *);omega));(cbv;clear hI2;(try clear hF);(try simp only [nc] at *);(try simp (disch:=(first|omega|(simp only [lnS,mks_len];omega))) only [rdT,rdS,mks_len,mks_get,anT]));rotate_left 1;(try ((try simp only [nc] at *);omega)))
  |((first|refine E.c (SCalls.of_le (ke2) ?_ ?_)|refine E.q (QCalls.of_le (ke2) ?_ ?_));(· (cbv;(try simp only [nc] at *);first|done|(simp;done)|(simp (disch:=(first|omega|(simp only [lnS,mks_len];omega))) only [rdT,rdS,mks_len,mks_get,anT];first|done|omega|(refine ⟨?_,?_⟩<;>omega))|(simp (disch:=(first|omega|(simp only [lnS,mks_len];omega))) [rdT,rdS,mks_len,mks_get];done)));cbv)
  |(refine E.c (SCalls.of_le (ke2) ?_ ?_);(· (cbv;(try simp only [nc] at *);first|done|(simp;done)|(simp (disch:=(first|omega|(simp only [lnS,mks_len];omega))) only [rdT,rdS,mks_len,mks_get,anT];first|done|omega|(refine ⟨?_,?_⟩<;>omega))|(simp (disch:=(first|omega|(simp only [lnS,mks_len];omega))) [rdT,rdS,mks_len,mks_get];done)));cbv)
  |(refine ⟨fun _ h_s=>?_,fun _ h_s=>?_⟩<;>(cbv;(try simp only [nc] at *);try simp (disch:=(first|omega|(simp only [lnS,mks_len];omega))) only [rdT,rdS,mks_len,mks_get,reduceCtorEq,trT] at h_s))
  |(refine hF ?_;intro _;clear hF)
  |(refine hF ?_;cbv;clear hF)
  |(refine ⟨fun _=>?_,?_⟩;(· ((try simp only [nc] at *);first|done|omega|exact ⟨by omega,rfl⟩|(simp (disch:=(first|omega|(simp only [lnS,mks_len];omega))) only [rdT,rdS,mks_len,mks_get];first|done|omega|rfl|exact ⟨by omega,rfl⟩|(simp;done)|(simp;omega))|(intros;trivial)));(try (simp only [nc] at *));(try simp (disch:=(first|omega|(simp only [lnS,mks_len];omega))) only [rdT,rdS,mks_len,mks_get]);(try cbv))
  |(refine E.d 10 (by decide +kernel) ?_;cbv;(fail_if_success guard_target =~ False))
  | fail
 )
 ·exact (n3 fun e => by rw [e] at h_s; simp at h_s).symm
 ·refine ⟨by ((try simp only [nc] at *); omega), fun j hj => ?_⟩
  rcases Nat.lt_or_ge j m with h1 | h1
  ·exact hpm j h1
  ·obtain rfl : j = m := by omega
   simpa using h_s
 ·push_cast; rfl
 have z3 : a.fr = b.fr := list_same _ _ [] (by ((try simp only [nc] at *); omega)) fun j hj => hpm j (by ((try simp only [nc] at *); omega))
 refine E.loopS (ι:=Nat) (fun o=>o≤a.ord.length∧(∀ j < o,a.ord.getD j [] = b.ord.getD j [])) (fun o=>a.ord.length - o) (fun o=>[(7,.i fun _=>((o : Nat) : Int))]) (fun o h=>h) 0 (fun _=>by first|rfl|simp) ⟨Nat.zero_le _,?_⟩ ?_ fun o ho I3 hI3=>?_
 ·intro j hj; omega
 ·cbv; simp
 cbv
 obtain ⟨ho, hpo⟩ := ho
 have ke3 := kids_ok (γ := γ) (a.ord.getD o []) (b.ord.getD o []) (ors_le ha o)
 repeat' (first
  |(refine hI3 (o + 1) ?_ ?_ ?_;rotate_left 1;(· ((try simp only [nc] at *);omega));(cbv;clear hI3;(try clear hF);(try simp only [nc] at *);(try simp (disch:=(first|omega|(simp only [lnS,mks_len];omega))) only [rdT,rdS,mks_len,mks_get,anT]));rotate_left 1;(try ((try simp only [nc] at *);omega)))
  |((first|refine E.c (SCalls.of_le (ke3) ?_ ?_)|refine E.q (QCalls.of_le (ke3) ?_ ?_));(· (cbv;(try simp only [nc] at *);first|done|(simp;done)|(simp (disch:=(first|omega|(simp only [lnS,mks_len];omega))) only [rdT,rdS,mks_len,mks_get,anT];first|done|omega|(refine ⟨?_,?_⟩<;>omega))|(simp (disch:=(first|omega|(simp only [lnS,mks_len];omega))) [rdT,rdS,mks_len,mks_get];done)));cbv)
  |(refine E.c (SCalls.of_le (ke3) ?_ ?_);(· (cbv;(try simp only [nc] at *);first|done|(simp;done)|(simp (disch:=(first|omega|(simp only [lnS,mks_len];omega))) only [rdT,rdS,mks_len,mks_get,anT];first|done|omega|(refine ⟨?_,?_⟩<;>omega))|(simp (disch:=(first|omega|(simp only [lnS,mks_len];omega))) [rdT,rdS,mks_len,mks_get];done)));cbv)
  |(refine ⟨fun _ h_s=>?_,fun _ h_s=>?_⟩<;>(cbv;(try simp only [nc] at *);try simp (disch:=(first|omega|(simp only [lnS,mks_len];omega))) only [rdT,rdS,mks_len,mks_get,reduceCtorEq,trT] at h_s))
  |(refine hF ?_;intro _;clear hF)
  |(refine hF ?_;cbv;clear hF)
  |(refine ⟨fun _=>?_,?_⟩;(· ((try simp only [nc] at *);first|done|omega|exact ⟨by omega,rfl⟩|(simp (disch:=(first|omega|(simp only [lnS,mks_len];omega))) only [rdT,rdS,mks_len,mks_get];first|done|omega|rfl|exact ⟨by omega,rfl⟩|(simp;done)|(simp;omega))|(intros;trivial)));(try (simp only [nc] at *));(try simp (disch:=(first|omega|(simp only [lnS,mks_len];omega))) only [rdT,rdS,mks_len,mks_get]);(try cbv))
  |(refine E.d 10 (by decide +kernel) ?_;cbv;(fail_if_success guard_target =~ False))
  | fail
 )
 ·exact (n4 fun e => by rw [e] at h_s; simp at h_s).symm
 ·refine ⟨by ((try simp only [nc] at *); omega), fun j hj => ?_⟩
  rcases Nat.lt_or_ge j o with h1 | h1
  ·exact hpo j h1
  ·obtain rfl : j = o := by omega
   simpa using h_s
 ·push_cast; rfl
 have z4 : a.ord = b.ord := list_same _ _ [] (by ((try simp only [nc] at *); omega)) fun j hj => hpo j (by ((try simp only [nc] at *); omega))
 exact (ny (by assumption) z2 z3 z4).symm
theorem kstate_ok (a b : Sta) (ha : Rd a.g) (hb : Rd b.g) (hm : (a.ms.length : Int) ≤ 9223372036854775807) : Pure Tryz.prog γ false 10 [aSt a, aSt b] (.b fun _ => sameG a.g b.g && decide (a.ms = b.ms) && decide (a.half = b.half)) := by
 have k1 := kgraph_ok (γ := γ) a.g b.g ha hb
 have k2 := kmarks_ok (γ := γ) a.ms b.ms hm
 generalize sameG a.g b.g = z at *
 refine Pure.go (ty := ty) ty_eq mo Tryz.func10 rfl Tryz.ntmps10 Tryz.results10 Tryz.call10 (by simp) fun P C CQ D W F E hF => ?_
 cbv
 repeat' (first
  |(refine E.c (SCalls.of_le (k2) ?_ ?_);(· (cbv;(try simp only [nc] at *);first|done|(simp;done)|(simp (disch:=(first|omega|(simp only [lnS,mks_len];omega))) only [rdT,rdS,mks_len,mks_get,anT];first|done|omega|(refine ⟨?_,?_⟩<;>omega))|(simp (disch:=(first|omega|(simp only [lnS,mks_len];omega))) [rdT,rdS,mks_len,mks_get];done)));cbv)
  |(refine E.c (SCalls.of_le (k1) ?_ ?_);(· (cbv;(try simp only [nc] at *);first|done|(simp;done)|(simp (disch:=(first|omega|(simp only [lnS,mks_len];omega))) only [rdT,rdS,mks_len,mks_get,anT];first|done|omega|(refine ⟨?_,?_⟩<;>omega))|(simp (disch:=(first|omega|(simp only [lnS,mks_len];omega))) [rdT,rdS,mks_len,mks_get];done)));cbv)
  |(refine ⟨fun _ h_s=>?_,fun _ h_s=>?_⟩<;>(cbv;(try simp only [nc] at *);try simp (disch:=(first|omega|(simp only [lnS,mks_len];omega))) only [rdT,rdS,mks_len,mks_get,reduceCtorEq,trT] at h_s))
  |(refine hF ?_;intro _;clear hF)
  |(refine hF ?_;cbv;clear hF)
  |(refine ⟨fun _=>?_,?_⟩;(· ((try simp only [nc] at *);first|done|omega|exact ⟨by omega,rfl⟩|(simp (disch:=(first|omega|(simp only [lnS,mks_len];omega))) only [rdT,rdS,mks_len,mks_get];first|done|omega|rfl|exact ⟨by omega,rfl⟩|(simp;done)|(simp;omega))|(intros;trivial)));(try (simp only [nc] at *));(try simp (disch:=(first|omega|(simp only [lnS,mks_len];omega))) only [rdT,rdS,mks_len,mks_get]);(try cbv))
  | fail
 )
 all_goals (simp_all; done)
def lightS (mx : Int) (s : Sta) : Bool := lightM mx s.g && decide ((s.ms.length : Int) ≤ 3 * mx)
theorem klight_ok (s : Sta) (hg : Rd s.g) (hm : (s.ms.length : Int) ≤ 9223372036854775807) : Pure Tryz.prog γ false 5 [aSt s, .i fun _ => 60] (.b fun _ => lightS 60 s) := by
 have k1 := light_ok (γ := γ) s.g hg 60 (by omega) (by omega)
 unfold lightS
 generalize lightM 60 s.g = z at *
 refine Pure.go (ty := ty) ty_eq mo Tryz.func5 rfl Tryz.ntmps5 Tryz.results5 Tryz.call5 (by simp) fun P C CQ D W F E hF => ?_
 cbv
 repeat' (first
  |(refine E.c (SCalls.of_le (k1) ?_ ?_);(· (cbv;(try simp only [nc] at *);first|done|(simp;done)|(simp (disch:=(first|omega|(simp only [lnS,mks_len];omega))) only [rdT,rdS,mks_len,mks_get,anT];first|done|omega|(refine ⟨?_,?_⟩<;>omega))|(simp (disch:=(first|omega|(simp only [lnS,mks_len];omega))) [rdT,rdS,mks_len,mks_get];done)));cbv)
  |(refine ⟨fun _ h_s=>?_,fun _ h_s=>?_⟩<;>(cbv;(try simp only [nc] at *);try simp (disch:=(first|omega|(simp only [lnS,mks_len];omega))) only [rdT,rdS,mks_len,mks_get,reduceCtorEq,trT] at h_s))
  |(refine hF ?_;intro _;clear hF)
  |(refine hF ?_;cbv;clear hF)
  |(refine ⟨fun _=>?_,?_⟩;(· ((try simp only [nc] at *);first|done|omega|exact ⟨by omega,rfl⟩|(simp (disch:=(first|omega|(simp only [lnS,mks_len];omega))) only [rdT,rdS,mks_len,mks_get];first|done|omega|rfl|exact ⟨by omega,rfl⟩|(simp;done)|(simp;omega))|(intros;trivial)));(try (simp only [nc] at *));(try simp (disch:=(first|omega|(simp only [lnS,mks_len];omega))) only [rdT,rdS,mks_len,mks_get]);(try cbv))
  | fail
 )
 ·rw [show z = true by assumption, Bool.true_and, mks_len, w64_of (by omega) (by omega)]
 ·rw [show z = false by simpa using h_s]; rfl
end Go.AL.Rl

namespace Go.AL.Rl
open Go Go.AL Go.Proofs
set_option maxRecDepth 100000
set_option maxHeartbeats 3200000
variable {γ : Nat → Option AV}

theorem idsT_split (g : Gr) (a b : Nat) : ∃ r, idsT g (a + b) = idsT g a ++ r := by
 unfold idsT
 rw [List.range_add, List.flatMap_append]
 exact ⟨_, rfl⟩
theorem num_at {g : Gr} {t i : Nat} (ht : t < g.th.length) (hi : i < (g.th.getD t []).length) : numOf (idsG g) ⟨(t : Int) + 1, (i : Int)⟩ = g.init.length + (evsT g t).length + i := by
 obtain ⟨r, hr⟩ := idsT_split g (t + 1) (g.th.length - (t + 1))
 rw [show t + 1 + (g.th.length - (t + 1)) = g.th.length by omega, idsT_succ] at hr
 have hl : (idsI g.init.length ++ idsT g t).length = g.init.length + (evsT g t).length := by rw [List.length_append, idsI_len, idsT_len]
 have e : idsG g = (idsI g.init.length ++ idsT g t) ++ (idsE t (g.th.getD t []).length ++ r) := by
  unfold idsG
  rw [hr]
  simp only [List.append_assoc]
 have hlen : g.init.length + (evsT g t).length + i < (idsG g).length := by
  rw [e, List.length_append, hl, List.length_append, idsE_len]; omega
 have h := numOf_at (idsG_nodup g) hlen
 have e2 : (idsG g).getD (g.init.length + (evsT g t).length + i) id0 = ⟨(t : Int) + 1, (i : Int)⟩ := by
  rw [e, List.getD_eq_getElem?_getD, List.getElem?_append_right (by omega), hl, Nat.add_sub_cancel_left, List.getElem?_append_left (by rw [idsE_len]; exact hi)]
  simp only [idsE, List.getElem?_map, List.getElem?_range hi, Option.map_some, Option.getD_some]
 rw [e2] at h
 exact h
def kindD (g : Gr) (d : EId) : Int := ((eventM g d).getD ev0).kind
def rmks (g : Gr) (i : Nat) : List Mk := ((idsT g g.th.length).take i).flatMap fun d => needM d (kindD g d)
theorem flatMap_same {α β : Type} (f g : α → List β) : ∀ l : List α, (∀ x ∈ l, f x = g x) → l.flatMap f = l.flatMap g
 | [], _ => rfl
 | a :: l, h => by rw [List.flatMap_cons, List.flatMap_cons, h a (by simp), flatMap_same f g l fun x hx => h x (by simp [hx])]
theorem rmks_all (g : Gr) : rmks g (idsT g g.th.length).length = allN g := by
 unfold rmks allN
 rw [List.take_length]
 unfold idsT
 rw [List.flatMap_assoc]
 refine flatMap_same _ _ _ fun t ht => ?_
 rw [List.mem_range] at ht
 unfold idsE needE
 rw [List.flatMap_map]
 refine flatMap_same _ _ _ fun i hi => ?_
 rw [List.mem_range] at hi
 have := event_thread (g := g) ht hi
 unfold kindD
 rw [this]
 rfl
theorem rmks_zero (g : Gr) : rmks g 0 = [] := rfl
theorem rmks_succ (g : Gr) {i : Nat} (hi : i < (idsT g g.th.length).length) : rmks g (i + 1) = rmks g i ++ needM ((idsT g g.th.length).getD i id0) (kindD g ((idsT g g.th.length).getD i id0)) := by
 unfold rmks
 rw [take_succ' _ i id0 hi, List.flatMap_append, List.flatMap_cons, List.flatMap_nil, List.append_nil]
theorem rmks_len (g : Gr) : ∀ i, i ≤ (idsT g g.th.length).length → (rmks g i).length ≤ 2 * i
 | 0, _ => by rw [rmks_zero]; simp
 | i + 1, h => by
  rw [rmks_succ g (by omega), List.length_append]
  have := rmks_len g i (by omega)
  have := needM_len ((idsT g g.th.length).getD i id0) (kindD g ((idsT g g.th.length).getD i id0))
  omega
/-- what an event leans on, of the first `i` -/
def rlnM (g : Gr) (d : EId) (i : Nat) : List EId := ((idsT g g.th.length).take i).filter fun a => porfB g a d
theorem rln_zero (g : Gr) (d : EId) : rlnM g d 0 = [] := rfl
theorem rln_all (g : Gr) (d : EId) : rlnM g d (idsT g g.th.length).length = rleansM g d := by unfold rlnM rleansM; rw [List.take_length]
theorem rln_succ (g : Gr) (d : EId) {i : Nat} (hi : i < (idsT g g.th.length).length) : rlnM g d (i + 1) = rlnM g d i ++ if porfB g ((idsT g g.th.length).getD i id0) d = true then [(idsT g g.th.length).getD i id0] else [] := by
 unfold rlnM
 rw [take_succ' _ i id0 hi, List.filter_append]
 congr 1
 generalize (idsT g g.th.length).getD i id0 = a
 by_cases h : porfB g a d = true
 ·rw [if_pos h]; simp [h]
 ·rw [if_neg h]; simp [h]
theorem rln_len (g : Gr) (d : EId) (i : Nat) : (rlnM g d i).length ≤ i := Nat.le_trans (List.length_filter_le _ _) (by simp; omega)
theorem fits_porf (V : Vw) {n : Nat} (hn : n ≤ 62) : Fits n (porfF V n) := fits_plus (fits_or2 (fits_poF V hn) (fits_rfF V hn))
theorem has_porf {g : Gr} (hg : GOk g) {a d : EId} (ha : a ∈ idsT g g.th.length) (hd : d ∈ idsT g g.th.length) : hasM (nG g : Nat) (porfF (viewG g) (nG g)) (numOf (idsG g) a : Nat) (numOf (idsG g) d : Nat) = porfB g a d := by
 have h1 := (num_hi (evT_iff.2 ha)).2.1
 have h2 := (num_hi (evT_iff.2 hd)).2.1
 unfold hasM
 rw [decide_eq_true ⟨fits_porf _ (viewG_wf hg).small, by omega, by omega, by omega, by omega⟩, Bool.true_and, Int.toNat_natCast, Int.toNat_natCast]
 rfl
theorem idsT_short {g : Gr} (hs : Short g) : (idsT g g.th.length).length ≤ 56 := by
 have h1 := evsT_len hs g.th.length
 have h2 := hs.th
 rw [idsT_len]; omega
end Go.AL.Rl

namespace Go.AL.Rl
open Go Go.AL Go.Proofs
set_option maxRecDepth 100000
set_option maxHeartbeats 1600000
variable {γ : Nat → Option AV}

structure Ft where
 a : Int
 b : Int
 br : Bool
structure Bk where
 rule : Int
 a : Int
 b : Int
 br : Bool
end Go.AL.Rl

namespace Go.AL.Rl
open Go Go.AL Go.Proofs
set_option maxRecDepth 100000
set_option maxHeartbeats 1600000
variable {γ : Nat → Option AV}

end Go.AL.Rl

namespace Go.AL.Rl
open Go Go.AL Go.Proofs
set_option maxRecDepth 100000
set_option maxHeartbeats 1600000
variable {γ : Nat → Option AV}

end Go.AL.Rl

namespace Go.AL.Rl
open Go Go.AL Go.Proofs
set_option maxRecDepth 100000
set_option maxHeartbeats 1600000
variable {γ : Nat → Option AV}

theorem ids14_ok (g : Gr) (hs : Short g) : Pure Tryz.prog γ false 125 [aGr g] (.vs 2 fun _ => ids (idsG g)) := by
 have hin := hs.init
 have hth := hs.th
 have hg : ∀ t, (g.th.getD t []).length ≤ 14 := hs.at
 obtain ⟨L, hL⟩ : ∃ L : Nat → List EId, ∀ x, L x = idsI x := ⟨_, fun _ => rfl⟩
 obtain ⟨L2, hL2⟩ : ∃ L2 : Nat → Nat → List EId, ∀ t i, L2 t i = idsI g.init.length ++ idsT g t ++ idsE t i := ⟨_, fun _ _ => rfl⟩
 have l0 : L 0 = [] := by rw [hL]; rfl
 have lS : ∀ x, L (x + 1) = L x ++ [⟨0, x⟩] := fun x => by rw [hL, hL, idsI_succ]
 have lL : ∀ x, (L x).length = x := fun x => by rw [hL, idsI_len]
 have lE : L g.init.length = L2 0 0 := by rw [hL, hL2]; simp [idsT, idsE]
 have mS : ∀ t i, L2 t (i + 1) = L2 t i ++ [⟨t + 1, i⟩] := fun t i => by rw [hL2, hL2, idsE_succ]; simp only [List.append_assoc]
 have mE : ∀ t, L2 t (g.th.getD t []).length = L2 (t + 1) 0 := fun t => by rw [hL2, hL2, idsT_succ]; simp [idsE]
 have mF : L2 g.th.length 0 = idsG g := by rw [hL2]; simp [idsE, idsG]
 have mL : ∀ t i, (L2 t i).length ≤ 6 + 14 * t + i := fun t i => by
  have := evsT_len hs t
  rw [hL2]; simp only [List.length_append, idsI_len, idsE_len, idsT_len]; omega
 obtain ⟨G, hG⟩ : ∃ G : List EId → Nat, ∀ l, G l = l.length := ⟨_, fun _ => rfl⟩
 have hG0 : G [] = 0 := by rw [hG]; rfl
 refine Pure.go (ty := ty) ty_eq mo Tryz.func125 rfl Tryz.ntmps125 Tryz.results125 Tryz.call125 (by simp) fun P C CQ D W F E hF => ?_
 cbv
 repeat' (first
  |(refine ⟨fun _ h_s=>?_,fun _ h_s=>?_⟩<;>(cbv;(try simp only [nc] at *);try simp (disch:=(first|omega|(simp only [lnS];omega))) only [rdT,rdS,reduceCtorEq,trT] at h_s))
  |(refine hF ?_;intro _;clear hF)
  |(refine hF ?_;cbv;clear hF)
  |(refine ⟨fun _=>?_,?_⟩;(· ((try simp only [nc] at *);first|done|omega|exact ⟨by omega,rfl⟩|(simp (disch:=(first|omega|(simp only [lnS];omega))) only [rdT,rdS];first|done|omega|rfl|exact ⟨by omega,rfl⟩|(simp;done)|(simp;omega))|(intros;trivial)));(try (simp only [nc] at *));(try simp (disch:=(first|omega|(simp only [lnS];omega))) only [rdT,rdS]);(try cbv))
  | fail
 )
 refine E.w (AWP.ghostSlot 3 2 rfl (by omega) (E.loopSA (ι := Nat) (fun x => x ≤ g.init.length) (fun x => g.init.length - x) (fun x => [(4, .i fun _ => ((x : Nat) : Int)), (3, .sl 1 (G (L x)) 2 (fun _ => 0) fun _ => (L x).length)]) (fun x h => h.set 1 (.run (G (L x)) 2 fun _ => ids (L x))) 0 (fun _ => by first | rfl | simp) (Nat.zero_le _) ?_ fun x hx I hI => ?_))
 ·cbv; simp [l0, hG0, ids, LV.of]
 cbv
 have e1 := lS x
 have e2 := lL x
 skip
 repeat' (first
  |(refine hI (x + 1) ?_ ?_ ?_;rotate_left 1;(· ((try simp only [nc] at *);omega));(cbv;clear hI;(try clear hF);(try simp only [nc] at *);(try simp (disch:=(first|omega|(simp only [lnS];omega))) only [rdT,rdS,anT]));rotate_left 1;(try ((try simp only [nc] at *);omega)))
  |(refine ⟨fun _ h_s=>?_,fun _ h_s=>?_⟩<;>(cbv;(try simp only [nc] at *);try simp (disch:=(first|omega|(simp only [lnS];omega))) only [rdT,rdS,reduceCtorEq,trT] at h_s))
  |(refine hF ?_;intro _;clear hF)
  |(refine hF ?_;cbv;clear hF)
  |(refine ⟨fun _=>?_,?_⟩;(· ((try simp only [nc] at *);first|done|omega|exact ⟨by omega,rfl⟩|(simp (disch:=(first|omega|(simp only [lnS];omega))) only [rdT,rdS];first|done|omega|rfl|exact ⟨by omega,rfl⟩|(simp;done)|(simp;omega))|(intros;trivial)|exact ⟨by first|trivial|rfl,by first|trivial|rfl|simp,by first|trivial|simp,by simp;omega,by simp;omega,by simp [AV.flat,AV.cells,AV.one]⟩));(try (simp only [nc] at *));(try simp (disch:=(first|omega|(simp only [lnS];omega))) only [rdT,rdS]);(try cbv))
  | fail
 )
 ·refine ⟨⟨⟨by rw [hG, hG, e1]; simp, ?_⟩, by push_cast; rfl⟩, by rw [hG, hG, e1]; simp, ?_⟩
  ·rw [e1]; simp [setAll]
  ·show LV.of ((ids (L x)).l ++ (ids [⟨0, (x : Int)⟩]).l) = _
   rw [ids_app, ids_of, e1]
 clear hI
 have ex : x = g.init.length := by ((try simp only [nc] at *); omega)
 subst ex
 rw [lE]
 refine E.loopS (ι:=Nat) (fun t=>t≤g.th.length) (fun t=>g.th.length - t) (fun t=>[(5,.i fun _=>((t : Nat) : Int)),(3,.sl 1 (G (L2 t 0)) 2 (fun _=>0) fun _=>(L2 t 0).length)]) (fun t h=>h.set 1 (.run (G (L2 t 0)) 2 fun _=>ids (L2 t 0))) 0 (fun _=>by first|rfl|simp) (Nat.zero_le _) ?_ fun t ht I1 hI1=>?_
 ·cbv; simp
 cbv
 have hgt := hg t
 repeat' (first
  |(refine ⟨fun _ h_s=>?_,fun _ h_s=>?_⟩<;>(cbv;(try simp only [nc] at *);try simp (disch:=(first|omega|(simp only [lnS];omega))) only [rdT,rdS,reduceCtorEq,trT] at h_s))
  |(refine hF ?_;intro _;clear hF)
  |(refine hF ?_;cbv;clear hF)
  |(refine ⟨fun _=>?_,?_⟩;(· ((try simp only [nc] at *);first|done|omega|exact ⟨by omega,rfl⟩|(simp (disch:=(first|omega|(simp only [lnS];omega))) only [rdT,rdS];first|done|omega|rfl|exact ⟨by omega,rfl⟩|(simp;done)|(simp;omega))|(intros;trivial)|exact ⟨by first|trivial|rfl,by first|trivial|rfl|simp,by first|trivial|simp,by simp;omega,by simp;omega,by simp [AV.flat,AV.cells,AV.one]⟩));(try (simp only [nc] at *));(try simp (disch:=(first|omega|(simp only [lnS];omega))) only [rdT,rdS]);(try cbv))
  | fail
 )
 ·refine E.loopS (ι:=Nat) (fun i=>i≤(g.th.getD t []).length) (fun i=>(g.th.getD t []).length - i) (fun i=>[(6,.i fun _=>((i : Nat) : Int)),(3,.sl 1 (G (L2 t i)) 2 (fun _=>0) fun _=>(L2 t i).length)]) (fun i h=>h.set 1 (.run (G (L2 t i)) 2 fun _=>ids (L2 t i))) 0 (fun _=>by first|rfl|simp) (Nat.zero_le _) ?_ fun i hi I2 hI2=>?_
  ·cbv; simp
  cbv
  have f1 := mS t i
  have f2 := mL t i
  have f3 := mE t
  repeat' (first
   |(refine hI2 (i + 1) ?_ ?_ ?_;rotate_left 1;(· ((try simp only [nc] at *);omega));(cbv;clear hI2;(try clear hF);(try simp only [nc] at *);(try simp (disch:=(first|omega|(simp only [lnS];omega))) only [rdT,rdS,anT]));rotate_left 1;(try ((try simp only [nc] at *);omega)))
   |(refine ⟨fun _ h_s=>?_,fun _ h_s=>?_⟩<;>(cbv;(try simp only [nc] at *);try simp (disch:=(first|omega|(simp only [lnS];omega))) only [rdT,rdS,reduceCtorEq,trT] at h_s))
   |(refine hF ?_;intro _;clear hF)
   |(refine hF ?_;cbv;clear hF)
   |(refine ⟨fun _=>?_,?_⟩;(· ((try simp only [nc] at *);first|done|omega|exact ⟨by omega,rfl⟩|(simp (disch:=(first|omega|(simp only [lnS];omega))) only [rdT,rdS];first|done|omega|rfl|exact ⟨by omega,rfl⟩|(simp;done)|(simp;omega))|(intros;trivial)|exact ⟨by first|trivial|rfl,by first|trivial|rfl|simp,by first|trivial|simp,by simp;omega,by simp;omega,by simp [AV.flat,AV.cells,AV.one]⟩));(try (simp only [nc] at *));(try simp (disch:=(first|omega|(simp only [lnS];omega))) only [rdT,rdS]);(try cbv))
   | fail
  )
  ·refine ⟨⟨⟨by rw [hG, hG, f1]; simp, ?_⟩, by push_cast; rfl⟩, by rw [hG, hG, f1]; simp, ?_⟩
   ·rw [f1]; simp [setAll]
   ·show LV.of ((ids (L2 t i)).l ++ (ids [⟨(t : Int) + 1, (i : Int)⟩]).l) = _
    rw [ids_app, ids_of, f1]
  ·have ei : i = (g.th.getD t []).length := by ((try simp only [nc] at *); omega)
   subst ei
   rw [f3]
   repeat' (first
    |(refine hI1 (t + 1) ?_ ?_ ?_;rotate_left 1;(· ((try simp only [nc] at *);omega));(cbv;clear hI1;(try clear hF);(try simp only [nc] at *);(try simp (disch:=(first|omega|(simp only [lnS];omega))) only [rdT,rdS,anT]));rotate_left 1;(try ((try simp only [nc] at *);omega)))
    |(refine ⟨fun _ h_s=>?_,fun _ h_s=>?_⟩<;>(cbv;(try simp only [nc] at *);try simp (disch:=(first|omega|(simp only [lnS];omega))) only [rdT,rdS,reduceCtorEq,trT] at h_s))
    |(refine hF ?_;intro _;clear hF)
    |(refine hF ?_;cbv;clear hF)
    |(refine ⟨fun _=>?_,?_⟩;(· ((try simp only [nc] at *);first|done|omega|exact ⟨by omega,rfl⟩|(simp (disch:=(first|omega|(simp only [lnS];omega))) only [rdT,rdS];first|done|omega|rfl|exact ⟨by omega,rfl⟩|(simp;done)|(simp;omega))|(intros;trivial)|exact ⟨by first|trivial|rfl,by first|trivial|rfl|simp,by first|trivial|simp,by simp;omega,by simp;omega,by simp [AV.flat,AV.cells,AV.one]⟩));try cbv)
    | fail
   )
   push_cast; rfl
 ·have et : t = g.th.length := by ((try simp only [nc] at *); omega)
  subst et
  rw [mF]
  intro _
  refine ⟨rfl, by simp, ?_⟩
  rw [List.drop_zero, List.take_of_length_le (by simp)]
end Go.AL.Rl

namespace Go.AL.Rl
open Go Go.AL Go.Proofs
set_option maxRecDepth 100000
set_option maxHeartbeats 1600000
variable {γ : Nat → Option AV}

abbrev aV15 (g : Gr) (L : List EId) (E : List Ev) (n : Nat) : AV := .agg [.vs 1 fun _ => is g.init, .vs 1 fun _ => evss g.th, .vs 1 fun _ => idss g.fr, .vs 1 fun _ => idss g.ord, .vs 2 fun _ => ids L, .vs 5 fun _ => evs E, .i fun _ => (n : Int)]
theorem event_of {g : Gr} (hg : GOk g) (i : Nat) (hi : i < nG g) :
  (¬ 0 < ((idsG g).getD i id0).t ∧ 0 ≤ ((idsG g).getD i id0).i ∧ ((idsG g).getD i id0).i.toNat < g.init.length ∧ (evsG g).getD i ev0 = ⟨2, ((idsG g).getD i id0).i, 1, 0, g.init.getD ((idsG g).getD i id0).i.toNat 0⟩) ∨
  (0 < ((idsG g).getD i id0).t ∧ ((idsG g).getD i id0).t ≤ 4 ∧ 0 ≤ ((idsG g).getD i id0).t - 1 ∧ (((idsG g).getD i id0).t - 1).toNat < g.th.length ∧ 0 ≤ ((idsG g).getD i id0).i ∧ ((idsG g).getD i id0).i.toNat < (g.th.getD (((idsG g).getD i id0).t - 1).toNat []).length ∧
   (evsG g).getD i ev0 = (g.th.getD (((idsG g).getD i id0).t - 1).toNat []).getD ((idsG g).getD i id0).i.toNat ev0) := by
 have he := evsG_get g i hi
 have hth := hg.short.th
 unfold eventM at he
 split at he
 ·rename_i h0
  split at he
  ·rename_i hc
   exact .inl ⟨by omega, hc.1, by omega, (Option.some.inj he).symm⟩
  ·cases he
 ·rename_i h0
  split at he
  ·rename_i hc
   exact .inr ⟨hc.1, by omega, by omega, by omega, hc.2.2.1, by omega, (Option.some.inj he).symm⟩
  ·cases he
theorem look15_yes (g : Gr) (hg : Rd g) (h : GOk g) : Pure Tryz.prog γ false 115 [aGr g] (.tup [.vp (fun _ => aV15 g (idsG g) (evsG g) (nG g)) 0, .b fun _ => true]) := by
 have kc := check14_ok (γ := γ) g hg
 rw [gcheck0 h] at kc
 have ki := ids14_ok (γ := γ) g h.short
 have hev := event_of h
 have hn : nG g ≤ 62 := (viewG_wf h).small
 have hin := h.short.init
 obtain ⟨Lf, hLf⟩ : ∃ L, L = idsG g := ⟨_, rfl⟩
 obtain ⟨Mf, hMf⟩ : ∃ L, L = evsG g := ⟨_, rfl⟩
 obtain ⟨n, hnn⟩ : ∃ n, n = nG g := ⟨_, rfl⟩
 have hLn : Lf.length = n := by rw [hLf, hnn]; rfl
 have hMn : Mf.length = n := by rw [hMf, ← idsG_len, ← hLf, hLn]
 rw [← hLf, ← hMf, ← hnn] at hev ⊢
 rw [← hLf] at ki
 rw [← hnn] at hn
 obtain ⟨M, hM⟩ : ∃ M : Nat → List Ev, ∀ k, M k = Mf.take k := ⟨_, fun _ => rfl⟩
 have m0 : M 0 = [] := by rw [hM]; simp
 have mS : ∀ k, k < n → M (k + 1) = M k ++ [Mf.getD k ev0] := fun k hk => by rw [hM, hM, take_succ' _ _ ev0 (by omega)]
 have mL : ∀ k, k ≤ n → (M k).length = k := fun k hk => by rw [hM, List.length_take]; omega
 have mE : M n = Mf := by rw [hM, List.take_of_length_le (by omega)]
 obtain ⟨G, hG⟩ : ∃ G : Nat → Nat, ∀ k, G k = k := ⟨_, fun _ => rfl⟩
 have hG0 : G 0 = 0 := hG 0
 refine Pure.go (ty := ty) ty_eq mo Tryz.func115 rfl Tryz.ntmps115 Tryz.results115 Tryz.call115 (by simp) fun P C CQ D W F E hF => ?_
 cbv
 repeat' (first
  |((first|refine E.c (SCalls.of_le (ki) ?_ ?_)|refine E.q (QCalls.of_le (ki) ?_ ?_));(· (cbv;(try simp only [nc] at *);first|done|(simp;done)|(simp (disch:=(first|omega|(simp only [lnS];omega))) only [rdT,rdS,anT];first|done|omega|(refine ⟨?_,?_⟩<;>omega))|(simp (disch:=(first|omega|(simp only [lnS];omega))) [rdT,rdS];done)));cbv)
  |(refine E.c (SCalls.of_le (ki) ?_ ?_);(· (cbv;(try simp only [nc] at *);first|done|(simp;done)|(simp (disch:=(first|omega|(simp only [lnS];omega))) only [rdT,rdS,anT];first|done|omega|(refine ⟨?_,?_⟩<;>omega))|(simp (disch:=(first|omega|(simp only [lnS];omega))) [rdT,rdS];done)));cbv)
  |(refine E.c (SCalls.of_le (kc) ?_ ?_);(· (cbv;(try simp only [nc] at *);first|done|(simp;done)|(simp (disch:=(first|omega|(simp only [lnS];omega))) only [rdT,rdS,anT];first|done|omega|(refine ⟨?_,?_⟩<;>omega))|(simp (disch:=(first|omega|(simp only [lnS];omega))) [rdT,rdS];done)));cbv)
  |(refine ⟨fun _ h_s=>?_,fun _ h_s=>?_⟩<;>(cbv;(try simp only [nc] at *);try simp (disch:=(first|omega|(simp only [lnS];omega))) only [rdT,rdS,reduceCtorEq,trT] at h_s))
  |(refine hF ?_;intro _;clear hF)
  |(refine hF ?_;cbv;clear hF)
  |(refine ⟨fun _=>?_,?_⟩;(· ((try simp only [nc] at *);first|done|omega|exact ⟨by omega,rfl⟩|(simp (disch:=(first|omega|(simp only [lnS];omega))) only [rdT,rdS];first|done|omega|rfl|exact ⟨by omega,rfl⟩|(simp;done)|(simp;omega))|(intros;trivial)));(try (simp only [nc] at *));(try simp (disch:=(first|omega|(simp only [lnS];omega))) only [rdT,rdS]);(try cbv))
  |(refine E.d 3 (by decide +kernel) ?_;cbv;(fail_if_success guard_target =~ False))
  |(refine E.d 10 (by decide +kernel) ?_;cbv;(fail_if_success guard_target =~ False))
  |(refine E.d 21 (by decide +kernel) ?_;cbv;(fail_if_success guard_target =~ False))
  | fail
 )
 ·revert h_s; simp
 refine E.w (AWP.ghostField 1 5 5 rfl rfl (E.loopSA (ι := Nat) (fun k => k ≤ n) (fun k => n - k) (fun k => [(5, .i fun _ => ((k : Nat) : Int))]) (fun k h => (h.set 1 (.box (.agg [.vs 1 fun _ => is g.init, .vs 1 fun _ => evss g.th, .vs 1 fun _ => idss g.fr, .vs 1 fun _ => idss g.ord, .vs 2 fun _ => ids Lf, .sl 2 (G k) 5 (fun _ => 0) fun _ => (M k).length, .i fun _ => (n : Int)]))).set 2 (.run (G k) 5 fun _ => evs (M k))) 0 (fun _ => by first | rfl | simp) (Nat.zero_le _) ?_ fun k hk I hI => ?_))
 ·cbv; simp [m0, hG0, hLn, evs, LV.of]
 cbv
 have hv := hev k
 have ml := mL k hk
 skip
 repeat' (first
  |(refine hI (k + 1) ?_ ?_ ?_;rotate_left 1;(· ((try simp only [nc] at *);omega));(cbv;clear hI;(try clear hF);(try simp only [nc] at *);(try simp (disch:=(first|omega|(simp only [lnS];omega))) only [rdT,rdS,anT]));rotate_left 1;(try ((try simp only [nc] at *);omega)))
  |(refine E.de 8 [2] [] (by decide +kernel) ?_;cbv;(fail_if_success guard_target =~ False))
  |(refine ⟨fun _ h_s=>?_,fun _ h_s=>?_⟩<;>(cbv;(try simp only [nc] at *);try simp (disch:=(first|omega|(simp only [lnS];omega))) only [rdT,rdS,reduceCtorEq,trT] at h_s))
  |(refine hF ?_;intro _;clear hF)
  |(refine hF ?_;cbv;clear hF)
  |(refine ⟨fun _=>?_,?_⟩;(· ((try simp only [nc] at *);first|done|omega|exact ⟨by omega,rfl⟩|(simp (disch:=(first|omega|(simp only [lnS];omega))) only [rdT,rdS];first|done|omega|rfl|exact ⟨by omega,rfl⟩|(simp;done)|(simp;omega))|(intros;trivial)|exact ⟨by first|trivial|rfl,by first|trivial|rfl|simp,by first|trivial|simp,by simp;omega,by simp;omega,by simp [AV.flat,AV.cells,AV.one]⟩));(try (simp only [nc] at *));(try simp (disch:=(first|omega|(simp only [lnS];omega))) only [rdT,rdS]);(try cbv))
  |(refine E.d 3 (by decide +kernel) ?_;cbv;(fail_if_success guard_target =~ False))
  |(refine E.d 10 (by decide +kernel) ?_;cbv;(fail_if_success guard_target =~ False))
  |(refine E.d 21 (by decide +kernel) ?_;cbv;(fail_if_success guard_target =~ False))
  | fail
 )
 ·obtain ⟨c1, c2, c3, c4, c5, c6, c7⟩ := (hv (by ((try simp only [nc] at *); omega))).resolve_left fun h => h.1 h_s
  have hs := mS k (by ((try simp only [nc] at *); omega))
  (try simp only [id0, ev0] at c1 c2 c3 c4 c5 c6 c7 hs)
  (try simp only [nc] at *)
  refine ⟨by push_cast; rfl, ⟨by rw [hG, hG], by rw [hs]; simp [setAll]⟩, by rw [hG, hG], ?_⟩
  rw [hs, c7]
  generalize (g.th.getD ((Lf.getD k ⟨0, 0⟩).t - 1).toNat []).getD (Lf.getD k ⟨0, 0⟩).i.toNat ⟨0, 0, 0, 0, 0⟩ = e
  show LV.of ((evs (M k)).l ++ (evs [e]).l) = _
  rw [evs_app, evs_of]
 ·obtain ⟨c1, c2, c3, c4⟩ := (hv (by ((try simp only [nc] at *); omega))).resolve_right fun h => by ((try simp only [nc] at *); omega)
  have hs := mS k (by ((try simp only [nc] at *); omega))
  (try simp only [id0, ev0] at c1 c2 c3 c4 hs)
  (try simp only [nc] at *)
  refine ⟨by push_cast; rfl, ⟨by rw [hG, hG], by rw [hs]; simp [setAll]⟩, by rw [hG, hG], ?_⟩
  rw [hs, c4]
  show LV.of ((evs (M k)).l ++ (evs [⟨2, (Lf.getD k ⟨0, 0⟩).i, 1, 0, g.init.getD (Lf.getD k ⟨0, 0⟩).i.toNat 0⟩]).l) = _
  rw [evs_app, evs_of]
 ·have e : k = n := by ((try simp only [nc] at *); omega)
  subst e
  rw [mE]
  refine ⟨⟨fun _ => rfl, fun _ => rfl, fun _ => rfl, fun _ => rfl, fun _ => rfl, fun _ => ⟨rfl, by simp, by rw [List.drop_zero, List.take_of_length_le (by simp)]⟩, fun _ => rfl, trivial⟩, fun _ => rfl, trivial⟩
end Go.AL.Rl

namespace Go.AL.Rl
open Go Go.AL Go.Proofs
set_option maxRecDepth 100000
set_option maxHeartbeats 1600000
variable {γ : Nat → Option AV}

abbrev pW (g : Gr) : AV := .vp (fun _ => aV15 g (idsG g) (evsG g) (nG g)) 0
theorem ids_pos {g : Gr} {i : Nat} (hi : i < nG g) : 0 ≤ ((idsG g).getD i id0).t := by
 have hm : (idsG g).getD i id0 ∈ idsG g := getD_mem hi
 rw [idsG, List.mem_append, idsI_mem, idsT_mem, ← idsG] at hm
 omega
theorem evsG_l (g : Gr) : (evsG g).length = nG g := (idsG_len g).symm
theorem idsG_l (g : Gr) : (idsG g).length = nG g := rfl
theorem xreads_ok (g : Gr) (L : List EId) (Es : List Ev) (n a : Nat) (h1 : Es.length = n) (ha : a < n) : Pure Tryz.prog γ false 136 [.vp (fun _ => aV15 g L Es n) 0, .i fun _ => (a : Int)] (.b fun _ => readsM (Es.getD a ev0)) := by
 refine Pure.go (ty := ty) ty_eq mo Tryz.func136 rfl Tryz.ntmps136 Tryz.results136 Tryz.call136 (by simp) fun P C CQ D W F E hF => ?_
 cbv
 repeat' (first
  |(refine ⟨fun _ h_s=>?_,fun _ h_s=>?_⟩<;>(cbv;(try simp only [nc] at *);try simp (disch:=(first|omega|(simp only [lnS];omega))) only [rdT,rdS,reduceCtorEq,trT] at h_s))
  |(refine hF ?_;intro _;clear hF)
  |(refine hF ?_;cbv;clear hF)
  |(refine ⟨fun _=>?_,?_⟩;(· ((try simp only [nc] at *);first|done|omega|exact ⟨by omega,rfl⟩|(simp (disch:=(first|omega|(simp only [lnS];omega))) only [rdT,rdS];first|done|omega|rfl|exact ⟨by omega,rfl⟩|(simp;done)|(simp;omega))|(intros;trivial)));(try (simp only [nc] at *));(try simp (disch:=(first|omega|(simp only [lnS];omega))) only [rdT,rdS]);(try cbv))
  | fail
 )
 all_goals (try simp only [nc] at *)
 all_goals (try simp (disch:=(first|omega|(simp only [lnS];omega))) only [rdT,rdS])
 all_goals simp_all [readsM]
theorem wreads_ok (g : Gr) (a : Nat) (ha : a < nG g) : Pure Tryz.prog γ false 136 [pW g, .i fun _ => (a : Int)] (.b fun _ => readsM ((viewG g).ev.getD a ev0)) := xreads_ok g _ _ _ a (evsG_l g) ha
theorem xwrites_ok (g : Gr) (L : List EId) (Es : List Ev) (n a : Nat) (h1 : Es.length = n) (ha : a < n) : Pure Tryz.prog γ false 134 [.vp (fun _ => aV15 g L Es n) 0, .i fun _ => (a : Int)] (.b fun _ => writesM (Es.getD a ev0)) := by
 refine Pure.go (ty := ty) ty_eq mo Tryz.func134 rfl Tryz.ntmps134 Tryz.results134 Tryz.call134 (by simp) fun P C CQ D W F E hF => ?_
 cbv
 repeat' (first
  |(refine ⟨fun _ h_s=>?_,fun _ h_s=>?_⟩<;>(cbv;(try simp only [nc] at *);try simp (disch:=(first|omega|(simp only [lnS];omega))) only [rdT,rdS,reduceCtorEq,trT] at h_s))
  |(refine hF ?_;intro _;clear hF)
  |(refine hF ?_;cbv;clear hF)
  |(refine ⟨fun _=>?_,?_⟩;(· ((try simp only [nc] at *);first|done|omega|exact ⟨by omega,rfl⟩|(simp (disch:=(first|omega|(simp only [lnS];omega))) only [rdT,rdS];first|done|omega|rfl|exact ⟨by omega,rfl⟩|(simp;done)|(simp;omega))|(intros;trivial)));(try (simp only [nc] at *));(try simp (disch:=(first|omega|(simp only [lnS];omega))) only [rdT,rdS]);(try cbv))
  | fail
 )
 all_goals (try simp only [nc] at *)
 all_goals (try simp (disch:=(first|omega|(simp only [lnS];omega))) only [rdT,rdS])
 all_goals simp_all [writesM]
theorem wwrites_ok (g : Gr) (a : Nat) (ha : a < nG g) : Pure Tryz.prog γ false 134 [pW g, .i fun _ => (a : Int)] (.b fun _ => writesM ((viewG g).ev.getD a ev0)) := xwrites_ok g _ _ _ a (evsG_l g) ha
theorem xacq_ok (g : Gr) (L : List EId) (Es : List Ev) (n a : Nat) (h1 : Es.length = n) (ha : a < n) : Pure Tryz.prog γ false 139 [.vp (fun _ => aV15 g L Es n) 0, .i fun _ => (a : Int)] (.b fun _ => acqM (Es.getD a ev0)) := by
 refine Pure.go (ty := ty) ty_eq mo Tryz.func139 rfl Tryz.ntmps139 Tryz.results139 Tryz.call139 (by simp) fun P C CQ D W F E hF => ?_
 cbv
 repeat' (first
  |(refine ⟨fun _ h_s=>?_,fun _ h_s=>?_⟩<;>(cbv;(try simp only [nc] at *);try simp (disch:=(first|omega|(simp only [lnS];omega))) only [rdT,rdS,reduceCtorEq,trT] at h_s))
  |(refine hF ?_;intro _;clear hF)
  |(refine hF ?_;cbv;clear hF)
  |(refine ⟨fun _=>?_,?_⟩;(· ((try simp only [nc] at *);first|done|omega|exact ⟨by omega,rfl⟩|(simp (disch:=(first|omega|(simp only [lnS];omega))) only [rdT,rdS];first|done|omega|rfl|exact ⟨by omega,rfl⟩|(simp;done)|(simp;omega))|(intros;trivial)));(try (simp only [nc] at *));(try simp (disch:=(first|omega|(simp only [lnS];omega))) only [rdT,rdS]);(try cbv))
  | fail
 )
 all_goals (try simp only [nc] at *)
 all_goals (try simp (disch:=(first|omega|(simp only [lnS];omega))) only [rdT,rdS])
 all_goals simp_all [acqM]
theorem wacq_ok (g : Gr) (a : Nat) (ha : a < nG g) : Pure Tryz.prog γ false 139 [pW g, .i fun _ => (a : Int)] (.b fun _ => acqM ((viewG g).ev.getD a ev0)) := xacq_ok g _ _ _ a (evsG_l g) ha
theorem xrel_ok (g : Gr) (L : List EId) (Es : List Ev) (n a : Nat) (h1 : Es.length = n) (ha : a < n) : Pure Tryz.prog γ false 138 [.vp (fun _ => aV15 g L Es n) 0, .i fun _ => (a : Int)] (.b fun _ => relM (Es.getD a ev0)) := by
 refine Pure.go (ty := ty) ty_eq mo Tryz.func138 rfl Tryz.ntmps138 Tryz.results138 Tryz.call138 (by simp) fun P C CQ D W F E hF => ?_
 cbv
 repeat' (first
  |(refine ⟨fun _ h_s=>?_,fun _ h_s=>?_⟩<;>(cbv;(try simp only [nc] at *);try simp (disch:=(first|omega|(simp only [lnS];omega))) only [rdT,rdS,reduceCtorEq,trT] at h_s))
  |(refine hF ?_;intro _;clear hF)
  |(refine hF ?_;cbv;clear hF)
  |(refine ⟨fun _=>?_,?_⟩;(· ((try simp only [nc] at *);first|done|omega|exact ⟨by omega,rfl⟩|(simp (disch:=(first|omega|(simp only [lnS];omega))) only [rdT,rdS];first|done|omega|rfl|exact ⟨by omega,rfl⟩|(simp;done)|(simp;omega))|(intros;trivial)));(try (simp only [nc] at *));(try simp (disch:=(first|omega|(simp only [lnS];omega))) only [rdT,rdS]);(try cbv))
  | fail
 )
 all_goals (try simp only [nc] at *)
 all_goals (try simp (disch:=(first|omega|(simp only [lnS];omega))) only [rdT,rdS])
 all_goals simp_all [relM]
theorem wrel_ok (g : Gr) (a : Nat) (ha : a < nG g) : Pure Tryz.prog γ false 138 [pW g, .i fun _ => (a : Int)] (.b fun _ => relM ((viewG g).ev.getD a ev0)) := xrel_ok g _ _ _ a (evsG_l g) ha
theorem xloc_ok (g : Gr) (L : List EId) (Es : List Ev) (fr pl : List Int) (n a b : Nat) (h1 : Es.length = n) (ha : a < n) (hb : b < n) : Pure Tryz.prog γ false 116 [.vp (fun _ => aV15 g L Es n) 0, .i fun _ => (a : Int), .i fun _ => (b : Int)] (.b fun _ => locM ⟨L, Es, fr, pl⟩ a b) := by
 refine Pure.go (ty := ty) ty_eq mo Tryz.func116 rfl Tryz.ntmps116 Tryz.results116 Tryz.call116 (by simp) fun P C CQ D W F E hF => ?_
 cbv
 repeat' (first
  |(refine ⟨fun _ h_s=>?_,fun _ h_s=>?_⟩<;>(cbv;(try simp only [nc] at *);try simp (disch:=(first|omega|(simp only [lnS];omega))) only [rdT,rdS,reduceCtorEq,trT] at h_s))
  |(refine hF ?_;intro _;clear hF)
  |(refine hF ?_;cbv;clear hF)
  |(refine ⟨fun _=>?_,?_⟩;(· ((try simp only [nc] at *);first|done|omega|exact ⟨by omega,rfl⟩|(simp (disch:=(first|omega|(simp only [lnS];omega))) only [rdT,rdS];first|done|omega|rfl|exact ⟨by omega,rfl⟩|(simp;done)|(simp;omega))|(intros;trivial)));(try (simp only [nc] at *));(try simp (disch:=(first|omega|(simp only [lnS];omega))) only [rdT,rdS]);(try cbv))
  |(refine E.d 42 (by decide +kernel) ?_;cbv;(fail_if_success guard_target =~ False))
  | fail
 )
 all_goals (try simp only [nc] at *)
 all_goals (try simp (disch:=(first|omega|(simp only [lnS];omega))) only [rdT,rdS])
 all_goals (have e : ((a : Int) = b) ↔ a = b := Int.ofNat_inj; simp_all [locM, nearM, fenceM])
theorem wloc_ok (g : Gr) (a b : Nat) (ha : a < nG g) (hb : b < nG g) : Pure Tryz.prog γ false 116 [pW g, .i fun _ => (a : Int), .i fun _ => (b : Int)] (.b fun _ => locM (viewG g) a b) := xloc_ok g _ _ _ _ _ a b (evsG_l g) ha hb
theorem xpo_ok (g : Gr) (L : List EId) (Es : List Ev) (fr pl : List Int) (n a b : Nat) (h1 : L.length = n) (ha : a < n) (hb : b < n) (pa : 0 ≤ (L.getD a id0).t) (pb : 0 ≤ (L.getD b id0).t) : Pure Tryz.prog γ false 126 [.vp (fun _ => aV15 g L Es n) 0, .i fun _ => (a : Int), .i fun _ => (b : Int)] (.b fun _ => poM ⟨L, Es, fr, pl⟩ a b) := by
 refine Pure.go (ty := ty) ty_eq mo Tryz.func126 rfl Tryz.ntmps126 Tryz.results126 Tryz.call126 (by simp) fun P C CQ D W F E hF => ?_
 cbv
 repeat' (first
  |(refine E.de 17 [] [none,none] (by decide +kernel) ?_;cbv;(fail_if_success guard_target =~ False))
  |(refine ⟨fun _ h_s=>?_,fun _ h_s=>?_⟩<;>(cbv;(try simp only [nc] at *);try simp (disch:=(first|omega|(simp only [lnS];omega))) only [rdT,rdS,reduceCtorEq,trT] at h_s))
  |(refine hF ?_;intro _;clear hF)
  |(refine hF ?_;cbv;clear hF)
  |(refine ⟨fun _=>?_,?_⟩;(· ((try simp only [nc] at *);first|done|omega|exact ⟨by omega,rfl⟩|(simp (disch:=(first|omega|(simp only [lnS];omega))) only [rdT,rdS];first|done|omega|rfl|exact ⟨by omega,rfl⟩|(simp;done)|(simp;omega))|(intros;trivial)));(try (simp only [nc] at *));(try simp (disch:=(first|omega|(simp only [lnS];omega))) only [rdT,rdS]);(try cbv))
  | fail
 )
 all_goals (try simp only [nc] at *)
 all_goals (try simp (disch:=(first|omega|(simp only [lnS];omega))) only [rdT,rdS])
 all_goals (try simp only [poM])
 all_goals grind
end Go.AL.Rl

namespace Go.AL.Rl
open Go Go.AL Go.Proofs
set_option maxRecDepth 100000
set_option maxHeartbeats 1600000
variable {γ : Nat → Option AV}

theorem wpo_ok (g : Gr) (a b : Nat) (ha : a < nG g) (hb : b < nG g) : Pure Tryz.prog γ false 126 [pW g, .i fun _ => (a : Int), .i fun _ => (b : Int)] (.b fun _ => poM (viewG g) a b) := xpo_ok g _ _ _ _ _ a b (idsG_l g) ha hb (ids_pos ha) (ids_pos hb)
theorem wfrom_ok (g : Gr) (h : GOk g) (a : Nat) (ha : a < nG g) : Pure Tryz.prog γ false 137 [pW g, .i fun _ => (a : Int)] (.i fun _ => (viewG g).fr.getD a 0) := by
 have kr := wreads_ok (γ := γ) g a ha
 rw [vfr h a ha]
 have hev := vev h a ha
 cases hr : readsM ((viewG g).ev.getD a ev0) with
 | false =>
  rw [hr] at kr
  have e : frOf g ((idsG g).getD a id0) = -1 := by
   unfold frOf
   rw [hev, Option.getD_some, hr]; simp
  rw [e]
  refine Pure.go (ty := ty) ty_eq mo Tryz.func137 rfl Tryz.ntmps137 Tryz.results137 Tryz.call137 (by simp) fun P C CQ D W F E hF => ?_
  cbv
  repeat' (first
   |(refine E.c (SCalls.of_le (kr) ?_ ?_);(· (cbv;(try simp only [nc] at *);first|done|(simp;done)|(simp (disch:=(first|omega|(simp only [lnS];omega))) only [rdT,rdS,anT];first|done|omega|(refine ⟨?_,?_⟩<;>omega))|(simp (disch:=(first|omega|(simp only [lnS];omega))) [rdT,rdS];done)));cbv)
   |(refine ⟨fun _ h_s=>?_,fun _ h_s=>?_⟩<;>(cbv;(try simp only [nc] at *);try simp (disch:=(first|omega|(simp only [lnS];omega))) only [rdT,rdS,reduceCtorEq,trT] at h_s))
   |(refine hF ?_;intro _;clear hF)
   |(refine hF ?_;cbv;clear hF)
   |(refine ⟨fun _=>?_,?_⟩;(· ((try simp only [nc] at *);first|done|omega|exact ⟨by omega,rfl⟩|(simp (disch:=(first|omega|(simp only [lnS];omega))) only [rdT,rdS];first|done|omega|rfl|exact ⟨by omega,rfl⟩|(simp;done)|(simp;omega))|(intros;trivial)));(try (simp only [nc] at *));(try simp (disch:=(first|omega|(simp only [lnS];omega))) only [rdT,rdS]);(try cbv))
   |(refine E.d 8 (by decide +kernel) ?_;cbv;(fail_if_success guard_target =~ False))
   | fail
  )
  all_goals (try simp only [nc] at *)
  all_goals (try simp (disch:=(first|omega|(simp only [lnS];omega))) only [rdT,rdS])
  all_goals first | rfl | (revert h_s; simp)
 | true =>
  rw [hr] at kr
  have h0 : ((idsG g).getD a id0).t ≠ 0 := fun h0 => by rw [init_reads hev h0] at hr; cases hr
  obtain ⟨w1, w2, w3, w4, w5⟩ := ids_where h ha h0
  have hd : (idsG g).getD a id0 ∈ idsG g := getD_mem ha
  obtain ⟨w, hw, _⟩ := source_mem (src_ok h hd h0) (by rw [hev]; exact hr)
  have hm : srcOf g ((idsG g).getD a id0) ∈ idsG g := idsG_mem.2 (by rw [hw]; rfl)
  have e : frOf g ((idsG g).getD a id0) = (numOf (idsG g) (srcOf g ((idsG g).getD a id0)) : Nat) := by
   unfold frOf
   rw [if_neg h0, hev, Option.getD_some, if_pos hr]
  rw [e]
  have hnd := idsG_nodup g
  have hn : nG g ≤ 62 := (viewG_wf h).small
  unfold pW at kr ⊢
  obtain ⟨L, hL⟩ : ∃ L, L = idsG g := ⟨_, rfl⟩
  have hLn : L.length = nG g := by rw [hL]; rfl
  obtain ⟨n, hnn⟩ : ∃ n, n = nG g := ⟨_, rfl⟩
  rw [← hnn] at ha hn hLn kr ⊢
  rw [← hL] at kr w1 w2 w3 w4 w5 hm hnd ⊢
  obtain ⟨s, hs⟩ : ∃ s, s = srcOf g (L.getD a id0) := ⟨_, rfl⟩
  rw [← hs] at hm ⊢
  have hsd : s = (g.fr.getD ((L.getD a ⟨0, 0⟩).t - 1).toNat []).getD (L.getD a ⟨0, 0⟩).i.toNat ⟨0, 0⟩ := hs
  refine Pure.go (ty := ty) ty_eq mo Tryz.func137 rfl Tryz.ntmps137 Tryz.results137 Tryz.call137 (by simp) fun P C CQ D W F E hF => ?_
  cbv
  repeat' (first
   |(refine E.de 27 [] [none] (by decide +kernel) ?_;cbv;(fail_if_success guard_target =~ False))
   |(refine E.c (SCalls.of_le (kr) ?_ ?_);(· (cbv;(try simp only [nc] at *);first|done|(simp;done)|(simp (disch:=(first|omega|(simp only [lnS];omega))) only [rdT,rdS,anT];first|done|omega|(refine ⟨?_,?_⟩<;>omega))|(simp (disch:=(first|omega|(simp only [lnS];omega))) [rdT,rdS];done)));cbv)
   |(refine ⟨fun _ h_s=>?_,fun _ h_s=>?_⟩<;>(cbv;(try simp only [nc] at *);try simp (disch:=(first|omega|(simp only [lnS];omega))) only [rdT,rdS,reduceCtorEq,trT] at h_s))
   |(refine hF ?_;intro _;clear hF)
   |(refine hF ?_;cbv;clear hF)
   |(refine ⟨fun _=>?_,?_⟩;(· ((try simp only [nc] at *);first|done|omega|exact ⟨by omega,rfl⟩|(simp (disch:=(first|omega|(simp only [lnS];omega))) only [rdT,rdS];first|done|omega|rfl|exact ⟨by omega,rfl⟩|(simp;done)|(simp;omega))|(intros;trivial)));(try (simp only [nc] at *));(try simp (disch:=(first|omega|(simp only [lnS];omega))) only [rdT,rdS]);(try cbv))
   |(refine E.d 8 (by decide +kernel) ?_;cbv;(fail_if_success guard_target =~ False))
   | fail
  )
  skip
  refine E.loopS (ι:=Nat) (fun k=>k≤n∧(∀ j < k,L.getD j ⟨0,0⟩ ≠ s)) (fun k=>n - k) (fun k=>[(6,.i fun _=>((k : Nat) : Int))]) (fun k h=>h) 0 (fun _=>by first|rfl|simp) ⟨Nat.zero_le _,?_⟩ ?_ fun k hk I hI=>?_
  ·intro j hj; omega
  ·cbv; simp
  cbv
  repeat' (first
   |(refine hI (k + 1) ?_ ?_ ?_;rotate_left 1;(· ((try simp only [nc] at *);omega));(cbv;clear hI;(try clear hF);(try simp only [nc] at *);(try simp (disch:=(first|omega|(simp only [lnS];omega))) only [rdT,rdS,← hsd,anT]));rotate_left 1;(try ((try simp only [nc] at *);omega)))
   |(refine ⟨fun _ h_s=>?_,fun _ h_s=>?_⟩<;>(cbv;(try simp only [nc] at *);try simp (disch:=(first|omega|(simp only [lnS];omega))) only [rdT,rdS,← hsd,reduceCtorEq,trT] at h_s))
   |(refine hF ?_;intro _;clear hF)
   |(refine hF ?_;cbv;clear hF)
   |(refine ⟨fun _=>?_,?_⟩;(· ((try simp only [nc] at *);first|done|omega|exact ⟨by omega,rfl⟩|(simp (disch:=(first|omega|(simp only [lnS];omega))) only [rdT,rdS,← hsd];first|done|omega|rfl|exact ⟨by omega,rfl⟩|(simp;done)|(simp;omega))|(intros;trivial)));(try (simp only [nc] at *));(try simp (disch:=(first|omega|(simp only [lnS];omega))) only [rdT,rdS,← hsd]);(try cbv))
   |(refine E.d 8 (by decide +kernel) ?_;cbv;(fail_if_success guard_target =~ False))
   | fail
  )
  ·simp only [Bool.and_true, Bool.and_eq_true, decide_eq_true_eq] at h_s
   have he : L.getD k id0 = s := EId.ext' h_s.1 h_s.2
   have := numOf_at hnd (k := k) (by ((try simp only [nc] at *); omega))
   rw [he] at this
   show (k : Int) = _
   rw [this]
  ·refine ⟨by ((try simp only [nc] at *); omega), fun j hj => ?_⟩
   rcases Nat.lt_or_ge j k with hjk | hjk
   ·exact hk.2 j hjk
   ·have : j = k := by omega
    subst this
    intro he
    rw [he] at h_s
    simp at h_s
  ·push_cast; rfl
  ·exfalso
   exact hk.2 _ (by have := numOf_lt hm; ((try simp only [nc] at *); omega)) (numOf_get hm)
end Go.AL.Rl

namespace Go.AL.Rl
open Go Go.AL Go.Proofs
set_option maxRecDepth 100000
set_option maxHeartbeats 1600000
variable {γ : Nat → Option AV}

theorem wplace_ok (g : Gr) (hg : Rd g) (h : GOk g) (a : Nat) (ha : a < nG g) (hw : writesM ((viewG g).ev.getD a ev0) = true) : Pure Tryz.prog γ false 140 [pW g, .i fun _ => (a : Int)] (.i fun _ => (viewG g).pl.getD a 0) := by
 rw [vpl h a ha]
 have hev : eventM g ((idsG g).getD a id0) = some ((evsG g).getD a ev0) := vev h a ha
 have hw : writesM ((evsG g).getD a ev0) = true := hw
 have hn : nG g ≤ 62 := (viewG_wf h).small
 have hEl := evsG_l g
 have hLn := idsG_l g
 unfold pW
 generalize idsG g = L at *
 generalize evsG g = Es at *
 generalize nG g = n at *
 have hpw := pl_write h hev hw
 have hl : (L.getD a id0).t ≠ 0 → 0 ≤ (Es.getD a ev0).loc ∧ (Es.getD a ev0).loc < g.ord.length := fun h0 => by
  have := fine_loc (event_fine h hev h0) (notFence_w hw)
  rw [h.lord]; exact this
 have hord := ordsAt hg (Es.getD a ev0).loc.toNat
 have hnd : (g.ord.getD (Es.getD a ev0).loc.toNat []).Nodup := by
  by_cases hx : (Es.getD a ev0).loc.toNat < g.init.length
  ·exact ((ordered_iff g _).1 (h.orders _ hx)).1
  ·rw [List.getD_eq_getElem?_getD, List.getElem?_eq_none (by rw [h.lord]; omega)]; simp
 obtain ⟨l, hll⟩ : ∃ l, l = g.ord.getD (Es.getD a ⟨0, 0, 0, 0, 0⟩).loc.toNat [] := ⟨_, rfl⟩
 obtain ⟨p, hp⟩ : ∃ p, p = plOf g (L.getD a id0) := ⟨_, rfl⟩
 rw [← hp] at hpw ⊢
 rw [← hll] at hpw hord hnd
 refine Pure.go (ty := ty) ty_eq mo Tryz.func140 rfl Tryz.ntmps140 Tryz.results140 Tryz.call140 (by simp) fun P C CQ D W F E hF => ?_
 cbv
 skip
 repeat' (first
  |(refine ⟨fun _ h_s=>?_,fun _ h_s=>?_⟩<;>(cbv;(try simp only [nc] at *);try simp (disch:=(first|omega|(simp only [lnS];omega))) only [rdT,rdS,← hll,reduceCtorEq,trT] at h_s))
  |(refine hF ?_;intro _;clear hF)
  |(refine hF ?_;cbv;clear hF)
  |(refine ⟨fun _=>?_,?_⟩;(· ((try simp only [nc] at *);first|done|omega|exact ⟨by omega,rfl⟩|(simp (disch:=(first|omega|(simp only [lnS];omega))) only [rdT,rdS,← hll];first|done|omega|rfl|exact ⟨by omega,rfl⟩|(simp;done)|(simp;omega))|(intros;trivial)));(try (simp only [nc] at *));(try simp (disch:=(first|omega|(simp only [lnS];omega))) only [rdT,rdS,← hll]);(try cbv))
  |(refine E.d 11 (by decide +kernel) ?_;cbv;(fail_if_success guard_target =~ False))
  |(refine E.d 13 (by decide +kernel) ?_;cbv;(fail_if_success guard_target =~ False))
  | fail
 )
 ·rcases hpw with h1 | h1
  ·exact h1.2.symm
  ·exact absurd h_s h1.1
 ·obtain ⟨h0, k0, hk1, hk2, hk3⟩ := hpw.resolve_left fun h1 => h_s h1.1
  have hl' := hl h0
  repeat' (first
   |(refine ⟨fun _ h_s=>?_,fun _ h_s=>?_⟩<;>(cbv;(try simp only [nc] at *);try simp (disch:=(first|omega|(simp only [lnS];omega))) only [rdT,rdS,← hll,reduceCtorEq,trT] at h_s))
   |(refine hF ?_;intro _;clear hF)
   |(refine hF ?_;cbv;clear hF)
   |(refine ⟨fun _=>?_,?_⟩;(· ((try simp only [nc] at *);first|done|omega|exact ⟨by omega,rfl⟩|(simp (disch:=(first|omega|(simp only [lnS];omega))) only [rdT,rdS,← hll];first|done|omega|rfl|exact ⟨by omega,rfl⟩|(simp;done)|(simp;omega))|(intros;trivial)));(try (simp only [nc] at *));(try simp (disch:=(first|omega|(simp only [lnS];omega))) only [rdT,rdS,← hll]);(try cbv))
   |(refine E.d 11 (by decide +kernel) ?_;cbv;(fail_if_success guard_target =~ False))
   |(refine E.d 13 (by decide +kernel) ?_;cbv;(fail_if_success guard_target =~ False))
   | fail
  )
  refine E.loopS (ι:=Nat) (fun k=>k≤l.length∧(k≤k0)) (fun k=>l.length - k) (fun k=>[(6,.i fun _=>((k : Nat) : Int))]) (fun k h=>h) 0 (fun _=>by first|rfl|simp) ⟨Nat.zero_le _,?_⟩ ?_ fun k hk I hI=>?_
  ·omega
  ·cbv; simp
  cbv
  repeat' (first
   |(refine hI (k + 1) ?_ ?_ ?_;rotate_left 1;(· ((try simp only [nc] at *);omega));(cbv;clear hI;(try clear hF);(try simp only [nc] at *);(try simp (disch:=(first|omega|(simp only [lnS];omega))) only [rdT,rdS,← hll,anT]));rotate_left 1;(try ((try simp only [nc] at *);omega)))
   |(refine ⟨fun _ h_s=>?_,fun _ h_s=>?_⟩<;>(cbv;(try simp only [nc] at *);try simp (disch:=(first|omega|(simp only [lnS];omega))) only [rdT,rdS,← hll,reduceCtorEq,trT] at h_s))
   |(refine hF ?_;intro _;clear hF)
   |(refine hF ?_;cbv;clear hF)
   |(refine ⟨fun _=>?_,?_⟩;(· ((try simp only [nc] at *);first|done|omega|exact ⟨by omega,rfl⟩|(simp (disch:=(first|omega|(simp only [lnS];omega))) only [rdT,rdS,← hll];first|done|omega|rfl|exact ⟨by omega,rfl⟩|(simp;done)|(simp;omega))|(intros;trivial)));(try (simp only [nc] at *));(try simp (disch:=(first|omega|(simp only [lnS];omega))) only [rdT,rdS,← hll]);(try cbv))
   |(refine E.d 11 (by decide +kernel) ?_;cbv;(fail_if_success guard_target =~ False))
   |(refine E.d 13 (by decide +kernel) ?_;cbv;(fail_if_success guard_target =~ False))
   | fail
  )
  ·simp only [Bool.and_true, Bool.and_eq_true, decide_eq_true_eq] at h_s
   have he : l.getD k id0 = l.getD k0 id0 := (EId.ext' h_s.1 h_s.2).trans hk3.symm
   have e : k = k0 := getD_inj hnd (by ((try simp only [nc] at *); omega)) hk2 he
   subst e
   show w64 ((k : Int) + 1) = p
   rw [hk1, w64_of (by ((try simp only [nc] at *); omega)) (by ((try simp only [nc] at *); omega))]
  ·refine ⟨by ((try simp only [nc] at *); omega), ?_⟩
   rcases Nat.lt_or_ge k k0 with hlt | hge
   ·omega
   ·exfalso
    have : k = k0 := by omega
    subst this
    rw [hk3] at h_s
    simp at h_s
  ·push_cast; rfl
  ·exfalso; ((try simp only [nc] at *); omega)
theorem wrf_ok (g : Gr) (h : GOk g) (a b : Nat) (ha : a < nG g) (hb : b < nG g) : Pure Tryz.prog γ false 127 [pW g, .i fun _ => (a : Int), .i fun _ => (b : Int)] (.b fun _ => rfM (viewG g) a b) := by
 have k := wfrom_ok (γ := γ) g h b hb
 refine Pure.go (ty := ty) ty_eq mo Tryz.func127 rfl Tryz.ntmps127 Tryz.results127 Tryz.call127 (by simp) fun P C CQ D W F E hF => ?_
 cbv
 repeat' (first
  |((first|refine E.c (SCalls.of_le (k) ?_ ?_)|refine E.q (QCalls.of_le (k) ?_ ?_));(· (cbv;(try simp only [nc] at *);first|done|(simp;done)|(simp (disch:=(first|omega|(simp only [lnS];omega))) only [rdT,rdS,← hll,anT];first|done|omega|(refine ⟨?_,?_⟩<;>omega))|(simp (disch:=(first|omega|(simp only [lnS];omega))) [rdT,rdS,← hll];done)));cbv)
  |(refine ⟨fun _ h_s=>?_,fun _ h_s=>?_⟩<;>(cbv;(try simp only [nc] at *);try simp (disch:=(first|omega|(simp only [lnS];omega))) only [rdT,rdS,← hll,reduceCtorEq,trT] at h_s))
  |(refine hF ?_;intro _;clear hF)
  |(refine hF ?_;cbv;clear hF)
  |(refine ⟨fun _=>?_,?_⟩;(· ((try simp only [nc] at *);first|done|omega|exact ⟨by omega,rfl⟩|(simp (disch:=(first|omega|(simp only [lnS];omega))) only [rdT,rdS,← hll];first|done|omega|rfl|exact ⟨by omega,rfl⟩|(simp;done)|(simp;omega))|(intros;trivial)));(try (simp only [nc] at *));(try simp (disch:=(first|omega|(simp only [lnS];omega))) only [rdT,rdS,← hll]);(try cbv))
  | fail
 )
 all_goals (try simp only [nc] at *)
 all_goals (try simp (disch:=(first|omega|(simp only [lnS];omega))) only [rdT,rdS,← hll])
 all_goals (try simp only [rfM])
end Go.AL.Rl

namespace Go.AL.Rl
open Go Go.AL Go.Proofs
set_option maxRecDepth 100000
set_option maxHeartbeats 1600000
variable {γ : Nat → Option AV}

theorem co_eq {g : Gr} (h : GOk g) (a b : Nat) (ha : a < nG g) (hb : b < nG g) : coM (viewG g) a b = (writesM ((viewG g).ev.getD a ev0) && writesM ((viewG g).ev.getD b ev0) && decide (((viewG g).ev.getD a ev0).loc = ((viewG g).ev.getD b ev0).loc) && decide ((viewG g).pl.getD a 0 < (viewG g).pl.getD b 0)) := by
 rw [Bool.eq_iff_iff]
 unfold coM
 simp only [Bool.and_eq_true, decide_eq_true_eq, pl_iff h a ha]
 constructor
 ·rintro ⟨⟨h1, h2⟩, h3⟩
  have p1 := (pl_iff h a ha).2 h1
  refine ⟨⟨⟨h1, (pl_iff h b hb).1 (by omega)⟩, ?_⟩, h3⟩
  unfold nearM at h2
  simp only [Bool.and_eq_true, decide_eq_true_eq] at h2
  exact h2.2
 ·rintro ⟨⟨⟨h1, h2⟩, h3⟩, h4⟩
  exact ⟨⟨h1, near_of (notFence_w h1) (notFence_w h2) h3⟩, h4⟩
theorem fr_eq {g : Gr} (h : GOk g) (a b : Nat) (ha : a < nG g) : frM (viewG g) a b = (decide (a ≠ b) && readsM ((viewG g).ev.getD a ev0) && coM (viewG g) ((viewG g).fr.getD a 0).toNat b) := by
 unfold frM
 congr 2
 rw [Bool.eq_iff_iff, decide_eq_true_eq, fr_iff h a ha]
theorem wco_ok (g : Gr) (hg : Rd g) (h : GOk g) (a b : Nat) (ha : a < nG g) (hb : b < nG g) : Pure Tryz.prog γ false 128 [pW g, .i fun _ => (a : Int), .i fun _ => (b : Int)] (.b fun _ => coM (viewG g) a b) := by
 have h1 := evsG_l g
 have q1 := wwrites_ok (γ := γ) g a ha
 have q2 := wwrites_ok (γ := γ) g b hb
 have q3 := wplace_ok (γ := γ) g hg h a ha
 have q4 := wplace_ok (γ := γ) g hg h b hb
 rw [co_eq h a b ha hb]
 obtain ⟨wa, hwa⟩ : ∃ w, w = writesM ((viewG g).ev.getD a ev0) := ⟨_, rfl⟩
 obtain ⟨wb, hwb⟩ : ∃ w, w = writesM ((viewG g).ev.getD b ev0) := ⟨_, rfl⟩
 rw [← hwa] at q1 q3 ⊢
 rw [← hwb] at q2 q4 ⊢
 show Pure _ _ _ _ _ (.b fun _ => wa && wb && decide (((evsG g).getD a ev0).loc = ((evsG g).getD b ev0).loc) && decide ((viewG g).pl.getD a 0 < (viewG g).pl.getD b 0))
 generalize (viewG g).pl.getD a 0 = pa at *
 generalize (viewG g).pl.getD b 0 = pb at *
 refine Pure.go (ty := ty) ty_eq mo Tryz.func128 rfl Tryz.ntmps128 Tryz.results128 Tryz.call128 (by simp) fun P C CQ D W F E hF => ?_
 cbv
 repeat' (first
  |((first|refine E.c (SCalls.of_le (q4 (by assumption)) ?_ ?_)|refine E.q (QCalls.of_le (q4 (by assumption)) ?_ ?_));(· (cbv;(try simp only [nc] at *);first|done|(simp;done)|(simp (disch:=(first|omega|(simp only [lnS];omega))) only [rdT,rdS,anT];first|done|omega|(refine ⟨?_,?_⟩<;>omega))|(simp (disch:=(first|omega|(simp only [lnS];omega))) [rdT,rdS];done)));cbv)
  |((first|refine E.c (SCalls.of_le (q3 (by assumption)) ?_ ?_)|refine E.q (QCalls.of_le (q3 (by assumption)) ?_ ?_));(· (cbv;(try simp only [nc] at *);first|done|(simp;done)|(simp (disch:=(first|omega|(simp only [lnS];omega))) only [rdT,rdS,anT];first|done|omega|(refine ⟨?_,?_⟩<;>omega))|(simp (disch:=(first|omega|(simp only [lnS];omega))) [rdT,rdS];done)));cbv)
  |((first|refine E.c (SCalls.of_le (q2) ?_ ?_)|refine E.q (QCalls.of_le (q2) ?_ ?_));(· (cbv;(try simp only [nc] at *);first|done|(simp;done)|(simp (disch:=(first|omega|(simp only [lnS];omega))) only [rdT,rdS,anT];first|done|omega|(refine ⟨?_,?_⟩<;>omega))|(simp (disch:=(first|omega|(simp only [lnS];omega))) [rdT,rdS];done)));cbv)
  |((first|refine E.c (SCalls.of_le (q1) ?_ ?_)|refine E.q (QCalls.of_le (q1) ?_ ?_));(· (cbv;(try simp only [nc] at *);first|done|(simp;done)|(simp (disch:=(first|omega|(simp only [lnS];omega))) only [rdT,rdS,anT];first|done|omega|(refine ⟨?_,?_⟩<;>omega))|(simp (disch:=(first|omega|(simp only [lnS];omega))) [rdT,rdS];done)));cbv)
  |(refine ⟨fun _ h_s=>?_,fun _ h_s=>?_⟩<;>(cbv;(try simp only [nc] at *);try simp (disch:=(first|omega|(simp only [lnS];omega))) only [rdT,rdS,reduceCtorEq,trT] at h_s))
  |(refine hF ?_;intro _;clear hF)
  |(refine hF ?_;cbv;clear hF)
  |(refine ⟨fun _=>?_,?_⟩;(· ((try simp only [nc] at *);first|done|omega|exact ⟨by omega,rfl⟩|(simp (disch:=(first|omega|(simp only [lnS];omega))) only [rdT,rdS];first|done|omega|rfl|exact ⟨by omega,rfl⟩|(simp;done)|(simp;omega))|(intros;trivial)));(try (simp only [nc] at *));(try simp (disch:=(first|omega|(simp only [lnS];omega))) only [rdT,rdS]);(try cbv))
  |(refine E.d 33 (by decide +kernel) ?_;cbv;(fail_if_success guard_target =~ False))
  | fail
 )
 all_goals (try simp only [nc] at *)
 all_goals (try simp (disch:=(first|omega|(simp only [lnS];omega))) only [rdT,rdS])
 all_goals clear q1 q2 q3 q4
 all_goals simp_all
theorem wfr_ok (g : Gr) (hg : Rd g) (h : GOk g) (a b : Nat) (ha : a < nG g) (hb : b < nG g) : Pure Tryz.prog γ false 129 [pW g, .i fun _ => (a : Int), .i fun _ => (b : Int)] (.b fun _ => frM (viewG g) a b) := by
 have q1 := wreads_ok (γ := γ) g a ha
 have q2 := wfrom_ok (γ := γ) g h a ha
 have hi := fr_iff h a ha
 have hl := (viewG_wf h).frl a ha
 have q3 := fun h0 : 0 ≤ (viewG g).fr.getD a 0 => wco_ok (γ := γ) g hg h ((viewG g).fr.getD a 0).toNat b (by omega) hb
 rw [fr_eq h a b ha]
 obtain ⟨c, hc⟩ : ∃ c, c = coM (viewG g) ((viewG g).fr.getD a 0).toNat b := ⟨_, rfl⟩
 rw [← hc] at q3 ⊢
 obtain ⟨r, hr⟩ : ∃ w, w = readsM ((viewG g).ev.getD a ev0) := ⟨_, rfl⟩
 rw [← hr] at q1 hi ⊢
 generalize (viewG g).fr.getD a 0 = f at *
 have q4 : r = true → Pure Tryz.prog γ false 128 [pW g, .i fun _ => f, .i fun _ => (b : Int)] (.b fun _ => c) := fun hr => by
  have := q3 (hi.2 hr)
  rwa [Int.toNat_of_nonneg (hi.2 hr)] at this
 refine Pure.go (ty := ty) ty_eq mo Tryz.func129 rfl Tryz.ntmps129 Tryz.results129 Tryz.call129 (by simp) fun P C CQ D W F E hF => ?_
 cbv
 repeat' (first
  |(refine E.c (SCalls.of_le (q4 (by assumption)) ?_ ?_);(· (cbv;(try simp only [nc] at *);first|done|(simp;done)|(simp (disch:=(first|omega|(simp only [lnS];omega))) only [rdT,rdS,anT];first|done|omega|(refine ⟨?_,?_⟩<;>omega))|(simp (disch:=(first|omega|(simp only [lnS];omega))) [rdT,rdS];done)));cbv)
  |(refine E.c (SCalls.of_le (q2) ?_ ?_);(· (cbv;(try simp only [nc] at *);first|done|(simp;done)|(simp (disch:=(first|omega|(simp only [lnS];omega))) only [rdT,rdS,anT];first|done|omega|(refine ⟨?_,?_⟩<;>omega))|(simp (disch:=(first|omega|(simp only [lnS];omega))) [rdT,rdS];done)));cbv)
  |(refine E.c (SCalls.of_le (q1) ?_ ?_);(· (cbv;(try simp only [nc] at *);first|done|(simp;done)|(simp (disch:=(first|omega|(simp only [lnS];omega))) only [rdT,rdS,anT];first|done|omega|(refine ⟨?_,?_⟩<;>omega))|(simp (disch:=(first|omega|(simp only [lnS];omega))) [rdT,rdS];done)));cbv)
  |(refine ⟨fun _ h_s=>?_,fun _ h_s=>?_⟩<;>(cbv;(try simp only [nc] at *);try simp (disch:=(first|omega|(simp only [lnS];omega))) only [rdT,rdS,reduceCtorEq,trT] at h_s))
  |(refine hF ?_;intro _;clear hF)
  |(refine hF ?_;cbv;clear hF)
  |(refine ⟨fun _=>?_,?_⟩;(· ((try simp only [nc] at *);first|done|omega|exact ⟨by omega,rfl⟩|(simp (disch:=(first|omega|(simp only [lnS];omega))) only [rdT,rdS];first|done|omega|rfl|exact ⟨by omega,rfl⟩|(simp;done)|(simp;omega))|(intros;trivial)));(try (simp only [nc] at *));(try simp (disch:=(first|omega|(simp only [lnS];omega))) only [rdT,rdS]);(try cbv))
  | fail
 )
 all_goals (try simp only [nc] at *)
 all_goals (try simp (disch:=(first|omega|(simp only [lnS];omega))) only [rdT,rdS])
 all_goals clear q1 q2 q3 q4
 all_goals (have e : ((a : Int) = b) ↔ a = b := Int.ofNat_inj; simp_all)
end Go.AL.Rl

namespace Go.AL.Rl
open Go Go.AL Go.Proofs
set_option maxRecDepth 100000
set_option maxHeartbeats 1600000
variable {γ : Nat → Option AV}

end Go.AL.Rl

namespace Go.AL.Rl
open Go Go.AL Go.Proofs
set_option maxRecDepth 100000
set_option maxHeartbeats 1600000
variable {γ : Nat → Option AV}

def closedTo (V : Vw) (s : BitVec 64) (i : Nat) : Prop := ∀ j < i, (V.ev.getD j ev0).kind = 3 → s.getLsbD (V.fr.getD j 0).toNat = true → s.getLsbD j = true
theorem mod2_bit0 (x : BitVec 64) (i : Nat) : (x >>> i) % BitVec.ofInt 64 2 = 0#64 ↔ x.getLsbD i = false := by
 rw [← BitVec.toNat_inj, BitVec.toNat_umod, BitVec.toNat_ushiftRight, BitVec.getLsbD, Nat.testBit_eq_decide_div_mod_eq, decide_eq_false_iff_not, Nat.shiftRight_eq_div_pow]
 show x.toNat / 2 ^ i % 2 = 0 ↔ ¬ x.toNat / 2 ^ i % 2 = 1
 omega
theorem wsequence_ok (g : Gr) (h : GOk g) (w : Nat) (hw : w < nG g) : Pure Tryz.prog γ false 135 [pW g, .i fun _ => (w : Int)] (.u fun _ => seqM (viewG g) (nG g) w) := by
 have hn := (viewG_wf h).small
 have h64 : nG g ≤ 64 := by omega
 have hbw := bofInt (k := w) (by omega)
 have ew : w % 18446744073709551616 = w := Nat.mod_eq_of_lt (by omega)
 have hEl := evsG_l g
 have hVl : (viewG g).ev = evsG g := rfl
 have hfrom := fun i hi => wfrom_ok (γ := γ) g h i hi
 have hfr0 := fun i hi => fr_iff h i hi
 have hfrl := (viewG_wf h).frl
 refine Pure.go (ty := ty) ty_eq mo Tryz.func135 rfl Tryz.ntmps135 Tryz.results135 Tryz.call135 (by simp) fun P C CQ D W F E hF => ?_
 cbv
 repeat' (first
  |(refine ⟨fun _ h_s=>?_,fun _ h_s=>?_⟩<;>(cbv;(try simp only [nc] at *);try simp (disch:=(first|omega|(simp only [lnS];omega))) only [rdT,rdS,reduceCtorEq,trT] at h_s))
  |(refine hF ?_;intro _;clear hF)
  |(refine hF ?_;cbv;clear hF)
  |(refine ⟨fun _=>?_,?_⟩;(· ((try simp only [nc] at *);first|done|omega|exact ⟨by omega,rfl⟩|(simp (disch:=(first|omega|(simp only [lnS];omega))) only [rdT,rdS];first|done|omega|rfl|exact ⟨by omega,rfl⟩|(simp;done)|(simp;omega))|(intros;trivial)));(try (simp only [nc] at *));(try simp (disch:=(first|omega|(simp only [lnS];omega))) only [rdT,rdS]);(try cbv))
  | fail
 )
 refine E.loopS (ι:=BitVec 64 × Bool) (fun q=>q.1.getLsbD w = true∧(∀ j,q.1.getLsbD j = true → InSeq (viewG g) (nG g) w j)∧(q.2 = false → closedTo (viewG g) q.1 (nG g))) (fun q=>2 * (64 - cntB 64 q.1) + if q.2 = true then 1 else 0) (fun q=>[(5,.u fun _=>q.1),(6,.b fun _=>q.2)]) (fun q h=>h) (1#64 <<< w,true) (fun _=>rfl) ?_ ?_ fun q hq I hI=>?_
 ·refine ⟨?_, fun j hj => ?_, fun hf => by cases hf⟩
  ·simp only; rw [BitVec.getLsbD_shiftLeft, BitVec.getLsbD_one]; simp; omega
  ·simp only at hj
   rw [BitVec.getLsbD_shiftLeft, BitVec.getLsbD_one] at hj
   simp at hj
   obtain rfl : j = w := by omega
   exact .base
 ·cbv
  simp only [hbw, bof0, bof1]
  simp
 obtain ⟨s, ag⟩ := q
 obtain ⟨hq1, hq2, hq3⟩ := hq
 simp only at hq1 hq2 hq3
 cbv
 repeat' (first
  |(refine ⟨fun _ h_s=>?_,fun _ h_s=>?_⟩<;>(cbv;(try simp only [nc] at *);try simp (disch:=(first|omega|(simp only [lnS];omega))) only [rdT,rdS,reduceCtorEq,trT] at h_s))
  |(refine hF ?_;intro _;clear hF)
  |(refine hF ?_;cbv;clear hF)
  |(refine ⟨fun _=>?_,?_⟩;(· ((try simp only [nc] at *);first|done|omega|exact ⟨by omega,rfl⟩|(simp (disch:=(first|omega|(simp only [lnS];omega))) only [rdT,rdS];first|done|omega|rfl|exact ⟨by omega,rfl⟩|(simp;done)|(simp;omega))|(intros;trivial)));(try (simp only [nc] at *));(try simp (disch:=(first|omega|(simp only [lnS];omega))) only [rdT,rdS]);(try cbv))
  | fail
 )
 ·have hag : ag = true := by simpa using h_s
  subst hag
  refine E.loopS (ι:=Nat × BitVec 64 × Bool) (fun p=>p.1≤nG g∧p.2.1.getLsbD w = true∧(∀ j,s.getLsbD j = true → p.2.1.getLsbD j = true)∧(∀ j,p.2.1.getLsbD j = true → InSeq (viewG g) (nG g) w j)∧(p.2.2 = false → p.2.1 = s∧closedTo (viewG g) s p.1)∧(p.2.2 = true → p.2.1 ≠ s)) (fun p=>nG g - p.1) (fun p=>[(5,.u fun _=>p.2.1),(6,.b fun _=>p.2.2),(7,.i fun _=>((p.1 : Nat) : Int))]) (fun p h=>h) (0,s,false) (fun _=>rfl) ?_ ?_ fun p hp I2 hI2=>?_
  ·exact ⟨Nat.zero_le _, hq1, fun _ h => h, hq2, fun _ => ⟨rfl, fun j hj => absurd hj (Nat.not_lt_zero j)⟩, fun hf => by cases hf⟩
  ·cbv; simp
  obtain ⟨i, t, b⟩ := p
  obtain ⟨hp0, hp1, hp2, hp3, hp4, hp5⟩ := hp
  simp only at hp0 hp1 hp2 hp3 hp4 hp5
  cbv
  have kf := hfrom i
  have hbi := bofInt (k := i) (by omega)
  have eim : i % 18446744073709551616 = i := Nat.mod_eq_of_lt (by omega)
  have hstep : i < nG g → ((viewG g).ev.getD i ev0).kind = 3 → t.getLsbD ((viewG g).fr.getD i 0).toNat = true → InSeq (viewG g) (nG g) w i := fun h1 h2 h3 => .step h1 h2 (hp3 _ h3)
  have hnext : i < nG g → (((viewG g).ev.getD i ev0).kind = 3 → t.getLsbD i = false → t.getLsbD ((viewG g).fr.getD i 0).toNat = false) → (i + 1 ≤ nG g ∧ t.getLsbD w = true ∧ (∀ j, s.getLsbD j = true → t.getLsbD j = true) ∧ (∀ j, t.getLsbD j = true → InSeq (viewG g) (nG g) w j) ∧ (b = false → t = s ∧ closedTo (viewG g) s (i + 1)) ∧ (b = true → t ≠ s)) := fun h1 h2 => by
   refine ⟨h1, hp1, hp2, hp3, fun hb => ⟨(hp4 hb).1, fun j hj hk hs => ?_⟩, hp5⟩
   rcases Nat.lt_or_ge j i with hji | hji
   ·exact (hp4 hb).2 j hji hk hs
   ·have : j = i := by omega
    subst this
    cases hc : s.getLsbD j with
    | true => rfl
    | false =>
     have e := (hp4 hb).1
     have := h2 hk (by rw [e]; exact hc)
     rw [e, hs] at this; cases this
  repeat' (first
   |(refine E.c (SCalls.of_le (kf (by ((try simp only [nc] at *);omega))) ?_ ?_);(· (cbv;(try simp only [nc] at *);first|done|(simp;done)|(simp (disch:=(first|omega|(simp only [lnS];omega))) only [rdT,rdS,anT];first|done|omega|(refine ⟨?_,?_⟩<;>omega))|(simp (disch:=(first|omega|(simp only [lnS];omega))) [rdT,rdS];done)));cbv)
   |(refine ⟨fun _ h_s=>?_,fun _ h_s=>?_⟩<;>(cbv;(try simp only [nc] at *);try simp (disch:=(first|omega|(simp only [lnS];omega))) only [rdT,rdS,reduceCtorEq,trT] at h_s))
   |(refine hF ?_;intro _;clear hF)
   |(refine hF ?_;cbv;clear hF)
   |(refine ⟨fun _=>?_,?_⟩;(· ((try simp only [nc] at *);first|done|omega|exact ⟨by omega,rfl⟩|(simp (disch:=(first|omega|(simp only [lnS];omega))) only [rdT,rdS];first|done|omega|rfl|exact ⟨by omega,rfl⟩|(simp;done)|(simp;omega))|(intros;trivial)));(try (simp only [nc] at *));(try simp (disch:=(first|omega|(simp only [lnS];omega))) only [rdT,rdS]);(try cbv))
   | fail
  )
  ·have hk3 : ((viewG g).ev.getD i ev0).kind = 3 := by assumption
   have hin : i < nG g := by ((try simp only [nc] at *); omega)
   have hf0 : 0 ≤ (viewG g).fr.getD i 0 := (hfr0 i hin).2 (by unfold readsM; rw [hk3]; rfl)
   have hb0 : t.getLsbD i = false := (mod2_bit0 t i).1 (by assumption)
   rw [bofZ hf0 (by have := hfrl i hin; omega), mod2_bit] at h_s
   have hbit : ∀ j, (t ||| 1#64 <<< i).getLsbD j = (t.getLsbD j || (1#64 <<< i).getLsbD j) := fun j => BitVec.getLsbD_or
   have hii : (1#64 <<< i).getLsbD i = true := by rw [one_shl_bit i i (by omega)]; simp
   refine hI2 (i + 1, t ||| 1#64 <<< i, true) ⟨hin, ?_, fun j hj => ?_, fun j hj => ?_, fun hf => (by cases hf), fun _ he => ?_⟩ (by simp only; omega) ?_
   ·simp only; rw [hbit, hp1]; rfl
   ·simp only; rw [hbit, hp2 j hj]; rfl
   ·simp only at hj
    rw [hbit, Bool.or_eq_true] at hj
    rcases hj with hj | hj
    ·exact hp3 j hj
    ·have hj64 : j < 64 := by
      rcases Nat.lt_or_ge j 64 with h' | h'
      ·exact h'
      ·rw [BitVec.getLsbD_of_ge _ _ h'] at hj; cases hj
     rw [one_shl_bit i j hj64] at hj
     have : i = j := by simpa using hj
     subst this
     exact hstep hin hk3 h_s
   ·simp only at he
    have h1 : s.getLsbD i = true := by rw [← he, hbit, hii]; simp
    rw [hp2 i h1] at hb0; cases hb0
   ·cbv
    clear hI hI2 kf hfrom
    have e := w64_of (n := (i : Int) + 1) (by omega) (by omega)
    (try simp only [nc] at *)
    simp [e, ew, eim]
  ·have hin : i < nG g := by ((try simp only [nc] at *); omega)
   refine hI2 (i + 1, t, b) (hnext hin fun hk3 hb0 => ?_) (by simp only; omega) ?_
   ·have hf0 : 0 ≤ (viewG g).fr.getD i 0 := (hfr0 i hin).2 (by unfold readsM; rw [hk3]; rfl)
    rw [bofZ hf0 (by have := hfrl i hin; omega), mod2_bit] at h_s
    simpa using h_s
   ·cbv
    clear hI hI2 kf hfrom
    have e := w64_of (n := (i : Int) + 1) (by omega) (by omega)
    (try simp only [nc] at *)
    simp [e, ew, eim]
  ·have hin : i < nG g := by ((try simp only [nc] at *); omega)
   refine hI2 (i + 1, t, b) (hnext hin fun hk3 hb0 => ?_) (by simp only; omega) ?_
   ·exfalso
    exact h_s ((mod2_bit0 t i).2 hb0)
   ·cbv
    clear hI hI2 kf hfrom
    have e := w64_of (n := (i : Int) + 1) (by omega) (by omega)
    (try simp only [nc] at *)
    simp [e, ew, eim]
  ·have hin : i < nG g := by ((try simp only [nc] at *); omega)
   refine hI2 (i + 1, t, b) (hnext hin fun hk3 hb0 => absurd hk3 h_s) (by simp only; omega) ?_
   cbv
   clear hI hI2 kf hfrom
   have e := w64_of (n := (i : Int) + 1) (by omega) (by omega)
   (try simp only [nc] at *)
   simp [e, ew, eim]
  ·have ei : i = nG g := by ((try simp only [nc] at *); omega)
   refine hI (t, b) ⟨hp1, hp3, fun hb => ?_⟩ ?_ ?_
   ·rw [(hp4 hb).1, ← ei]; exact (hp4 hb).2
   ·simp only
    have c1 := cntB_le s 64
    have c2 := cntB_le t 64
    cases b with
    | false => rw [(hp4 rfl).1]; simp
    | true => have := cntB_ne hp2 (Ne.symm (hp5 rfl)); simp; omega
   ·cbv
    clear hI hI2 kf hfrom
    simp [ew]
 ·have hag : ag = false := by simpa using h_s
  exact seq_unique h64 hw hq1 hq2 (hq3 hag)
end Go.AL.Rl

namespace Go.AL.Rl
open Go Go.AL Go.Proofs
set_option maxRecDepth 100000
set_option maxHeartbeats 1600000
variable {γ : Nat → Option AV}

end Go.AL.Rl

namespace Go.AL.Rl
open Go Go.AL Go.Proofs
set_option maxRecDepth 100000
set_option maxHeartbeats 1600000

def flC (c : Nat → Bool) (f : Nat → List (Int × Int)) (k : Nat) : List (Int × Int) := (List.range k).flatMap fun i => if c i = true then f i else []
theorem flC_zero (c : Nat → Bool) (f : Nat → List (Int × Int)) : flC c f 0 = [] := rfl
theorem flC_yes {c : Nat → Bool} (f : Nat → List (Int × Int)) {k : Nat} (h : c k = true) : flC c f (k + 1) = flC c f k ++ f k := by
 unfold flC; rw [List.range_succ, List.flatMap_append]; simp [h]
theorem flC_no {c : Nat → Bool} (f : Nat → List (Int × Int)) {k : Nat} (h : ¬ c k = true) : flC c f (k + 1) = flC c f k := by
 unfold flC; rw [List.range_succ, List.flatMap_append]; simp [h]
theorem flC_len (c : Nat → Bool) (f : Nat → List (Int × Int)) (m : Nat) (hf : ∀ i, (f i).length ≤ m) : ∀ k, (flC c f k).length ≤ k * m
 | 0 => by simp [flC]
 | k + 1 => by
  have ih := flC_len c f m hf k
  have := hf k
  rw [Nat.add_mul, Nat.one_mul]
  by_cases h : c k = true
  ·rw [flC_yes f h, List.length_append]; omega
  ·rw [flC_no f h]; omega
theorem flC_mem {c : Nat → Bool} {f : Nat → List (Int × Int)} {k : Nat} {q : Int × Int} : q ∈ flC c f k ↔ ∃ i < k, c i = true ∧ q ∈ f i := by
 unfold flC
 simp only [List.mem_flatMap, List.mem_range]
 constructor
 ·rintro ⟨i, hi, h⟩
  split at h
  ·exact ⟨i, hi, by assumption, h⟩
  ·cases h
 ·rintro ⟨i, hi, h1, h2⟩
  exact ⟨i, hi, by rw [if_pos h1]; exact h2⟩
def cwM (V : Vw) (w : Nat) : Bool := writesM (V.ev.getD w ev0) && decide ((V.ev.getD w ev0).order ≠ 1)
def crM (V : Vw) (w r : Nat) : Bool := relM (V.ev.getD r ev0) && (decide (r = w) || fenceM (V.ev.getD r ev0) && poM V r w)
def caM (V : Vw) (b a : Nat) : Bool := acqM (V.ev.getD a ev0) && (decide (a = b) || fenceM (V.ev.getD a ev0) && poM V b a)
theorem swR_cr (V : Vw) (w r : Nat) : swR V w r = (cwM V w && crM V w r) := by unfold swR cwM crM; simp only [Bool.and_assoc]
def lA (V : Vw) (b r a : Nat) : List (Int × Int) := flC (caM V b) (fun a => [((r : Int), (a : Int))]) a
def lR (V : Vw) (n w b r : Nat) : List (Int × Int) := flC (crM V w) (fun r => lA V b r n) r
noncomputable def lB (V : Vw) (n w b : Nat) : List (Int × Int) := flC (rdrM V (seqM V n w)) (fun b => lR V n w b n) b
noncomputable def lW (V : Vw) (n w : Nat) : List (Int × Int) := flC (cwM V) (fun w => lB V n w n) w
noncomputable def lAll (V : Vw) (n w b r a : Nat) : List (Int × Int) := lW V n w ++ lB V n w b ++ lR V n w b r ++ lA V b r a
theorem lA_len (V : Vw) (b r a : Nat) : (lA V b r a).length ≤ a := by have := flC_len (caM V b) (fun a => [((r : Int), (a : Int))]) 1 (fun _ => by simp) a; unfold lA; omega
theorem lR_len (V : Vw) (n w b r : Nat) : (lR V n w b r).length ≤ r * n := flC_len _ _ _ (fun _ => lA_len _ _ _ _) _
theorem lB_len (V : Vw) (n w b : Nat) : (lB V n w b).length ≤ b * (n * n) := flC_len _ _ _ (fun _ => lR_len _ _ _ _ _) _
theorem lW_len (V : Vw) (n w : Nat) : (lW V n w).length ≤ w * (n * (n * n)) := flC_len _ _ _ (fun _ => lB_len _ _ _ _) _
theorem lAll_len (V : Vw) (n w b r a : Nat) (hn : n ≤ 62) (hw : w ≤ n) (hb : b ≤ n) (hr : r ≤ n) (ha : a ≤ n) : (lAll V n w b r a).length ≤ 100000000 := by
 have h1 := lW_len V n w
 have h2 := lB_len V n w b
 have h3 := lR_len V n w b r
 have h4 := lA_len V b r a
 have e2 : n * n ≤ 62 * 62 := Nat.mul_le_mul hn hn
 have e3 : n * (n * n) ≤ 62 * (62 * 62) := Nat.mul_le_mul hn e2
 have f1 : w * (n * (n * n)) ≤ 62 * (62 * (62 * 62)) := Nat.mul_le_mul (by omega) e3
 have f2 : b * (n * n) ≤ 62 * (62 * 62) := Nat.mul_le_mul (by omega) e2
 have f3 : r * n ≤ 62 * 62 := Nat.mul_le_mul (by omega) hn
 unfold lAll
 simp only [List.length_append]
 omega
theorem lAll_a1 (V : Vw) (n w b r a : Nat) (h : caM V b a = true) : lAll V n w b r (a + 1) = lAll V n w b r a ++ [((r : Int), (a : Int))] := by
 unfold lAll lA; rw [flC_yes _ h]; simp only [List.append_assoc]
theorem lAll_a0 (V : Vw) (n w b r a : Nat) (h : ¬ caM V b a = true) : lAll V n w b r (a + 1) = lAll V n w b r a := by
 unfold lAll lA; rw [flC_no _ h]
theorem lAll_r1 (V : Vw) (n w b r : Nat) (h : crM V w r = true) : lAll V n w b (r + 1) 0 = lAll V n w b r n := by
 unfold lAll lR; rw [flC_yes _ h]; simp only [List.append_assoc]; simp [lA, flC_zero]
theorem lAll_r0 (V : Vw) (n w b r : Nat) (h : ¬ crM V w r = true) : lAll V n w b (r + 1) 0 = lAll V n w b r 0 := by
 unfold lAll lR; rw [flC_no _ h]; simp [lA, flC_zero]
theorem lAll_b1 (V : Vw) (n w b : Nat) (h : rdrM V (seqM V n w) b = true) : lAll V n w (b + 1) 0 0 = lAll V n w b n 0 := by
 unfold lAll lB; rw [flC_yes _ h]; simp [lA, lR, flC_zero]
theorem lAll_b0 (V : Vw) (n w b : Nat) (h : ¬ rdrM V (seqM V n w) b = true) : lAll V n w (b + 1) 0 0 = lAll V n w b 0 0 := by
 unfold lAll lB; rw [flC_no _ h]; simp [lA, lR, flC_zero]
theorem lAll_w1 (V : Vw) (n w : Nat) (h : cwM V w = true) : lAll V n (w + 1) 0 0 0 = lAll V n w n 0 0 := by
 unfold lAll lW; rw [flC_yes _ h]; simp [lA, lR, lB, flC_zero]
theorem lAll_w0 (V : Vw) (n w : Nat) (h : ¬ cwM V w = true) : lAll V n (w + 1) 0 0 0 = lAll V n w 0 0 0 := by
 unfold lAll lW; rw [flC_no _ h]; simp [lA, lR, lB, flC_zero]
theorem lAll_mem (V : Vw) (n : Nat) (q : Int × Int) : q ∈ lAll V n n 0 0 0 ↔ ∃ w < n, cwM V w = true ∧ ∃ b < n, rdrM V (seqM V n w) b = true ∧ ∃ r < n, crM V w r = true ∧ ∃ a < n, caM V b a = true ∧ q = ((r : Int), (a : Int)) := by
 have e : lAll V n n 0 0 0 = lW V n n := by unfold lAll; simp [lA, lR, lB, flC_zero]
 rw [e]
 unfold lW; rw [flC_mem]
 refine exists_congr fun w => and_congr_right fun _ => and_congr_right fun _ => ?_
 unfold lB; rw [flC_mem]
 refine exists_congr fun b => and_congr_right fun _ => and_congr_right fun _ => ?_
 unfold lR; rw [flC_mem]
 refine exists_congr fun r => and_congr_right fun _ => and_congr_right fun _ => ?_
 unfold lA; rw [flC_mem]
 refine exists_congr fun a => and_congr_right fun _ => and_congr_right fun _ => ?_
 simp
theorem rowT_bit (V : Vw) (n r a : Nat) : ∀ w, (rowT V n w r).getLsbD a = true ↔ ∃ v < w, swR V v r = true ∧ (tgtM V n v).getLsbD a = true
 | 0 => by simp [rowT]
 | w + 1 => by
  have ih := rowT_bit V n r a w
  unfold rowT
  constructor
  ·intro h
   split at h
   ·rw [BitVec.getLsbD_or, Bool.or_eq_true] at h
    rcases h with h | h
    ·obtain ⟨v, hv, h1, h2⟩ := ih.1 h; exact ⟨v, by omega, h1, h2⟩
    ·exact ⟨w, by omega, by assumption, h⟩
   ·obtain ⟨v, hv, h1, h2⟩ := ih.1 h; exact ⟨v, by omega, h1, h2⟩
  ·rintro ⟨v, hv, h1, h2⟩
   by_cases hvw : v = w
   ·subst hvw
    rw [if_pos h1, BitVec.getLsbD_or, h2, Bool.or_true]
   ·have h3 := ih.2 ⟨v, by omega, h1, h2⟩
    split
    ·rw [BitVec.getLsbD_or, h3]; rfl
    ·exact h3
theorem ne0_bit (x : BitVec 64) : x ≠ 0#64 ↔ ∃ j, x.getLsbD j = true := by
 constructor
 ·intro h
  refine Classical.byContradiction fun hc => h (BitVec.eq_of_getLsbD_eq fun i hi => ?_)
  cases hx : x.getLsbD i with
  | true => exact absurd ⟨i, hx⟩ hc
  | false => simp
 ·rintro ⟨j, hj⟩ h
  subst h; simp at hj
theorem tgt_bit (V : Vw) (n w a : Nat) (hn : n ≤ 62) : (tgtM V n w).getLsbD a = true ↔ a < n ∧ ∃ b < n, rdrM V (seqM V n w) b = true ∧ caM V b a = true := by
 unfold tgtM
 rw [mask_bit _ _ (by omega)]
 simp only [Bool.and_eq_true, decide_eq_true_eq, behM, Bool.or_eq_true, ne0_bit, BitVec.getLsbD_and, mask_bit _ _ (show n ≤ 64 by omega), caM]
 constructor
 ·rintro ⟨h1, h2, ⟨h3, h4⟩ | ⟨h3, j, ⟨h4, h5⟩, h6, h7⟩⟩
  ·exact ⟨h1, a, h3, h4, h2, .inl rfl⟩
  ·exact ⟨h1, j, h4, h5, h2, .inr ⟨h3, h7⟩⟩
 ·rintro ⟨h1, b, h2, h3, h4, h5 | ⟨h5, h6⟩⟩
  ·subst h5; exact ⟨h1, h4, .inl ⟨h2, h3⟩⟩
  ·exact ⟨h1, h4, .inr ⟨h5, b, ⟨h2, h3⟩, h2, h6⟩⟩
theorem ofTo_sw (V : Vw) (n : Nat) (hn : n ≤ 62) : ofTo n (lAll V n n 0 0 0) (lAll V n n 0 0 0).length = swF V n := by
 unfold swF
 refine rowsEq (n := n) (by rw [ofTo_len]; simp) (relRows_len n _) fun i j => ?_
 rw [bit_ofTo n (by omega) _ (fun q hq => by
  obtain ⟨_, _, _, _, _, _, r, hr, _, a, ha, _, he⟩ := (lAll_mem V n q).1 hq
  exact ⟨r, hr, a, ha, he⟩) i j _ (Nat.le_refl _), List.take_length, bit_rel (by omega), Bool.eq_iff_iff, decide_eq_true_iff, lAll_mem]
 by_cases hi : i < n
 ·have e : bit (swRows V n) i j = (rowT V n n i).getLsbD j := by unfold bit swRows; rw [tab_get n _ i hi]
  simp only [Bool.and_eq_true, decide_eq_true_eq, Prod.mk.injEq, Int.ofNat_inj, hi, true_and, e, rowT_bit, tgt_bit V n _ _ hn, swR_cr]
  constructor
  ·rintro ⟨w, hw, h1, b, hb, h2, r, hr, h3, a, ha, h4, h5, h6⟩
   subst h5; subst h6
   exact ⟨ha, w, hw, ⟨h1, h3⟩, ha, b, hb, h2, h4⟩
  ·rintro ⟨_, w, hw, ⟨h1, h3⟩, ha, b, hb, h2, h4⟩
   exact ⟨w, hw, h1, b, hb, h2, i, hi, h3, j, ha, h4, rfl, rfl⟩
 ·simp only [hi, decide_false, Bool.false_and, Bool.false_eq_true, iff_false]
  rintro ⟨w, hw, h1, b, hb, h2, r, hr, h3, a, ha, h4, h5⟩
  simp only [Prod.mk.injEq, Int.ofNat_inj] at h5
  omega
end Go.AL.Rl

namespace Go.AL.Rl
open Go Go.AL Go.Proofs
set_option maxRecDepth 100000
set_option maxHeartbeats 3200000

structure Emb (V U : Vw) (n m : Nat) (f : Nat → Nat) : Prop where
 lt : ∀ i < n, f i < m
 inj : ∀ i < n, ∀ j < n, f i = f j → i = j
 ids : ∀ i < n, U.ids.getD (f i) id0 = V.ids.getD i id0
 ev : ∀ i < n, U.ev.getD (f i) ev0 = V.ev.getD i ev0
 fr : ∀ i < n, ∀ j < n, V.fr.getD i 0 = (j : Nat) → U.fr.getD (f i) 0 = (f j : Nat)
 pl : ∀ i < n, ∀ j < n, nearM V i j = true → 0 ≤ V.pl.getD i 0 → V.pl.getD i 0 < V.pl.getD j 0 → 0 ≤ U.pl.getD (f i) 0 ∧ U.pl.getD (f i) 0 < U.pl.getD (f j) 0
 upd : ∀ i < n, (V.ev.getD i ev0).kind = 3 → U.pl.getD (f i) 0 = U.pl.getD (U.fr.getD (f i) 0).toNat 0 + 1 → V.pl.getD i 0 = V.pl.getD (V.fr.getD i 0).toNat 0 + 1
section
variable {V U : Vw} {n m : Nat} {f : Nat → Nat} (E : Emb V U n m f) (hV : Wf V n) (hU : Wf U m)
include E
include hV
include hU
omit E hV hU in
omit E hV in
end
end Go.AL.Rl

namespace Go.AL.Rl
open Go Go.AL Go.Proofs
set_option maxRecDepth 100000
set_option maxHeartbeats 3200000

section
variable {g : Gr} {l : List EId} (hg : GOk g) (hC : ClG g l)
include hg hC
end
end Go.AL.Rl

namespace Go.AL
open Go Go.RowKit
section
variable {P : Program} {γ : Nat → Option AV}

theorem HeapR.grow {B : Nat} {S : Nat → Prop} {ρ : List Loc} {h : List Blk} {w : World} (hh : HeapR B S γ ρ h w) (K : Nat) (hK : K < w.heap.size) (hB : B ≤ K) (hno : ∀ (b : Nat) (loc : Loc), ρ[b]? = some loc → loc.k ≠ some K) :
  HeapR B (fun k => S k ∨ k = K) γ ρ h w ∧ Ext B S ρ w (fun k => S k ∨ k = K) ρ w := by
 refine ⟨⟨hh.len, fun b blk loc h1 h2 => (hh.blk b blk loc h1 h2).mono (fun k hk => .inl hk) (fun _ _ => rfl) (LocsUp.refl ρ) fun _ _ => rfl, fun b loc k h1 h2 => ?_, hh.inj, fun k hk => ?_, fun g x hg => ?_, hh.bsz⟩,
  Fr.refl w, fun _ _ => rfl, fun k hk => .inl hk, fun _ _ => rfl, LocsUp.refl ρ, fun k hk => ?_⟩
 ·obtain ⟨k1, k2, k3⟩ := hh.own b loc k h1 h2
  refine ⟨fun hs => ?_, k2, k3⟩
  rcases hs with hs | hs
  ·exact k1 hs
  ·exact hno b loc h1 (by rw [h2, hs])
 ·rcases hk with hk | hk
  ·exact hh.sle k hk
  ·rw [hk]; exact hK
 ·exact R.mono (S := S) (fun k hk => .inl hk) (fun _ _ => rfl) (ρ := none) (ρ' := none) trivial _ _ (hh.gok g x hg)
 ·rcases hk with hk | hk
  ·exact .inl hk
  ·rw [hk]; exact .inr hB
end
end Go.AL

namespace Go.AL
open Go Go.RowKit
section
variable {P : Program} {γ : Nat → Option AV} {τ : Nat → TI} {C : EC}

end
section
variable {P : Program} {γ : Nat → Option AV}
end
end Go.AL

namespace Go.AL.Rl
open Go Go.AL Go.Proofs
set_option maxRecDepth 100000
set_option maxHeartbeats 3200000
variable {γ : Nat → Option AV}

theorem rEvent_ok (g : Gr) (hg : Rd g) (h : GOk g) (d : EId) : Pure Tryz.prog γ false 56 [aGr g, aId d] (.tup [aEv ((eventM g d).getD ev0), .b fun _ => (eventM g d).isSome]) := by
 have ke := revent_ok (γ := γ) g hg d
 have kc := check14_ok (γ := γ) g hg
 rw [gcheck0 h] at kc
 cases e : eventM g d with
 | some x =>
  rw [e] at ke
  simp only [Option.getD_some, Option.isSome_some] at ke ⊢
  refine Pure.go (ty := ty) ty_eq mo Tryz.func56 rfl Tryz.ntmps56 Tryz.results56 Tryz.call56 (by simp) fun P C CQ D W F E hF => ?_
  cbv
  repeat' (first
   |(refine E.c (SCalls.of_le (kc) ?_ ?_);(· (cbv;(try simp only [nc] at *);first|done|(simp;done)|(simp (disch:=(first|omega|(simp only [lnS];omega))) only [rdT,rdS,anT];first|done|omega|(refine ⟨?_,?_⟩<;>omega))|(simp (disch:=(first|omega|(simp only [lnS];omega))) [rdT,rdS];done)));cbv)
   |(refine E.c (SCalls.of_le (ke) ?_ ?_);(· (cbv;(try simp only [nc] at *);first|done|(simp;done)|(simp (disch:=(first|omega|(simp only [lnS];omega))) only [rdT,rdS,anT];first|done|omega|(refine ⟨?_,?_⟩<;>omega))|(simp (disch:=(first|omega|(simp only [lnS];omega))) [rdT,rdS];done)));cbv)
   |(refine ⟨fun _ h_s=>?_,fun _ h_s=>?_⟩<;>(cbv;(try simp only [nc] at *);try simp (disch:=(first|omega|(simp only [lnS];omega))) only [rdT,rdS,reduceCtorEq,trT] at h_s))
   |(refine hF ?_;intro _;clear hF)
   |(refine hF ?_;cbv;clear hF)
   |(refine ⟨fun _=>?_,?_⟩;(· ((try simp only [nc] at *);first|done|omega|exact ⟨by omega,rfl⟩|(simp (disch:=(first|omega|(simp only [lnS];omega))) only [rdT,rdS];first|done|omega|rfl|exact ⟨by omega,rfl⟩|(simp;done)|(simp;omega))|(intros;trivial)));(try (simp only [nc] at *));(try simp (disch:=(first|omega|(simp only [lnS];omega))) only [rdT,rdS]);(try cbv))
   | fail
  )
  all_goals first
   | (simp; done)
   | (exfalso; revert h_s; simp; done)
 | none =>
  rw [e] at ke
  simp only [Option.getD_none, Option.isSome_none] at ke ⊢
  refine Pure.go (ty := ty) ty_eq mo Tryz.func56 rfl Tryz.ntmps56 Tryz.results56 Tryz.call56 (by simp) fun P C CQ D W F E hF => ?_
  cbv
  repeat' (first
   |(refine E.c (SCalls.of_le (kc) ?_ ?_);(· (cbv;(try simp only [nc] at *);first|done|(simp;done)|(simp (disch:=(first|omega|(simp only [lnS];omega))) only [rdT,rdS,anT];first|done|omega|(refine ⟨?_,?_⟩<;>omega))|(simp (disch:=(first|omega|(simp only [lnS];omega))) [rdT,rdS];done)));cbv)
   |(refine E.c (SCalls.of_le (ke) ?_ ?_);(· (cbv;(try simp only [nc] at *);first|done|(simp;done)|(simp (disch:=(first|omega|(simp only [lnS];omega))) only [rdT,rdS,anT];first|done|omega|(refine ⟨?_,?_⟩<;>omega))|(simp (disch:=(first|omega|(simp only [lnS];omega))) [rdT,rdS];done)));cbv)
   |(refine ⟨fun _ h_s=>?_,fun _ h_s=>?_⟩<;>(cbv;(try simp only [nc] at *);try simp (disch:=(first|omega|(simp only [lnS];omega))) only [rdT,rdS,reduceCtorEq,trT] at h_s))
   |(refine hF ?_;intro _;clear hF)
   |(refine hF ?_;cbv;clear hF)
   |(refine ⟨fun _=>?_,?_⟩;(· ((try simp only [nc] at *);first|done|omega|exact ⟨by omega,rfl⟩|(simp (disch:=(first|omega|(simp only [lnS];omega))) only [rdT,rdS];first|done|omega|rfl|exact ⟨by omega,rfl⟩|(simp;done)|(simp;omega))|(intros;trivial)));(try (simp only [nc] at *));(try simp (disch:=(first|omega|(simp only [lnS];omega))) only [rdT,rdS]);(try cbv))
   | fail
  )
  all_goals first
   | (simp; done)
   | (exfalso; revert h_s; simp; done)
end Go.AL.Rl

namespace Go.AL.Rl
open Go Go.AL Go.Proofs
set_option maxRecDepth 100000
set_option maxHeartbeats 3200000
variable {γ : Nat → Option AV}

abbrev aGiven (n : Int) (po rf co fr : List (BitVec 64)) : AV := .agg [.i fun _ => n, .vs 1 fun _ => us po, .i fun _ => n, .vs 1 fun _ => us rf, .i fun _ => n, .vs 1 fun _ => us co, .i fun _ => n, .vs 1 fun _ => us fr]
theorem wgiven_ok (g : Gr) (hg : Rd g) (h : GOk g) : Pure Tryz.prog γ false 117 [pW g] (aGiven (nG g : Nat) (poF (viewG g) (nG g)) (rfF (viewG g) (nG g)) (coF (viewG g) (nG g)) (frF (viewG g) (nG g))) := by
 have hn := (viewG_wf h).small
 have c1 := fun a b => wpo_ok (γ := γ) g a b
 have c2 := fun a b => wrf_ok (γ := γ) g h a b
 have c3 := fun a b => wco_ok (γ := γ) g hg h a b
 have c4 := fun a b => wfr_ok (γ := γ) g hg h a b
 unfold poF rfF coF frF
 generalize poM (viewG g) = p1 at *
 generalize rfM (viewG g) = p2 at *
 generalize coM (viewG g) = p3 at *
 generalize frM (viewG g) = p4 at *
 obtain ⟨L, hL⟩ : ∃ L : (Nat → Nat → Bool) → Nat → Nat → List (Int × Int), ∀ p a b, L p a b = prA p (nG g) a ++ prE p a b := ⟨_, fun _ _ _ => rfl⟩
 obtain ⟨G, hG⟩ : ∃ G : List (Int × Int) → Nat, ∀ l, G l = l.length := ⟨_, fun _ => rfl⟩
 have hG0 : G [] = 0 := by rw [hG]; rfl
 have l0 : ∀ p, L p 0 0 = [] := fun p => by rw [hL]; rfl
 have lS : ∀ p a b, L p a (b + 1) = L p a b ++ if p a b = true then [((a : Int), (b : Int))] else [] := fun p a b => by rw [hL, hL, prE_succ]; simp only [List.append_assoc]
 have lE : ∀ p a, L p a (nG g) = L p (a + 1) 0 := fun p a => by rw [hL, hL, prA_succ]; simp [prE]
 have lL : ∀ p a b, a ≤ nG g → b ≤ nG g → (L p a b).length ≤ 4000 := fun p a b ha hb => by
  have q1 := prA_len p (nG g) a
  have q2 := prE_len p a b
  have q3 : a * nG g ≤ 62 * 62 := Nat.mul_le_mul (by omega) hn
  rw [hL, List.length_append]; omega
 have lF : ∀ p, L p (nG g) 0 = prA p (nG g) (nG g) := fun p => by rw [hL]; simp [prE]
 have hlen : ∀ p, (prA p (nG g) (nG g)).length ≤ 4000 := fun p => by rw [← lF]; exact lL p _ _ (Nat.le_refl _) (Nat.zero_le _)
 have o2 : ∀ p, Pure Tryz.prog γ false 120 [.i fun _ => (nG g : Int), .vs 2 fun _ => ps (prA p (nG g) (nG g))] (encRel (nG g) (relRows (nG g) p)) := fun p => by
  have := rof_in (γ := γ) (nG g : Int) (prA p (nG g) (nG g)) (by omega) (by omega) (by have := hlen p; omega)
  rwa [ofTo_rel (nG g) (by omega) p] at this
 have k1 := o2 p1
 have k2 := o2 p2
 have k3 := o2 p3
 have k4 := o2 p4
 clear o2
 refine Pure.goL (ty := ty) ty_eq mo Tryz.func117 rfl Tryz.ntmps117 Tryz.results117 Tryz.call117 (by simp) fun P C CQ D W F E hF => ?_
 refine E.cut 4 (told 95 [(0, pW g), (2, .ptr 0 0), (3, .ptr 1 0)] [.box (.agg [.lit 0, .nils, .lit 0, .nils, .lit 0, .nils, .lit 0, .nils]), .box (.agg [.vs 2 fun _ => ps (prA p1 (nG g) (nG g)), .vs 2 fun _ => ps (prA p2 (nG g) (nG g)), .vs 2 fun _ => ps (prA p3 (nG g) (nG g)), .vs 2 fun _ => ps (prA p4 (nG g) (nG g))])]) (by kernel_rfl) (Nat.zero_le _) (fun I hI => ?_) (E.bl ?_)
 ·cbv
  repeat' (first
   |(refine ⟨fun _ h_s=>?_,fun _ h_s=>?_⟩<;>(cbv;(try simp only [nc] at *);try simp (disch:=(first|omega|(simp only [lnS];omega))) only [rdT,rdS,reduceCtorEq,trT] at h_s))
   |(refine hF ?_;intro _;clear hF)
   |(refine hF ?_;cbv;clear hF)
   |(refine ⟨fun _=>?_,?_⟩;(· ((try simp only [nc] at *);first|done|omega|exact ⟨by omega,rfl⟩|(simp (disch:=(first|omega|(simp only [lnS];omega))) only [rdT,rdS];first|done|omega|rfl|exact ⟨by omega,rfl⟩|(simp;done)|(simp;omega))|(intros;trivial)));(try (simp only [nc] at *));(try simp (disch:=(first|omega|(simp only [lnS];omega))) only [rdT,rdS]);(try cbv))
   |(refine E.d 27 (by decide +kernel) ?_;cbv;(fail_if_success guard_target =~ False))
   | fail
  )
  refine E.w (AWP.ghostField 1 0 2 rfl rfl ?_)
  refine AWP.ghostField 1 1 2 rfl rfl ?_
  refine AWP.ghostField 1 2 2 rfl rfl ?_
  refine AWP.ghostField 1 3 2 rfl rfl ?_
  refine E.loopSA (ι:=Nat) (fun a=>a≤nG g) (fun a=>nG g - a) (fun a=>[(4,.i fun _=>((a : Nat) : Int))]) (fun a h=>(((((h.set 1 (.box (.agg [.sl 2 (G (L p1 a 0)) 2 (fun _=>0) fun _=>(L p1 a 0).length,.sl 3 (G (L p2 a 0)) 2 (fun _=>0) fun _=>(L p2 a 0).length,.sl 4 (G (L p3 a 0)) 2 (fun _=>0) fun _=>(L p3 a 0).length,.sl 5 (G (L p4 a 0)) 2 (fun _=>0) fun _=>(L p4 a 0).length]))).set 2 (.run (G (L p1 a 0)) 2 fun _=>ps (L p1 a 0))).set 3 (.run (G (L p2 a 0)) 2 fun _=>ps (L p2 a 0))).set 4 (.run (G (L p3 a 0)) 2 fun _=>ps (L p3 a 0))).set 5 (.run (G (L p4 a 0)) 2 fun _=>ps (L p4 a 0)))) 0 (fun _=>by first|rfl|simp) (Nat.zero_le _) ?_ fun a ha I1 hJ=>?_
  ·cbv
   simp [l0, hG0, ps, LV.of]
  cbv
  repeat' (first
   |(refine ⟨fun _ h_s=>?_,fun _ h_s=>?_⟩<;>(cbv;(try simp only [nc] at *);try simp (disch:=(first|omega|(simp only [lnS];omega))) only [rdT,rdS,reduceCtorEq,trT] at h_s))
   |(refine hF ?_;intro _;clear hF)
   |(refine hF ?_;cbv;clear hF)
   |(refine ⟨fun _=>?_,?_⟩;(· ((try simp only [nc] at *);first|done|omega|exact ⟨by omega,rfl⟩|(simp (disch:=(first|omega|(simp only [lnS];omega))) only [rdT,rdS];first|done|omega|rfl|exact ⟨by omega,rfl⟩|(simp;done)|(simp;omega))|(intros;trivial)));(try (simp only [nc] at *));(try simp (disch:=(first|omega|(simp only [lnS];omega))) only [rdT,rdS]);(try cbv))
   |(refine E.d 27 (by decide +kernel) ?_;cbv;(fail_if_success guard_target =~ False))
   | fail
  )
  ·refine E.loopS (ι:=Nat) (fun b=>b≤(nG g)) (fun b=>(nG g) - b) (fun b=>[(5,.i fun _=>((b : Nat) : Int))]) (fun b h=>(((((h.set 1 (.box (.agg [.sl 2 (G (L p1 a b)) 2 (fun _=>0) fun _=>(L p1 a b).length,.sl 3 (G (L p2 a b)) 2 (fun _=>0) fun _=>(L p2 a b).length,.sl 4 (G (L p3 a b)) 2 (fun _=>0) fun _=>(L p3 a b).length,.sl 5 (G (L p4 a b)) 2 (fun _=>0) fun _=>(L p4 a b).length]))).set 2 (.run (G (L p1 a b)) 2 fun _=>ps (L p1 a b))).set 3 (.run (G (L p2 a b)) 2 fun _=>ps (L p2 a b))).set 4 (.run (G (L p3 a b)) 2 fun _=>ps (L p3 a b))).set 5 (.run (G (L p4 a b)) 2 fun _=>ps (L p4 a b)))) 0 (fun _=>by first|rfl|simp) (Nat.zero_le _) ?_ fun b hb I2 hI2=>?_
   ·cbv; simp
   cbv
   have d1 := lL p1 a b ha hb
   have d2 := lL p2 a b ha hb
   have d3 := lL p3 a b ha hb
   have d4 := lL p4 a b ha hb
   skip
   repeat' (first
    |(refine hI2 (b + 1) ?_ ?_ ?_;rotate_left 1;(· ((try simp only [nc] at *);omega));(cbv;clear hI2;(try clear hF);(try simp only [nc] at *);(try simp (disch:=(first|omega|(simp only [lnS];omega))) only [rdT,rdS,anT]));rotate_left 1;(try ((try simp only [nc] at *);omega)))
    |(refine E.c (SCalls.of_le (c4 a b (by ((try simp only [nc] at *);omega)) (by ((try simp only [nc] at *);omega))) ?_ ?_);(· (cbv;(try simp only [nc] at *);first|done|(simp;done)|(simp (disch:=(first|omega|(simp only [lnS];omega))) only [rdT,rdS,anT];first|done|omega|(refine ⟨?_,?_⟩<;>omega))|(simp (disch:=(first|omega|(simp only [lnS];omega))) [rdT,rdS];done)));cbv)
    |(refine E.c (SCalls.of_le (c3 a b (by ((try simp only [nc] at *);omega)) (by ((try simp only [nc] at *);omega))) ?_ ?_);(· (cbv;(try simp only [nc] at *);first|done|(simp;done)|(simp (disch:=(first|omega|(simp only [lnS];omega))) only [rdT,rdS,anT];first|done|omega|(refine ⟨?_,?_⟩<;>omega))|(simp (disch:=(first|omega|(simp only [lnS];omega))) [rdT,rdS];done)));cbv)
    |(refine E.c (SCalls.of_le (c2 a b (by ((try simp only [nc] at *);omega)) (by ((try simp only [nc] at *);omega))) ?_ ?_);(· (cbv;(try simp only [nc] at *);first|done|(simp;done)|(simp (disch:=(first|omega|(simp only [lnS];omega))) only [rdT,rdS,anT];first|done|omega|(refine ⟨?_,?_⟩<;>omega))|(simp (disch:=(first|omega|(simp only [lnS];omega))) [rdT,rdS];done)));cbv)
    |(refine E.c (SCalls.of_le (c1 a b (by ((try simp only [nc] at *);omega)) (by ((try simp only [nc] at *);omega))) ?_ ?_);(· (cbv;(try simp only [nc] at *);first|done|(simp;done)|(simp (disch:=(first|omega|(simp only [lnS];omega))) only [rdT,rdS,anT];first|done|omega|(refine ⟨?_,?_⟩<;>omega))|(simp (disch:=(first|omega|(simp only [lnS];omega))) [rdT,rdS];done)));cbv)
    |(refine ⟨fun _ h_s=>?_,fun _ h_s=>?_⟩<;>(cbv;(try simp only [nc] at *);try simp (disch:=(first|omega|(simp only [lnS];omega))) only [rdT,rdS,reduceCtorEq,trT] at h_s))
    |(refine hF ?_;intro _;clear hF)
    |(refine hF ?_;cbv;clear hF)
    |(refine ⟨fun _=>?_,?_⟩;(· ((try simp only [nc] at *);first|done|omega|exact ⟨by omega,rfl⟩|(simp (disch:=(first|omega|(simp only [lnS];omega))) only [rdT,rdS];first|done|omega|rfl|exact ⟨by omega,rfl⟩|(simp;done)|(simp;omega))|(intros;trivial)|exact ⟨by first|trivial|rfl,by first|trivial|rfl|simp,by first|trivial|simp,by simp;omega,by simp;omega,by simp [AV.flat,AV.cells,AV.one]⟩));(try (simp only [nc] at *));(try simp (disch:=(first|omega|(simp only [lnS];omega))) only [rdT,rdS]);(try cbv))
    |(refine E.d 27 (by decide +kernel) ?_;cbv;(fail_if_success guard_target =~ False))
    | fail
   )
   all_goals clear c1 c2 c3 c4 E lL lF l0 hG0 d1 d2 d3 d4
   rotate_right 1
   ·have eb : b = nG g := by ((try simp only [nc] at *); omega)
    subst eb
    simp only [lE]
    refine hJ (a + 1) (by ((try simp only [nc] at *); omega)) (by ((try simp only [nc] at *); omega)) ?_
    cbv
    clear hJ hI hI2
    have e := w64_of (n := (a : Int) + 1) (by omega) (by omega)
    simp [e]
   all_goals clear lE
   all_goals simp_all [hG, setAll, ps, AV.nrm]
   all_goals omega
  ·have ea : a = nG g := by ((try simp only [nc] at *); omega)
   subst ea
   simp only [lF]
   refine hI ?_
   cbv
   clear hI hJ
   simp only [List.drop_zero, nc]
   simp
   refine ⟨?_, ?_, ?_, ?_⟩ <;> exact List.take_of_length_le (by simp)
 ·cbv
  repeat' (first
   |((first|refine E.c (SCalls.of_le (k4) ?_ ?_)|refine E.q (QCalls.of_le (k4) ?_ ?_));(· (cbv;(try simp only [nc] at *);first|done|(simp;done)|(simp (disch:=(first|omega|(simp only [lnS];omega))) only [rdT,rdS,anT];first|done|omega|(refine ⟨?_,?_⟩<;>omega))|(simp (disch:=(first|omega|(simp only [lnS];omega))) [rdT,rdS];done)));cbv)
   |((first|refine E.c (SCalls.of_le (k3) ?_ ?_)|refine E.q (QCalls.of_le (k3) ?_ ?_));(· (cbv;(try simp only [nc] at *);first|done|(simp;done)|(simp (disch:=(first|omega|(simp only [lnS];omega))) only [rdT,rdS,anT];first|done|omega|(refine ⟨?_,?_⟩<;>omega))|(simp (disch:=(first|omega|(simp only [lnS];omega))) [rdT,rdS];done)));cbv)
   |((first|refine E.c (SCalls.of_le (k2) ?_ ?_)|refine E.q (QCalls.of_le (k2) ?_ ?_));(· (cbv;(try simp only [nc] at *);first|done|(simp;done)|(simp (disch:=(first|omega|(simp only [lnS];omega))) only [rdT,rdS,anT];first|done|omega|(refine ⟨?_,?_⟩<;>omega))|(simp (disch:=(first|omega|(simp only [lnS];omega))) [rdT,rdS];done)));cbv)
   |((first|refine E.c (SCalls.of_le (k1) ?_ ?_)|refine E.q (QCalls.of_le (k1) ?_ ?_));(· (cbv;(try simp only [nc] at *);first|done|(simp;done)|(simp (disch:=(first|omega|(simp only [lnS];omega))) only [rdT,rdS,anT];first|done|omega|(refine ⟨?_,?_⟩<;>omega))|(simp (disch:=(first|omega|(simp only [lnS];omega))) [rdT,rdS];done)));cbv)
   |(refine ⟨fun _ h_s=>?_,fun _ h_s=>?_⟩<;>(cbv;(try simp only [nc] at *);try simp (disch:=(first|omega|(simp only [lnS];omega))) only [rdT,rdS,reduceCtorEq,trT] at h_s))
   |(refine hF ?_;intro _;clear hF)
   |(refine hF ?_;cbv;clear hF)
   |(refine ⟨fun _=>?_,?_⟩;(· ((try simp only [nc] at *);first|done|omega|exact ⟨by omega,rfl⟩|(simp (disch:=(first|omega|(simp only [lnS];omega))) only [rdT,rdS];first|done|omega|rfl|exact ⟨by omega,rfl⟩|(simp;done)|(simp;omega))|(intros;trivial)|exact ⟨by first|trivial|rfl,by first|trivial|rfl|simp,by first|trivial|simp,by simp;omega,by simp;omega,by simp [AV.flat,AV.cells,AV.one]⟩));(try (simp only [nc] at *));(try simp (disch:=(first|omega|(simp only [lnS];omega))) only [rdT,rdS]);(try cbv))
   |(refine E.d 27 (by decide +kernel) ?_;cbv;(fail_if_success guard_target =~ False))
   | fail
  )
end Go.AL.Rl

namespace Go.AL.Rl
open Go Go.AL Go.Proofs
set_option maxRecDepth 100000
set_option maxHeartbeats 3200000
variable {γ : Nat → Option AV}

theorem wsw_ok (g : Gr) (h : GOk g) : Pure Tryz.prog γ false 121 [pW g] (encRel (nG g : Nat) (swF (viewG g) (nG g))) := by
 have hn := (viewG_wf h).small
 have hEl := evsG_l g
 have hVl : (viewG g).ev = evsG g := rfl
 have hfr0 := fun i hi => fr_iff h i hi
 have hfrl := (viewG_wf h).frl
 have q1 := wreads_ok (γ := γ) g
 have q2 := wwrites_ok (γ := γ) g
 have q3 := wacq_ok (γ := γ) g
 have q4 := wrel_ok (γ := γ) g
 have q5 := wsequence_ok (γ := γ) g h
 have q6 := wfrom_ok (γ := γ) g h
 have q7 := wpo_ok (γ := γ) g
 have e1 : ∀ w, cwM (viewG g) w = (writesM ((evsG g).getD w ⟨0, 0, 0, 0, 0⟩) && decide (((evsG g).getD w ⟨0, 0, 0, 0, 0⟩).order ≠ 1)) := fun _ => rfl
 have e2 : ∀ s b, rdrM (viewG g) s b = (readsM ((evsG g).getD b ⟨0, 0, 0, 0, 0⟩) && decide (((evsG g).getD b ⟨0, 0, 0, 0, 0⟩).order ≠ 1) && s.getLsbD ((viewG g).fr.getD b 0).toNat) := fun _ _ => rfl
 have e3 : ∀ w r, crM (viewG g) w r = (relM ((evsG g).getD r ⟨0, 0, 0, 0, 0⟩) && (decide (r = w) || decide (((evsG g).getD r ⟨0, 0, 0, 0, 0⟩).kind = 4) && poM (viewG g) r w)) := fun _ _ => rfl
 have e4 : ∀ b a, caM (viewG g) b a = (acqM ((evsG g).getD a ⟨0, 0, 0, 0, 0⟩) && (decide (a = b) || decide (((evsG g).getD a ⟨0, 0, 0, 0, 0⟩).kind = 4) && poM (viewG g) b a)) := fun _ _ => rfl
 rw [hVl] at q1 q2 q3 q4
 obtain ⟨L, hL⟩ : ∃ L : Nat → Nat → Nat → Nat → List (Int × Int), ∀ w b r a, L w b r a = lAll (viewG g) (nG g) w b r a := ⟨_, fun _ _ _ _ => rfl⟩
 obtain ⟨G, hG⟩ : ∃ G : List (Int × Int) → Nat, ∀ l, G l = l.length := ⟨_, fun _ => rfl⟩
 have hG0 : G [] = 0 := by rw [hG]; rfl
 have l0 : L 0 0 0 0 = [] := by rw [hL]; rfl
 have lL : ∀ w b r a, w ≤ nG g → b ≤ nG g → r ≤ nG g → a ≤ nG g → (L w b r a).length ≤ 100000000 := fun w b r a h1 h2 h3 h4 => by rw [hL]; exact lAll_len _ _ _ _ _ _ hn h1 h2 h3 h4
 have a1 : ∀ w b r a, caM (viewG g) b a = true → L w b r (a + 1) = L w b r a ++ [((r : Int), (a : Int))] := fun w b r a hc => by rw [hL, hL]; exact lAll_a1 _ _ _ _ _ _ hc
 have a0 : ∀ w b r a, ¬ caM (viewG g) b a = true → L w b r (a + 1) = L w b r a := fun w b r a hc => by rw [hL, hL]; exact lAll_a0 _ _ _ _ _ _ hc
 have r1 : ∀ w b r, crM (viewG g) w r = true → L w b (r + 1) 0 = L w b r (nG g) := fun w b r hc => by rw [hL, hL]; exact lAll_r1 _ _ _ _ _ hc
 have r0 : ∀ w b r, ¬ crM (viewG g) w r = true → L w b (r + 1) 0 = L w b r 0 := fun w b r hc => by rw [hL, hL]; exact lAll_r0 _ _ _ _ _ hc
 have b1 : ∀ w b, rdrM (viewG g) (seqM (viewG g) (nG g) w) b = true → L w (b + 1) 0 0 = L w b (nG g) 0 := fun w b hc => by rw [hL, hL]; exact lAll_b1 _ _ _ _ hc
 have b0 : ∀ w b, ¬ rdrM (viewG g) (seqM (viewG g) (nG g) w) b = true → L w (b + 1) 0 0 = L w b 0 0 := fun w b hc => by rw [hL, hL]; exact lAll_b0 _ _ _ _ hc
 have w1 : ∀ w, cwM (viewG g) w = true → L (w + 1) 0 0 0 = L w (nG g) 0 0 := fun w hc => by rw [hL, hL]; exact lAll_w1 _ _ _ hc
 have w0 : ∀ w, ¬ cwM (viewG g) w = true → L (w + 1) 0 0 0 = L w 0 0 0 := fun w hc => by rw [hL, hL]; exact lAll_w0 _ _ _ hc
 have eO : swF (viewG g) (nG g) = ofTo (nG g) (L (nG g) 0 0 0) (L (nG g) 0 0 0).length := by rw [hL]; exact (ofTo_sw (viewG g) (nG g) hn).symm
 have lN := lL (nG g) 0 0 0 (Nat.le_refl _) (Nat.zero_le _) (Nat.zero_le _) (Nat.zero_le _)
 have kO := rof_in (γ := γ) (nG g : Int) (L (nG g) 0 0 0) (by omega) (by omega) (by omega)
 rw [eO]
 clear eO hL
 generalize hS : seqM (viewG g) (nG g) = S at *
 generalize hF' : (viewG g).fr = FR at *
 generalize hP : poM (viewG g) = PO at *
 refine Pure.goL (ty := ty) ty_eq mo Tryz.func121 rfl Tryz.ntmps121 Tryz.results121 Tryz.call121 (by simp) fun P C CQ D W F E hF => ?_
 refine E.cut 4 (told 148 [(0, pW g), (2, .ptr 0 0), (3, .vs 2 fun _ => ps (L (nG g) 0 0 0))] [.box (.agg [.lit 0, .nils])]) (by kernel_rfl) (Nat.zero_le _) (fun I hI => ?_) (E.bl ?_)
 ·cbv
  repeat' (first
   |(refine ⟨fun _ h_s=>?_,fun _ h_s=>?_⟩<;>(cbv;(try simp only [nc] at *);try simp (disch:=(first|omega|(simp only [lnS];omega))) only [rdT,rdS,reduceCtorEq,trT] at h_s))
   |(refine hF ?_;intro _;clear hF)
   |(refine hF ?_;cbv;clear hF)
   |(refine ⟨fun _=>?_,?_⟩;(· ((try simp only [nc] at *);first|done|omega|exact ⟨by omega,rfl⟩|(simp (disch:=(first|omega|(simp only [lnS];omega))) only [rdT,rdS];first|done|omega|rfl|exact ⟨by omega,rfl⟩|(simp;done)|(simp;omega))|(intros;trivial)));(try (simp only [nc] at *));(try simp (disch:=(first|omega|(simp only [lnS];omega))) only [rdT,rdS]);(try cbv))
   | fail
  )
  refine E.w (AWP.ghostSlot 3 2 rfl (by omega) (E.loopSA (ι := Nat) (fun w => w ≤ (nG g)) (fun w => (nG g) - w) (fun w => [(4, .i fun _ => ((w : Nat) : Int)), (3, .sl 1 (G (L w 0 0 0)) 2 (fun _ => 0) fun _ => (L w 0 0 0).length)]) (fun w h => h.set 1 (.run (G (L w 0 0 0)) 2 fun _ => ps (L w 0 0 0))) 0 (fun _ => by first | rfl | simp) (Nat.zero_le _) ?_ fun w hw I1 hJ => ?_))
  ·cbv; simp [l0, hG0, ps, LV.of]
  cbv
  have k2 := q2 w
  have k5 := q5 w
  have kw0 := w0 w
  have kw1 := w1 w
  have ew := e1 w
  repeat' (first
   |(refine hJ (w + 1) ?_ ?_ ?_;rotate_left 1;(· ((try simp only [nc] at *);omega));(cbv;clear hJ;(try clear hF);(try simp only [nc] at *);(try simp (disch:=(first|omega|(simp only [lnS];omega))) only [rdT,rdS,anT]));rotate_left 1;(try ((try simp only [nc] at *);omega)))
   |(refine E.c (SCalls.of_le (k5 (by ((try simp only [nc] at *);omega))) ?_ ?_);(· (cbv;(try simp only [nc] at *);first|done|(simp;done)|(simp (disch:=(first|omega|(simp only [lnS];omega))) only [rdT,rdS,anT];first|done|omega|(refine ⟨?_,?_⟩<;>omega))|(simp (disch:=(first|omega|(simp only [lnS];omega))) [rdT,rdS];done)));cbv)
   |(refine E.c (SCalls.of_le (k2 (by ((try simp only [nc] at *);omega))) ?_ ?_);(· (cbv;(try simp only [nc] at *);first|done|(simp;done)|(simp (disch:=(first|omega|(simp only [lnS];omega))) only [rdT,rdS,anT];first|done|omega|(refine ⟨?_,?_⟩<;>omega))|(simp (disch:=(first|omega|(simp only [lnS];omega))) [rdT,rdS];done)));cbv)
   |(refine ⟨fun _ h_s=>?_,fun _ h_s=>?_⟩<;>(cbv;(try simp only [nc] at *);try simp (disch:=(first|omega|(simp only [lnS];omega))) only [rdT,rdS,reduceCtorEq,trT] at h_s))
   |(refine hF ?_;intro _;clear hF)
   |(refine hF ?_;cbv;clear hF)
   |(refine ⟨fun _=>?_,?_⟩;(· ((try simp only [nc] at *);first|done|omega|exact ⟨by omega,rfl⟩|(simp (disch:=(first|omega|(simp only [lnS];omega))) only [rdT,rdS];first|done|omega|rfl|exact ⟨by omega,rfl⟩|(simp;done)|(simp;omega))|(intros;trivial)));(try (simp only [nc] at *));(try simp (disch:=(first|omega|(simp only [lnS];omega))) only [rdT,rdS]);(try cbv))
   | fail
  )
  iterate 2
   ·have hc : ¬ cwM (viewG g) w = true := by
     clear kw0 kw1 w0 w1 r0 r1 b0 b1 a0 a1 lL
     rw [ew]; simp_all
    rw [kw0 hc]
    exact ⟨⟨⟨rfl, rfl⟩, by push_cast; rfl⟩, rfl, rfl⟩
  ·have hcw : cwM (viewG g) w = true := by
    clear kw0 kw1 w0 w1 r0 r1 b0 b1 a0 a1 lL
    rw [ew]; simp_all
   replace kw1 := kw1 hcw
   clear kw0 ew
   refine E.loopS (ι:=Nat) (fun b=>b≤(nG g)) (fun b=>(nG g) - b) (fun b=>[(6,.i fun _=>((b : Nat) : Int)),(3,.sl 1 (G (L w b 0 0)) 2 (fun _=>0) fun _=>(L w b 0 0).length)]) (fun b h=>h.set 1 (.run (G (L w b 0 0)) 2 fun _=>ps (L w b 0 0))) 0 (fun _=>by first|rfl|simp) (Nat.zero_le _) ?_ fun b hb I2 hI2=>?_
   ·cbv; simp
   cbv
   have k1 := q1 b
   have k6 := q6 b
   have kb0 := b0 w b
   have kb1 := b1 w b
   have eb := e2 (S w) b
   have hf1 := hfr0 b
   have hf2 := hfrl b
   repeat' (first
    |(refine hJ (w + 1) ?_ ?_ ?_;rotate_left 1;(· ((try simp only [nc] at *);omega));(cbv;clear hJ;(try clear hF);(try simp only [nc] at *);(try simp (disch:=(first|omega|(simp only [lnS];omega))) only [rdT,rdS,anT]));rotate_left 1;(try ((try simp only [nc] at *);omega)))
    |(refine hI2 (b + 1) ?_ ?_ ?_;rotate_left 1;(· ((try simp only [nc] at *);omega));(cbv;clear hI2;(try clear hF);(try simp only [nc] at *);(try simp (disch:=(first|omega|(simp only [lnS];omega))) only [rdT,rdS,anT]));rotate_left 1;(try ((try simp only [nc] at *);omega)))
    |(refine E.c (SCalls.of_le (k6 (by ((try simp only [nc] at *);omega))) ?_ ?_);(· (cbv;(try simp only [nc] at *);first|done|(simp;done)|(simp (disch:=(first|omega|(simp only [lnS];omega))) only [rdT,rdS,anT];first|done|omega|(refine ⟨?_,?_⟩<;>omega))|(simp (disch:=(first|omega|(simp only [lnS];omega))) [rdT,rdS];done)));cbv)
    |(refine E.c (SCalls.of_le (k1 (by ((try simp only [nc] at *);omega))) ?_ ?_);(· (cbv;(try simp only [nc] at *);first|done|(simp;done)|(simp (disch:=(first|omega|(simp only [lnS];omega))) only [rdT,rdS,anT];first|done|omega|(refine ⟨?_,?_⟩<;>omega))|(simp (disch:=(first|omega|(simp only [lnS];omega))) [rdT,rdS];done)));cbv)
    |(refine ⟨fun _ h_s=>?_,fun _ h_s=>?_⟩<;>(cbv;(try simp only [nc] at *);try simp (disch:=(first|omega|(simp only [lnS];omega))) only [rdT,rdS,reduceCtorEq,trT] at h_s))
    |(refine hF ?_;intro _;clear hF)
    |(refine hF ?_;cbv;clear hF)
    |(refine ⟨fun _=>?_,?_⟩;(· ((try simp only [nc] at *);first|done|omega|exact ⟨by omega,rfl⟩|(simp (disch:=(first|omega|(simp only [lnS];omega))) only [rdT,rdS];first|done|omega|rfl|exact ⟨by omega,rfl⟩|(simp;done)|(simp;omega))|(intros;trivial)));(try (simp only [nc] at *));(try simp (disch:=(first|omega|(simp only [lnS];omega))) only [rdT,rdS]);(try cbv))
    | fail
   )
   iterate 3
    ·have hc : ¬ rdrM (viewG g) (S w) b = true := by
      clear kb0 kb1 w0 w1 r0 r1 b0 b1 a0 a1 lL
      rw [eb]
      first
       | (simp_all; done)
       | (rw [bofZ (by simp_all) (by omega), mod2_bit0] at h_s; rw [Bool.and_eq_true]; rintro ⟨_, hx⟩; rw [h_s] at hx; cases hx)
     rw [kb0 hc]
     exact ⟨⟨⟨rfl, rfl⟩, by push_cast; rfl⟩, rfl, rfl⟩
   ·have hcb : rdrM (viewG g) (S w) b = true := by
     clear kb0 kb1 w0 w1 r0 r1 b0 b1 a0 a1 lL
     rw [eb]
     rw [bofZ (by simp_all) (by omega), mod2_bit0] at h_s
     simp_all
    replace kb1 := kb1 hcb
    clear kb0 eb
    refine E.loopS (ι:=Nat) (fun r=>r≤(nG g)) (fun r=>(nG g) - r) (fun r=>[(7,.i fun _=>((r : Nat) : Int)),(3,.sl 1 (G (L w b r 0)) 2 (fun _=>0) fun _=>(L w b r 0).length)]) (fun r h=>h.set 1 (.run (G (L w b r 0)) 2 fun _=>ps (L w b r 0))) 0 (fun _=>by first|rfl|simp) (Nat.zero_le _) ?_ fun r hr I3 hI3=>?_
    ·cbv; simp
    cbv
    have k4 := q4 r
    have k7 := q7 r w
    have kr0 := r0 w b r
    have kr1 := r1 w b r
    have er := e3 w r
    repeat' (first
     |(refine hI2 (b + 1) ?_ ?_ ?_;rotate_left 1;(· ((try simp only [nc] at *);omega));(cbv;clear hI2;(try clear hF);(try simp only [nc] at *);(try simp (disch:=(first|omega|(simp only [lnS];omega))) only [rdT,rdS,anT]));rotate_left 1;(try ((try simp only [nc] at *);omega)))
     |(refine hI3 (r + 1) ?_ ?_ ?_;rotate_left 1;(· ((try simp only [nc] at *);omega));(cbv;clear hI3;(try clear hF);(try simp only [nc] at *);(try simp (disch:=(first|omega|(simp only [lnS];omega))) only [rdT,rdS,anT]));rotate_left 1;(try ((try simp only [nc] at *);omega)))
     |(refine E.c (SCalls.of_le (k7 (by ((try simp only [nc] at *);omega)) (by ((try simp only [nc] at *);omega))) ?_ ?_);(· (cbv;(try simp only [nc] at *);first|done|(simp;done)|(simp (disch:=(first|omega|(simp only [lnS];omega))) only [rdT,rdS,anT];first|done|omega|(refine ⟨?_,?_⟩<;>omega))|(simp (disch:=(first|omega|(simp only [lnS];omega))) [rdT,rdS];done)));cbv)
     |(refine E.c (SCalls.of_le (k4 (by ((try simp only [nc] at *);omega))) ?_ ?_);(· (cbv;(try simp only [nc] at *);first|done|(simp;done)|(simp (disch:=(first|omega|(simp only [lnS];omega))) only [rdT,rdS,anT];first|done|omega|(refine ⟨?_,?_⟩<;>omega))|(simp (disch:=(first|omega|(simp only [lnS];omega))) [rdT,rdS];done)));cbv)
     |(refine ⟨fun _ h_s=>?_,fun _ h_s=>?_⟩<;>(cbv;(try simp only [nc] at *);try simp (disch:=(first|omega|(simp only [lnS];omega))) only [rdT,rdS,reduceCtorEq,trT] at h_s))
     |(refine hF ?_;intro _;clear hF)
     |(refine hF ?_;cbv;clear hF)
     |(refine ⟨fun _=>?_,?_⟩;(· ((try simp only [nc] at *);first|done|omega|exact ⟨by omega,rfl⟩|(simp (disch:=(first|omega|(simp only [lnS];omega))) only [rdT,rdS];first|done|omega|rfl|exact ⟨by omega,rfl⟩|(simp;done)|(simp;omega))|(intros;trivial)));(try (simp only [nc] at *));(try simp (disch:=(first|omega|(simp only [lnS];omega))) only [rdT,rdS]);(try cbv))
     | fail
    )
    have eri : ((r : Int) = w) ↔ r = w := Int.ofNat_inj
    iterate 3
     ·have hc : ¬ crM (viewG g) w r = true := by
       clear kr0 kr1 w0 w1 r0 r1 b0 b1 a0 a1 lL
       rw [er]
       first
        | (simp_all; done)
        | (simp_all; omega)
      rw [kr0 hc]
      exact ⟨⟨⟨rfl, rfl⟩, by push_cast; rfl⟩, rfl, rfl⟩
    iterate 2
     ·have hcr : crM (viewG g) w r = true := by
       clear kr0 kr1 w0 w1 r0 r1 b0 b1 a0 a1 lL
       rw [er]
       first
        | (simp_all; done)
        | (simp_all; omega)
        | (
          have e : r = w := by omega
          simp_all; done)
      replace kr1 := kr1 hcr
      clear kr0 er
      refine E.loopS (ι:=Nat) (fun a=>a≤(nG g)) (fun a=>(nG g) - a) (fun a=>[(8,.i fun _=>((a : Nat) : Int)),(3,.sl 1 (G (L w b r a)) 2 (fun _=>0) fun _=>(L w b r a).length)]) (fun a h=>h.set 1 (.run (G (L w b r a)) 2 fun _=>ps (L w b r a))) 0 (fun _=>by first|rfl|simp) (Nat.zero_le _) ?_ fun a ha I4 hI4=>?_
      ·cbv; simp
      cbv
      have k3 := q3 a
      have k7 := q7 b a
      have ka0 := a0 w b r a
      have ka1 := a1 w b r a
      have ea := e4 b a
      have d1 := lL w b r a (by omega) (by omega) (by omega) (by omega)
      skip
      repeat' (first
       |(refine hI3 (r + 1) ?_ ?_ ?_;rotate_left 1;(· ((try simp only [nc] at *);omega));(cbv;clear hI3;(try clear hF);(try simp only [nc] at *);(try simp (disch:=(first|omega|(simp only [lnS];omega))) only [rdT,rdS,anT]));rotate_left 1;(try ((try simp only [nc] at *);omega)))
       |(refine hI4 (a + 1) ?_ ?_ ?_;rotate_left 1;(· ((try simp only [nc] at *);omega));(cbv;clear hI4;(try clear hF);(try simp only [nc] at *);(try simp (disch:=(first|omega|(simp only [lnS];omega))) only [rdT,rdS,anT]));rotate_left 1;(try ((try simp only [nc] at *);omega)))
       |(refine E.c (SCalls.of_le (k7 (by ((try simp only [nc] at *);omega)) (by ((try simp only [nc] at *);omega))) ?_ ?_);(· (cbv;(try simp only [nc] at *);first|done|(simp;done)|(simp (disch:=(first|omega|(simp only [lnS];omega))) only [rdT,rdS,anT];first|done|omega|(refine ⟨?_,?_⟩<;>omega))|(simp (disch:=(first|omega|(simp only [lnS];omega))) [rdT,rdS];done)));cbv)
       |(refine E.c (SCalls.of_le (k3 (by ((try simp only [nc] at *);omega))) ?_ ?_);(· (cbv;(try simp only [nc] at *);first|done|(simp;done)|(simp (disch:=(first|omega|(simp only [lnS];omega))) only [rdT,rdS,anT];first|done|omega|(refine ⟨?_,?_⟩<;>omega))|(simp (disch:=(first|omega|(simp only [lnS];omega))) [rdT,rdS];done)));cbv)
       |(refine ⟨fun _ h_s=>?_,fun _ h_s=>?_⟩<;>(cbv;(try simp only [nc] at *);try simp (disch:=(first|omega|(simp only [lnS];omega))) only [rdT,rdS,reduceCtorEq,trT] at h_s))
       |(refine hF ?_;intro _;clear hF)
       |(refine hF ?_;cbv;clear hF)
       |(refine ⟨fun _=>?_,?_⟩;(· ((try simp only [nc] at *);first|done|omega|exact ⟨by omega,rfl⟩|(simp (disch:=(first|omega|(simp only [lnS];omega))) only [rdT,rdS];first|done|omega|rfl|exact ⟨by omega,rfl⟩|(simp;done)|(simp;omega))|(intros;trivial)|exact ⟨by first|trivial|rfl,by first|trivial|rfl|simp,by first|trivial|simp,by simp;omega,by simp;omega,by simp [AV.flat,AV.cells,AV.one]⟩));(try (simp only [nc] at *));(try simp (disch:=(first|omega|(simp only [lnS];omega))) only [rdT,rdS]);(try cbv))
       | fail
      )
      all_goals (have eai : ((a : Int) = b) ↔ a = b := Int.ofNat_inj)
      iterate 2
       ·have hc : caM (viewG g) b a = true := by
         clear ka0 ka1 w0 w1 r0 r1 b0 b1 a0 a1 lL
         rw [ea]
         first
          | (simp_all; done)
          | (simp_all; omega)
          | (
            have e : a = b := by omega
            simp_all; done)
        replace ka1 := ka1 hc
        clear w0 w1 r0 r1 b0 b1 a0 a1 lL
        rw [ka1]
        simp [hG, ps, setAll, AV.nrm]
      iterate 3
       ·have hc : ¬ caM (viewG g) b a = true := by
         clear ka0 ka1 w0 w1 r0 r1 b0 b1 a0 a1 lL
         rw [ea]
         first
          | (simp_all; done)
          | (simp_all; omega)
        rw [ka0 hc]
        exact ⟨⟨⟨rfl, rfl⟩, by push_cast; rfl⟩, rfl, rfl⟩
      ·have e : a = nG g := by ((try simp only [nc] at *); omega)
       subst e
       rw [kr1]
       exact ⟨⟨⟨rfl, rfl⟩, by push_cast; rfl⟩, rfl, rfl⟩
    ·have e : r = nG g := by ((try simp only [nc] at *); omega)
     subst e
     rw [kb1]
     exact ⟨⟨⟨rfl, rfl⟩, by push_cast; rfl⟩, rfl, rfl⟩
   ·have e : b = nG g := by ((try simp only [nc] at *); omega)
    subst e
    rw [kw1]
    exact ⟨⟨⟨rfl, rfl⟩, by push_cast; rfl⟩, rfl, rfl⟩
  ·have ew : w = nG g := by ((try simp only [nc] at *); omega)
   subst ew
   refine hI ?_
   cbv
   clear hI hJ
   simp only [List.drop_zero, nc]
   simp
   exact List.take_of_length_le (by simp)
 ·cbv
  repeat' (first
   |(refine E.c (SCalls.of_le (kO) ?_ ?_);(· (cbv;(try simp only [nc] at *);first|done|(simp;done)|(simp (disch:=(first|omega|(simp only [lnS];omega))) only [rdT,rdS,anT];first|done|omega|(refine ⟨?_,?_⟩<;>omega))|(simp (disch:=(first|omega|(simp only [lnS];omega))) [rdT,rdS];done)));cbv)
   |(refine ⟨fun _ h_s=>?_,fun _ h_s=>?_⟩<;>(cbv;(try simp only [nc] at *);try simp (disch:=(first|omega|(simp only [lnS];omega))) only [rdT,rdS,reduceCtorEq,trT] at h_s))
   |(refine hF ?_;intro _;clear hF)
   |(refine hF ?_;cbv;clear hF)
   |(refine ⟨fun _=>?_,?_⟩;(· ((try simp only [nc] at *);first|done|omega|exact ⟨by omega,rfl⟩|(simp (disch:=(first|omega|(simp only [lnS];omega))) only [rdT,rdS];first|done|omega|rfl|exact ⟨by omega,rfl⟩|(simp;done)|(simp;omega))|(intros;trivial)|exact ⟨by first|trivial|rfl,by first|trivial|rfl|simp,by first|trivial|simp,by simp;omega,by simp;omega,by simp [AV.flat,AV.cells,AV.one]⟩));(try (simp only [nc] at *));(try simp (disch:=(first|omega|(simp only [lnS];omega))) only [rdT,rdS]);(try cbv))
   | fail
  )
end Go.AL.Rl

namespace Go.AL.Rl
open Go Go.AL Go.Proofs
set_option maxRecDepth 100000
set_option maxHeartbeats 3200000
variable {γ : Nat → Option AV}

theorem ror3 (n : Nat) (a b c : List (BitVec 64)) (ha : Fits n a) (hb : Fits n b) (hc : Fits n c) : Pure Tryz.prog γ false 119 [.vs 2 fun _ => rls [((n : Int), a), ((n : Int), b), ((n : Int), c)]] (encRel n (orM n [((n : Int), a), ((n : Int), b), ((n : Int), c)])) :=
 ror_yes _ (by simp) (alike3 n a b c ha hb hc) n rfl
theorem w15All_yes (g : Gr) (hg : Rd g) (h : GOk g) : Pure Tryz.prog γ false 96 [aGr g] (.tup [aDer (nG g : Nat) (poF (viewG g) (nG g)) (rfF (viewG g) (nG g)) (coF (viewG g) (nG g)) (frF (viewG g) (nG g)) (ecoF (viewG g) (nG g)) (porfF (viewG g) (nG g)) (locF (viewG g) (nG g)) (swF (viewG g) (nG g)) (hbF (viewG g) (nG g)), .i fun _ => 0]) := by
 have hV := viewG_wf h
 have hn := hV.small
 have kl := look15_yes (γ := γ) g hg h
 have kg := wgiven_ok (γ := γ) g hg h
 have ks := wsw_ok (γ := γ) g h
 have f1 := fits_poF (viewG g) hV.small
 have f2 := fits_rfF (viewG g) hV.small
 have f3 := fits_coF (viewG g) hV.small
 have f4 := fits_frF (viewG g) hV.small
 have f6 := fits_swF (viewG g) hV.small
 have o1 := ror3 (γ := γ) (nG g) _ _ _ f2 f3 f4
 have o2 := ror2 (γ := γ) (nG g) _ _ f1 f2
 have o3 := ror2 (γ := γ) (nG g) _ _ f1 f6
 have p1 := rplus_yes (γ := γ) (nG g) _ (fits_or (by omega) (l := [((nG g : Int), rfF (viewG g) (nG g)), ((nG g : Int), coF (viewG g) (nG g)), ((nG g : Int), frF (viewG g) (nG g))]) (by simp [f2, f3, f4]))
 have p2 := rplus_yes (γ := γ) (nG g) _ (fits_or2 f1 f2)
 have p3 := rplus_yes (γ := γ) (nG g) _ (fits_or2 f1 f6)
 have c1 := wloc_ok (γ := γ) g
 have e1 : plusM (nG g) (orM (nG g) [((nG g : Int), rfF (viewG g) (nG g)), ((nG g : Int), coF (viewG g) (nG g)), ((nG g : Int), frF (viewG g) (nG g))]) = ecoF (viewG g) (nG g) := by simp [ecoF]
 have e2 : plusM (nG g) (orM (nG g) [((nG g : Int), poF (viewG g) (nG g)), ((nG g : Int), rfF (viewG g) (nG g))]) = porfF (viewG g) (nG g) := by simp [porfF]
 have e3 : plusM (nG g) (orM (nG g) [((nG g : Int), poF (viewG g) (nG g)), ((nG g : Int), swF (viewG g) (nG g))]) = hbF (viewG g) (nG g) := by simp [hbF]
 rw [e1] at p1
 rw [e2] at p2
 rw [e3] at p3
 have eL : locF (viewG g) (nG g) = relRows (nG g) (locM (viewG g)) := rfl
 rw [eL]
 clear e1 e2 e3 eL f1 f2 f3 f4 f6
 generalize locM (viewG g) = p at *
 generalize poF (viewG g) (nG g) = q1 at *
 generalize rfF (viewG g) (nG g) = q2 at *
 generalize coF (viewG g) (nG g) = q3 at *
 generalize frF (viewG g) (nG g) = q4 at *
 generalize swF (viewG g) (nG g) = q5 at *
 generalize ecoF (viewG g) (nG g) = q6 at *
 generalize porfF (viewG g) (nG g) = q7 at *
 generalize hbF (viewG g) (nG g) = q8 at *
 obtain ⟨L, hL⟩ : ∃ L : Nat → Nat → List (Int × Int), ∀ a b, L a b = prA p (nG g) a ++ prE p a b := ⟨_, fun _ _ => rfl⟩
 obtain ⟨G, hG⟩ : ∃ G : List (Int × Int) → Nat, ∀ l, G l = l.length := ⟨_, fun _ => rfl⟩
 have hG0 : G [] = 0 := by rw [hG]; rfl
 have l0 : L 0 0 = [] := by rw [hL]; rfl
 have lS : ∀ a b, L a (b + 1) = L a b ++ if p a b = true then [((a : Int), (b : Int))] else [] := fun a b => by rw [hL, hL, prE_succ]; simp only [List.append_assoc]
 have lE : ∀ a, L a (nG g) = L (a + 1) 0 := fun a => by rw [hL, hL, prA_succ]; simp [prE]
 have lL : ∀ a b, a ≤ nG g → b ≤ nG g → (L a b).length ≤ 4000 := fun a b ha hb => by
  have q1 := prA_len p (nG g) a
  have q2 := prE_len p a b
  have q3 : a * nG g ≤ 62 * 62 := Nat.mul_le_mul (by omega) hn
  rw [hL, List.length_append]; omega
 have lF : L (nG g) 0 = prA p (nG g) (nG g) := by rw [hL]; simp [prE]
 have lN := lL (nG g) 0 (Nat.le_refl _) (Nat.zero_le _)
 have kO := rof_in (γ := γ) (nG g : Int) (prA p (nG g) (nG g)) (by omega) (by omega) (by rw [← lF]; omega)
 rw [ofTo_rel (nG g) (by omega) p, ← lF] at kO
 clear hL lF
 refine Pure.goL (ty := ty) ty_eq mo Tryz.func96 rfl Tryz.ntmps96 Tryz.results96 Tryz.call96 (by simp) fun P C CQ D W F E hF => ?_
 refine E.cut 7 (told 96 [(1, .ptr 0 0), (2, .ptr 1 0), (3, .lit 0), (4, pW g), (6, .vs 2 fun _ => ps (L (nG g) 0))] [.box (aGr g), .box (.agg [.lit 0, .nils, .lit 0, .nils, .lit 0, .nils, .lit 0, .nils, .lit 0, .nils, .lit 0, .nils, .lit 0, .nils, .lit 0, .nils, .lit 0, .nils])]) (by kernel_rfl) (Nat.zero_le _) (fun I hI => ?_) (E.bl ?_)
 ·cbv
  repeat' (first
   |(refine E.c (SCalls.of_le (kl) ?_ ?_);(· (cbv;(try simp only [nc] at *);first|done|(simp;done)|(simp (disch:=(first|omega|(simp only [lnS];omega))) only [rdT,rdS,anT];first|done|omega|(refine ⟨?_,?_⟩<;>omega))|(simp (disch:=(first|omega|(simp only [lnS];omega))) [rdT,rdS];done)));cbv)
   |(refine ⟨fun _ h_s=>?_,fun _ h_s=>?_⟩<;>(cbv;(try simp only [nc] at *);try simp (disch:=(first|omega|(simp only [lnS];omega))) only [rdT,rdS,reduceCtorEq,trT] at h_s))
   |(refine hF ?_;intro _;clear hF)
   |(refine hF ?_;cbv;clear hF)
   |(refine ⟨fun _=>?_,?_⟩;(· ((try simp only [nc] at *);first|done|omega|exact ⟨by omega,rfl⟩|(simp (disch:=(first|omega|(simp only [lnS];omega))) only [rdT,rdS];first|done|omega|rfl|exact ⟨by omega,rfl⟩|(simp;done)|(simp;omega))|(intros;trivial)));(try (simp only [nc] at *));(try simp (disch:=(first|omega|(simp only [lnS];omega))) only [rdT,rdS]);(try cbv))
   | fail
  )
  refine E.w (AWP.ghostSlot 6 2 rfl (by omega) (E.loopSA (ι := Nat) (fun a => a ≤ (nG g)) (fun a => (nG g) - a) (fun a => [(7, .i fun _ => ((a : Nat) : Int)), (6, .sl 2 (G (L a 0)) 2 (fun _ => 0) fun _ => (L a 0).length)]) (fun a h => h.set 2 (.run (G (L a 0)) 2 fun _ => ps (L a 0))) 0 (fun _ => by first | rfl | simp) (Nat.zero_le _) ?_ fun a ha I1 hJ => ?_))
  ·cbv; simp [l0, hG0, ps, LV.of]
  cbv
  repeat' (first
   |(refine ⟨fun _ h_s=>?_,fun _ h_s=>?_⟩<;>(cbv;(try simp only [nc] at *);try simp (disch:=(first|omega|(simp only [lnS];omega))) only [rdT,rdS,reduceCtorEq,trT] at h_s))
   |(refine hF ?_;intro _;clear hF)
   |(refine hF ?_;cbv;clear hF)
   |(refine ⟨fun _=>?_,?_⟩;(· ((try simp only [nc] at *);first|done|omega|exact ⟨by omega,rfl⟩|(simp (disch:=(first|omega|(simp only [lnS];omega))) only [rdT,rdS];first|done|omega|rfl|exact ⟨by omega,rfl⟩|(simp;done)|(simp;omega))|(intros;trivial)));(try (simp only [nc] at *));(try simp (disch:=(first|omega|(simp only [lnS];omega))) only [rdT,rdS]);(try cbv))
   | fail
  )
  ·refine E.loopS (ι:=Nat) (fun b=>b≤(nG g)) (fun b=>(nG g) - b) (fun b=>[(8,.i fun _=>((b : Nat) : Int)),(6,.sl 2 (G (L a b)) 2 (fun _=>0) fun _=>(L a b).length)]) (fun b h=>h.set 2 (.run (G (L a b)) 2 fun _=>ps (L a b))) 0 (fun _=>by first|rfl|simp) (Nat.zero_le _) ?_ fun b hb I2 hI2=>?_
   ·cbv; simp
   cbv
   have c2 := c1 a b
   have d1 := lL a b ha hb
   have hsb := lS a b
   have hle := lE a
   skip
   repeat' (first
    |(refine hJ (a + 1) ?_ ?_ ?_;rotate_left 1;(· ((try simp only [nc] at *);omega));(cbv;clear hJ;(try clear hF);(try simp only [nc] at *);(try simp (disch:=(first|omega|(simp only [lnS];omega))) only [rdT,rdS,anT]));rotate_left 1;(try ((try simp only [nc] at *);omega)))
    |(refine hI2 (b + 1) ?_ ?_ ?_;rotate_left 1;(· ((try simp only [nc] at *);omega));(cbv;clear hI2;(try clear hF);(try simp only [nc] at *);(try simp (disch:=(first|omega|(simp only [lnS];omega))) only [rdT,rdS,anT]));rotate_left 1;(try ((try simp only [nc] at *);omega)))
    |(refine E.c (SCalls.of_le (c2 (by ((try simp only [nc] at *);omega)) (by ((try simp only [nc] at *);omega))) ?_ ?_);(· (cbv;(try simp only [nc] at *);first|done|(simp;done)|(simp (disch:=(first|omega|(simp only [lnS];omega))) only [rdT,rdS,anT];first|done|omega|(refine ⟨?_,?_⟩<;>omega))|(simp (disch:=(first|omega|(simp only [lnS];omega))) [rdT,rdS];done)));cbv)
    |(refine ⟨fun _ h_s=>?_,fun _ h_s=>?_⟩<;>(cbv;(try simp only [nc] at *);try simp (disch:=(first|omega|(simp only [lnS];omega))) only [rdT,rdS,reduceCtorEq,trT] at h_s))
    |(refine hF ?_;intro _;clear hF)
    |(refine hF ?_;cbv;clear hF)
    |(refine ⟨fun _=>?_,?_⟩;(· ((try simp only [nc] at *);first|done|omega|exact ⟨by omega,rfl⟩|(simp (disch:=(first|omega|(simp only [lnS];omega))) only [rdT,rdS];first|done|omega|rfl|exact ⟨by omega,rfl⟩|(simp;done)|(simp;omega))|(intros;trivial)|exact ⟨by first|trivial|rfl,by first|trivial|rfl|simp,by first|trivial|simp,by simp;omega,by simp;omega,by simp [AV.flat,AV.cells,AV.one]⟩));(try (simp only [nc] at *));(try simp (disch:=(first|omega|(simp only [lnS];omega))) only [rdT,rdS]);(try cbv))
    | fail
   )
   all_goals clear c1 c2 kl kg ks o1 o2 o3 p1 p2 p3 kO
   ·rw [if_pos (by assumption)] at hsb
    simp [hG, hsb, ps, setAll]
   ·rw [if_neg (by simp_all)] at hsb
    simp [hG, hsb]
   ·have e : b = nG g := by omega
    subst e
    rw [hle]
    exact ⟨⟨by push_cast; rfl, rfl, rfl⟩, rfl, rfl⟩
  ·have ea : a = nG g := by ((try simp only [nc] at *); omega)
   subst ea
   refine hI ?_
   cbv
   clear hI hJ
   simp only [List.drop_zero, nc]
   simp
   exact List.take_of_length_le (by simp)
 ·cbv
  repeat' (first
   |(refine E.c (SCalls.of_le (p3) ?_ ?_);(· (cbv;(try simp only [nc] at *);first|done|(simp;done)|(simp (disch:=(first|omega|(simp only [lnS];omega))) only [rdT,rdS,anT];first|done|omega|(refine ⟨?_,?_⟩<;>omega))|(simp (disch:=(first|omega|(simp only [lnS];omega))) [rdT,rdS];done)));cbv)
   |(refine E.c (SCalls.of_le (p2) ?_ ?_);(· (cbv;(try simp only [nc] at *);first|done|(simp;done)|(simp (disch:=(first|omega|(simp only [lnS];omega))) only [rdT,rdS,anT];first|done|omega|(refine ⟨?_,?_⟩<;>omega))|(simp (disch:=(first|omega|(simp only [lnS];omega))) [rdT,rdS];done)));cbv)
   |(refine E.c (SCalls.of_le (p1) ?_ ?_);(· (cbv;(try simp only [nc] at *);first|done|(simp;done)|(simp (disch:=(first|omega|(simp only [lnS];omega))) only [rdT,rdS,anT];first|done|omega|(refine ⟨?_,?_⟩<;>omega))|(simp (disch:=(first|omega|(simp only [lnS];omega))) [rdT,rdS];done)));cbv)
   | (refine E.c (SCalls.of_bare (o3) rfl ?_ ?_); (· (cbv; simp [rls, ps, us, is, LV.of]; done)); cbv)
   | (refine E.c (SCalls.of_le (o3) ?_ ?_); (· (cbv; simp [rls, ps, us, is, LV.of]; done)); cbv)
   | (refine E.q (QCalls.of_le (o3) ?_ ?_); (· (cbv; simp [rls, ps, us, is, LV.of]; done)); cbv)
   | (refine E.c (SCalls.of_bare (o2) rfl ?_ ?_); (· (cbv; simp [rls, ps, us, is, LV.of]; done)); cbv)
   | (refine E.c (SCalls.of_le (o2) ?_ ?_); (· (cbv; simp [rls, ps, us, is, LV.of]; done)); cbv)
   | (refine E.q (QCalls.of_le (o2) ?_ ?_); (· (cbv; simp [rls, ps, us, is, LV.of]; done)); cbv)
   | (refine E.c (SCalls.of_bare (o1) rfl ?_ ?_); (· (cbv; simp [rls, ps, us, is, LV.of]; done)); cbv)
   | (refine E.c (SCalls.of_le (o1) ?_ ?_); (· (cbv; simp [rls, ps, us, is, LV.of]; done)); cbv)
   | (refine E.q (QCalls.of_le (o1) ?_ ?_); (· (cbv; simp [rls, ps, us, is, LV.of]; done)); cbv)
   |(refine E.c (SCalls.of_le (kO) ?_ ?_);(· (cbv;(try simp only [nc] at *);first|done|(simp;done)|(simp (disch:=(first|omega|(simp only [lnS];omega))) only [rdT,rdS,anT];first|done|omega|(refine ⟨?_,?_⟩<;>omega))|(simp (disch:=(first|omega|(simp only [lnS];omega))) [rdT,rdS];done)));cbv)
   |(refine E.c (SCalls.of_le (ks) ?_ ?_);(· (cbv;(try simp only [nc] at *);first|done|(simp;done)|(simp (disch:=(first|omega|(simp only [lnS];omega))) only [rdT,rdS,anT];first|done|omega|(refine ⟨?_,?_⟩<;>omega))|(simp (disch:=(first|omega|(simp only [lnS];omega))) [rdT,rdS];done)));cbv)
   |(refine E.c (SCalls.of_le (kg) ?_ ?_);(· (cbv;(try simp only [nc] at *);first|done|(simp;done)|(simp (disch:=(first|omega|(simp only [lnS];omega))) only [rdT,rdS,anT];first|done|omega|(refine ⟨?_,?_⟩<;>omega))|(simp (disch:=(first|omega|(simp only [lnS];omega))) [rdT,rdS];done)));cbv)
   |(refine ⟨fun _ h_s=>?_,fun _ h_s=>?_⟩<;>(cbv;(try simp only [nc] at *);try simp (disch:=(first|omega|(simp only [lnS];omega))) only [rdT,rdS,reduceCtorEq,trT] at h_s))
   |(refine hF ?_;intro _;clear hF)
   |(refine hF ?_;cbv;clear hF)
   |(refine ⟨fun _=>?_,?_⟩;(· ((try simp only [nc] at *);first|done|omega|exact ⟨by omega,rfl⟩|(simp (disch:=(first|omega|(simp only [lnS];omega))) only [rdT,rdS];first|done|omega|rfl|exact ⟨by omega,rfl⟩|(simp;done)|(simp;omega))|(intros;trivial)|exact ⟨by first|trivial|rfl,by first|trivial|rfl|simp,by first|trivial|simp,by simp;omega,by simp;omega,by simp [AV.flat,AV.cells,AV.one]⟩));(try (simp only [nc] at *));(try simp (disch:=(first|omega|(simp only [lnS];omega))) only [rdT,rdS]);(try cbv))
   | fail
  )
  simp
end Go.AL.Rl

namespace Go.AL.Rl
open Go Go.AL Go.Proofs
set_option maxRecDepth 100000
set_option maxHeartbeats 3200000
variable {γ : Nat → Option AV}

theorem rin_ok (l : List EId) (d : EId) (hl : (l.length : Int) ≤ 9223372036854775807) : Pure Tryz.prog γ false 21 [.vs 2 fun _ => ids l, aId d] (.b fun _ => decide (d ∈ l)) := by
 refine Pure.go (ty := ty) ty_eq mo Tryz.func21 rfl Tryz.ntmps21 Tryz.results21 Tryz.call21 (by simp) fun P C CQ D W F E hF => ?_
 cbv
 repeat' (first
  |(refine ⟨fun _ h_s=>?_,fun _ h_s=>?_⟩<;>(cbv;(try simp only [nc] at *);try simp (disch:=(first|omega|(simp only [lnS];omega))) only [rdT,rdS,reduceCtorEq,trT] at h_s))
  |(refine hF ?_;intro _;clear hF)
  |(refine hF ?_;cbv;clear hF)
  |(refine ⟨fun _=>?_,?_⟩;(· ((try simp only [nc] at *);first|done|omega|exact ⟨by omega,rfl⟩|(simp (disch:=(first|omega|(simp only [lnS];omega))) only [rdT,rdS];first|done|omega|rfl|exact ⟨by omega,rfl⟩|(simp;done)|(simp;omega))|(intros;trivial)));(try (simp only [nc] at *));(try simp (disch:=(first|omega|(simp only [lnS];omega))) only [rdT,rdS]);(try cbv))
  |(refine E.d 5 (by decide +kernel) ?_;cbv;(fail_if_success guard_target =~ False))
  | fail
 )
 refine E.loopS (ι:=Nat) (fun i=>i≤l.length∧(∀ k < i,l.getD k id0 ≠ d)) (fun i=>l.length - i) (fun i=>[(5,.i fun _=>((i : Nat) : Int))]) (fun i h=>h) 0 (fun _=>by first|rfl|simp) ⟨Nat.zero_le _,?_⟩ ?_ fun i hi I hI=>?_
 ·intro k hk; omega
 ·cbv; simp
 cbv
 obtain ⟨hi, hp⟩ := hi
 repeat' (first
  |(refine hI (i + 1) ?_ ?_ ?_;rotate_left 1;(· ((try simp only [nc] at *);omega));(cbv;clear hI;(try clear hF);(try simp only [nc] at *);(try simp (disch:=(first|omega|(simp only [lnS];omega))) only [rdT,rdS,anT]));rotate_left 1;(try ((try simp only [nc] at *);omega)))
  |(refine ⟨fun _ h_s=>?_,fun _ h_s=>?_⟩<;>(cbv;(try simp only [nc] at *);try simp (disch:=(first|omega|(simp only [lnS];omega))) only [rdT,rdS,reduceCtorEq,trT] at h_s))
  |(refine hF ?_;intro _;clear hF)
  |(refine hF ?_;cbv;clear hF)
  |(refine ⟨fun _=>?_,?_⟩;(· ((try simp only [nc] at *);first|done|omega|exact ⟨by omega,rfl⟩|(simp (disch:=(first|omega|(simp only [lnS];omega))) only [rdT,rdS];first|done|omega|rfl|exact ⟨by omega,rfl⟩|(simp;done)|(simp;omega))|(intros;trivial)));(try (simp only [nc] at *));(try simp (disch:=(first|omega|(simp only [lnS];omega))) only [rdT,rdS]);(try cbv))
  |(refine E.d 5 (by decide +kernel) ?_;cbv;(fail_if_success guard_target =~ False))
  | fail
 )
 ·simp only [Bool.and_true, Bool.and_eq_true, decide_eq_true_eq] at h_s
  have he : l.getD i id0 = d := EId.ext' h_s.1 h_s.2
  exact decide_eq_true (he ▸ getD_mem (by ((try simp only [nc] at *); omega)))
 ·refine ⟨by ((try simp only [nc] at *); omega), fun k hk => ?_⟩
  rcases Nat.lt_or_ge k i with h1 | h1
  ·exact hp k h1
  ·obtain rfl : k = i := by omega
   intro e
   rw [← e] at h_s
   simp at h_s
 ·push_cast; rfl
 ·refine decide_eq_false fun hm => ?_
  obtain ⟨k, hk, e⟩ := List.getElem_of_mem hm
  exact hp k (by ((try simp only [nc] at *); omega)) (by simp [hk, e])
theorem rthere_ok (g : Gr) (hg : Rd g) (d : EId) : Pure Tryz.prog γ false 72 [aGr g, aId d] (.b fun _ => decide (d ∈ idsT g g.th.length)) := by
 have h1 := hg.th
 have hm := idsT_mem (g := g) (t := g.th.length) (d := d)
 have hle := ths_le hg (d.t - 1).toNat
 have hy : (1 ≤ d.t ∧ d.t ≤ (g.th.length : Nat) ∧ 0 ≤ d.i ∧ d.i < (g.th.getD (d.t - 1).toNat []).length) → decide (d ∈ idsT g g.th.length) = true := fun h => decide_eq_true (hm.2 h)
 have hno : ¬ (1 ≤ d.t ∧ d.t ≤ (g.th.length : Nat) ∧ 0 ≤ d.i ∧ d.i < (g.th.getD (d.t - 1).toNat []).length) → decide (d ∈ idsT g g.th.length) = false := fun h => decide_eq_false fun x => h (hm.1 x)
 generalize decide (d ∈ idsT g g.th.length) = z at *
 clear hm
 by_cases hr : 1 ≤ d.t ∧ d.t ≤ (g.th.length : Nat)
 ·have hx : 0 ≤ d.t - 1 ∧ d.t - 1 < g.th.length := by omega
  obtain ⟨hx1, hx2⟩ := hx
  refine Pure.go (ty := ty) ty_eq mo Tryz.func72 rfl Tryz.ntmps72 Tryz.results72 Tryz.call72 (by simp) fun P C CQ D W F E hF => ?_
  cbv
  repeat' (first
   |(refine ⟨fun _ h_s=>?_,fun _ h_s=>?_⟩<;>(cbv;(try simp only [nc] at *);try simp (disch:=(first|omega|(simp only [lnS];omega))) only [rdT,rdS,reduceCtorEq,trT] at h_s))
   |(refine hF ?_;intro _;clear hF)
   |(refine hF ?_;cbv;clear hF)
   |(refine ⟨fun _=>?_,?_⟩;(· ((try simp only [nc] at *);first|done|omega|exact ⟨by omega,rfl⟩|(simp (disch:=(first|omega|(simp only [lnS];omega))) only [rdT,rdS];first|done|omega|rfl|exact ⟨by omega,rfl⟩|(simp;done)|(simp;omega))|(intros;trivial)));(try (simp only [nc] at *));(try simp (disch:=(first|omega|(simp only [lnS];omega))) only [rdT,rdS]);(try cbv))
   |(refine E.d 27 (by decide +kernel) ?_;cbv;(fail_if_success guard_target =~ False))
   | fail
  )
  all_goals first
   | (rw [hy (by ((try simp only [nc] at *); omega))]; done)
   | (rw [hno (by ((try simp only [nc] at *); omega))]; done)
   | (
     by_cases hq : d.i < ((g.th.getD (d.t - 1).toNat []).length : Nat)
     ·show decide _ = z
      rw [hy (by ((try simp only [nc] at *); omega))]; exact decide_eq_true hq
     ·show decide _ = z
      rw [hno (by ((try simp only [nc] at *); omega))]; exact decide_eq_false hq)
 ·refine Pure.go (ty := ty) ty_eq mo Tryz.func72 rfl Tryz.ntmps72 Tryz.results72 Tryz.call72 (by simp) fun P C CQ D W F E hF => ?_
  cbv
  repeat' (first
   |(refine ⟨fun _ h_s=>?_,fun _ h_s=>?_⟩<;>(cbv;(try simp only [nc] at *);try simp (disch:=(first|omega|(simp only [lnS];omega))) only [rdT,rdS,reduceCtorEq,trT] at h_s))
   |(refine hF ?_;intro _;clear hF)
   |(refine hF ?_;cbv;clear hF)
   |(refine ⟨fun _=>?_,?_⟩;(· ((try simp only [nc] at *);first|done|omega|exact ⟨by omega,rfl⟩|(simp (disch:=(first|omega|(simp only [lnS];omega))) only [rdT,rdS];first|done|omega|rfl|exact ⟨by omega,rfl⟩|(simp;done)|(simp;omega))|(intros;trivial)));(try (simp only [nc] at *));(try simp (disch:=(first|omega|(simp only [lnS];omega))) only [rdT,rdS]);(try cbv))
   |(refine E.d 27 (by decide +kernel) ?_;cbv;(fail_if_success guard_target =~ False))
   | fail
  )
  all_goals first
   | (rw [hno (by ((try simp only [nc] at *); omega))]; done)
   | (exfalso; ((try simp only [nc] at *); omega))
   | (exfalso; exact hr (by ((try simp only [nc] at *); omega)))
theorem rall_ok (g : Gr) (hs : Short g) : Pure Tryz.prog γ false 55 [aGr g] (.vs 2 fun _ => ids (idsT g g.th.length)) := by
 have hth := hs.th
 have hg : ∀ t, (g.th.getD t []).length ≤ 14 := hs.at
 obtain ⟨L2, hL2⟩ : ∃ L2 : Nat → Nat → List EId, ∀ t i, L2 t i = idsT g t ++ idsE t i := ⟨_, fun _ _ => rfl⟩
 have l0 : L2 0 0 = [] := by rw [hL2]; rfl
 have mS : ∀ t i, L2 t (i + 1) = L2 t i ++ [⟨t + 1, i⟩] := fun t i => by rw [hL2, hL2, idsE_succ]; simp only [List.append_assoc]
 have mE : ∀ t, L2 t (g.th.getD t []).length = L2 (t + 1) 0 := fun t => by rw [hL2, hL2, idsT_succ]; simp [idsE]
 have mF : L2 g.th.length 0 = idsT g g.th.length := by rw [hL2]; simp [idsE]
 have mL : ∀ t i, (L2 t i).length ≤ 14 * t + i := fun t i => by
  have := evsT_len hs t
  rw [hL2]; simp only [List.length_append, idsE_len, idsT_len]; omega
 obtain ⟨G, hG⟩ : ∃ G : List EId → Nat, ∀ l, G l = l.length := ⟨_, fun _ => rfl⟩
 have hG0 : G [] = 0 := by rw [hG]; rfl
 refine Pure.go (ty := ty) ty_eq mo Tryz.func55 rfl Tryz.ntmps55 Tryz.results55 Tryz.call55 (by simp) fun P C CQ D W F E hF => ?_
 cbv
 repeat' (first
  |(refine ⟨fun _ h_s=>?_,fun _ h_s=>?_⟩<;>(cbv;(try simp only [nc] at *);try simp (disch:=(first|omega|(simp only [lnS];omega))) only [rdT,rdS,reduceCtorEq,trT] at h_s))
  |(refine hF ?_;intro _;clear hF)
  |(refine hF ?_;cbv;clear hF)
  |(refine ⟨fun _=>?_,?_⟩;(· ((try simp only [nc] at *);first|done|omega|exact ⟨by omega,rfl⟩|(simp (disch:=(first|omega|(simp only [lnS];omega))) only [rdT,rdS];first|done|omega|rfl|exact ⟨by omega,rfl⟩|(simp;done)|(simp;omega))|(intros;trivial)));(try (simp only [nc] at *));(try simp (disch:=(first|omega|(simp only [lnS];omega))) only [rdT,rdS]);(try cbv))
  | fail
 )
 refine E.w (AWP.ghostSlot 3 2 rfl (by omega) (E.loopSA (ι := Nat) (fun t => t ≤ g.th.length) (fun t => g.th.length - t) (fun t => [(4, .i fun _ => ((t : Nat) : Int)), (3, .sl 1 (G (L2 t 0)) 2 (fun _ => 0) fun _ => (L2 t 0).length)]) (fun t h => h.set 1 (.run (G (L2 t 0)) 2 fun _ => ids (L2 t 0))) 0 (fun _ => by first | rfl | simp) (Nat.zero_le _) ?_ fun t ht I1 hI1 => ?_))
 ·cbv; simp [l0, hG0, ids, LV.of]
 cbv
 have hgt := hg t
 repeat' (first
  |(refine ⟨fun _ h_s=>?_,fun _ h_s=>?_⟩<;>(cbv;(try simp only [nc] at *);try simp (disch:=(first|omega|(simp only [lnS];omega))) only [rdT,rdS,reduceCtorEq,trT] at h_s))
  |(refine hF ?_;intro _;clear hF)
  |(refine hF ?_;cbv;clear hF)
  |(refine ⟨fun _=>?_,?_⟩;(· ((try simp only [nc] at *);first|done|omega|exact ⟨by omega,rfl⟩|(simp (disch:=(first|omega|(simp only [lnS];omega))) only [rdT,rdS];first|done|omega|rfl|exact ⟨by omega,rfl⟩|(simp;done)|(simp;omega))|(intros;trivial)));(try (simp only [nc] at *));(try simp (disch:=(first|omega|(simp only [lnS];omega))) only [rdT,rdS]);(try cbv))
  | fail
 )
 ·refine E.loopS (ι:=Nat) (fun i=>i≤(g.th.getD t []).length) (fun i=>(g.th.getD t []).length - i) (fun i=>[(5,.i fun _=>((i : Nat) : Int)),(3,.sl 1 (G (L2 t i)) 2 (fun _=>0) fun _=>(L2 t i).length)]) (fun i h=>h.set 1 (.run (G (L2 t i)) 2 fun _=>ids (L2 t i))) 0 (fun _=>by first|rfl|simp) (Nat.zero_le _) ?_ fun i hi I2 hI2=>?_
  ·cbv; simp
  cbv
  have f1 := mS t i
  have f2 := mL t i
  have f3 := mE t
  skip
  repeat' (first
   |(refine hI2 (i + 1) ?_ ?_ ?_;rotate_left 1;(· ((try simp only [nc] at *);omega));(cbv;clear hI2;(try clear hF);(try simp only [nc] at *);(try simp (disch:=(first|omega|(simp only [lnS];omega))) only [rdT,rdS,anT]));rotate_left 1;(try ((try simp only [nc] at *);omega)))
   |(refine ⟨fun _ h_s=>?_,fun _ h_s=>?_⟩<;>(cbv;(try simp only [nc] at *);try simp (disch:=(first|omega|(simp only [lnS];omega))) only [rdT,rdS,reduceCtorEq,trT] at h_s))
   |(refine hF ?_;intro _;clear hF)
   |(refine hF ?_;cbv;clear hF)
   |(refine ⟨fun _=>?_,?_⟩;(· ((try simp only [nc] at *);first|done|omega|exact ⟨by omega,rfl⟩|(simp (disch:=(first|omega|(simp only [lnS];omega))) only [rdT,rdS];first|done|omega|rfl|exact ⟨by omega,rfl⟩|(simp;done)|(simp;omega))|(intros;trivial)|exact ⟨by first|trivial|rfl,by first|trivial|rfl|simp,by first|trivial|simp,by simp;omega,by simp;omega,by simp [AV.flat,AV.cells,AV.one]⟩));(try (simp only [nc] at *));(try simp (disch:=(first|omega|(simp only [lnS];omega))) only [rdT,rdS]);(try cbv))
   | fail
  )
  ·refine ⟨⟨⟨by rw [hG, hG, f1]; simp, ?_⟩, by push_cast; rfl⟩, by rw [hG, hG, f1]; simp, ?_⟩
   ·rw [f1]; simp [setAll]
   ·show LV.of ((ids (L2 t i)).l ++ (ids [⟨(t : Int) + 1, (i : Int)⟩]).l) = _
    rw [ids_app, ids_of, f1]
  ·have ei : i = (g.th.getD t []).length := by ((try simp only [nc] at *); omega)
   subst ei
   rw [f3]
   repeat' (first
    |(refine hI1 (t + 1) ?_ ?_ ?_;rotate_left 1;(· ((try simp only [nc] at *);omega));(cbv;clear hI1;(try clear hF);(try simp only [nc] at *);(try simp (disch:=(first|omega|(simp only [lnS];omega))) only [rdT,rdS,anT]));rotate_left 1;(try ((try simp only [nc] at *);omega)))
    |(refine ⟨fun _ h_s=>?_,fun _ h_s=>?_⟩<;>(cbv;(try simp only [nc] at *);try simp (disch:=(first|omega|(simp only [lnS];omega))) only [rdT,rdS,reduceCtorEq,trT] at h_s))
    |(refine hF ?_;intro _;clear hF)
    |(refine hF ?_;cbv;clear hF)
    |(refine ⟨fun _=>?_,?_⟩;(· ((try simp only [nc] at *);first|done|omega|exact ⟨by omega,rfl⟩|(simp (disch:=(first|omega|(simp only [lnS];omega))) only [rdT,rdS];first|done|omega|rfl|exact ⟨by omega,rfl⟩|(simp;done)|(simp;omega))|(intros;trivial)|exact ⟨by first|trivial|rfl,by first|trivial|rfl|simp,by first|trivial|simp,by simp;omega,by simp;omega,by simp [AV.flat,AV.cells,AV.one]⟩));try cbv)
    | fail
   )
   push_cast; rfl
 ·have et : t = g.th.length := by ((try simp only [nc] at *); omega)
  subst et
  rw [mF]
  intro _
  refine ⟨rfl, by simp, ?_⟩
  rw [List.drop_zero, List.take_of_length_le (by simp)]
theorem rwhen_ok (s : Sta) (m : Mk) (hl : (s.ms.length : Int) ≤ 9223372036854775807) : Pure Tryz.prog γ false 12 [aSt s, aMk m] (.i fun _ => numK s.ms m) := by
 refine Pure.go (ty := ty) ty_eq mo Tryz.func12 rfl Tryz.ntmps12 Tryz.results12 Tryz.call12 (by simp) fun P C CQ D W F E hF => ?_
 cbv
 skip
 repeat' (first
  |(refine ⟨fun _ h_s=>?_,fun _ h_s=>?_⟩<;>(cbv;(try simp only [nc] at *);try simp (disch:=(first|omega|(simp only [lnS,mks_len];omega))) only [rdT,rdS,mks_len,mks_get,reduceCtorEq,trT] at h_s))
  |(refine hF ?_;intro _;clear hF)
  |(refine hF ?_;cbv;clear hF)
  |(refine ⟨fun _=>?_,?_⟩;(· ((try simp only [nc] at *);first|done|omega|exact ⟨by omega,rfl⟩|(simp (disch:=(first|omega|(simp only [lnS,mks_len];omega))) only [rdT,rdS,mks_len,mks_get];first|done|omega|rfl|exact ⟨by omega,rfl⟩|(simp;done)|(simp;omega))|(intros;trivial)|exact ⟨by first|trivial|rfl,by first|trivial|rfl|simp,by first|trivial|simp,by simp;omega,by simp;omega,by simp [AV.flat,AV.cells,AV.one]⟩));(try (simp only [nc] at *));(try simp (disch:=(first|omega|(simp only [lnS,mks_len];omega))) only [rdT,rdS,mks_len,mks_get]);(try cbv))
  |(refine E.d 6 (by decide +kernel) ?_;cbv;(fail_if_success guard_target =~ False))
  | fail
 )
 refine E.loopS (ι:=Nat) (fun i=>i≤s.ms.length∧(∀ k < i,s.ms.getD k mk0 ≠ m)) (fun i=>s.ms.length - i) (fun i=>[(5,.i fun _=>((i : Nat) : Int))]) (fun i h=>h) 0 (fun _=>by first|rfl|simp) ⟨Nat.zero_le _,?_⟩ ?_ fun i hi I hI=>?_
 ·intro k hk; omega
 ·cbv; simp
 cbv
 obtain ⟨hi, hp⟩ := hi
 repeat' (first
  |(refine hI (i + 1) ?_ ?_ ?_;rotate_left 1;(· ((try simp only [nc] at *);omega));(cbv;clear hI;(try clear hF);(try simp only [nc] at *);(try simp (disch:=(first|omega|(simp only [lnS,mks_len];omega))) only [rdT,rdS,mks_len,mks_get,anT]));rotate_left 1;(try ((try simp only [nc] at *);omega)))
  |(refine ⟨fun _ h_s=>?_,fun _ h_s=>?_⟩<;>(cbv;(try simp only [nc] at *);try simp (disch:=(first|omega|(simp only [lnS,mks_len];omega))) only [rdT,rdS,mks_len,mks_get,reduceCtorEq,trT] at h_s))
  |(refine hF ?_;intro _;clear hF)
  |(refine hF ?_;cbv;clear hF)
  |(refine ⟨fun _=>?_,?_⟩;(· ((try simp only [nc] at *);first|done|omega|exact ⟨by omega,rfl⟩|(simp (disch:=(first|omega|(simp only [lnS,mks_len];omega))) only [rdT,rdS,mks_len,mks_get];first|done|omega|rfl|exact ⟨by omega,rfl⟩|(simp;done)|(simp;omega))|(intros;trivial)|exact ⟨by first|trivial|rfl,by first|trivial|rfl|simp,by first|trivial|simp,by simp;omega,by simp;omega,by simp [AV.flat,AV.cells,AV.one]⟩));(try (simp only [nc] at *));(try simp (disch:=(first|omega|(simp only [lnS,mks_len];omega))) only [rdT,rdS,mks_len,mks_get]);(try cbv))
  |(refine E.d 6 (by decide +kernel) ?_;cbv;(fail_if_success guard_target =~ False))
  | fail
 )
 ·have he : s.ms.getD i mk0 = m := (mk_iff _ _).2 (by simpa [and_assoc] using h_s)
  exact (numK_at (by ((try simp only [nc] at *); omega)) he hp).symm
 ·refine ⟨by ((try simp only [nc] at *); omega), fun k hk => ?_⟩
  rcases Nat.lt_or_ge k i with h1 | h1
  ·exact hp k h1
  ·obtain rfl : k = i := by omega
   intro e
   have := (mk_iff _ _).1 e
   simp only [this] at h_s
   simp at h_s
 ·push_cast; rfl
 ·have e : i = s.ms.length := by ((try simp only [nc] at *); omega)
  subst e
  exact (numK_no hp).symm
end Go.AL.Rl

namespace Go.AL.Rl
open Go Go.AL Go.Proofs
set_option maxRecDepth 100000
set_option maxHeartbeats 3200000
variable {γ : Nat → Option AV}

theorem rnumber_ok (g : Gr) (hg : Rd g) (h : GOk g) (d : EId) (hd : d ∈ idsT g g.th.length) : Pure Tryz.prog γ false 97 [aGr g, aId d] (.i fun _ => (numOf (idsG g) d : Nat)) := by
 have ke := revent_ok (γ := γ) g hg d
 have kc := check14_ok (γ := γ) g hg
 rw [gcheck0 h] at kc
 have hs := h.short
 have hin := hs.init
 have hth := hs.th
 obtain ⟨h1, h2, h3, h4⟩ := idsT_mem.1 hd
 obtain ⟨t, ht⟩ : ∃ t : Nat, d.t = (t : Int) + 1 := ⟨(d.t - 1).toNat, by omega⟩
 obtain ⟨i, hi⟩ : ∃ i : Nat, d.i = (i : Int) := ⟨d.i.toNat, by omega⟩
 obtain rfl : d = ⟨(t : Int) + 1, (i : Int)⟩ := EId.ext' ht hi
 clear ht hi h1 h3
 have ht : t < g.th.length := by simp only at h2; omega
 have hi : i < (g.th.getD t []).length := by
  simp only at h4
  rw [show ((t : Int) + 1 - 1).toNat = t by omega] at h4
  omega
 clear h2 h4 hd
 have hq : (eventM g ⟨(t : Int) + 1, (i : Int)⟩).isSome = true := by rw [event_thread ht hi]; rfl
 rw [hq] at ke
 rw [num_at ht hi]
 have hle := hs.at
 obtain ⟨V, hV⟩ : ∃ V : Nat → Nat, ∀ k, V k = g.init.length + (evsT g k).length := ⟨_, fun _ => rfl⟩
 have hV0 : V 0 = g.init.length := by rw [hV]; simp [evsT]
 have hVS : ∀ k, V (k + 1) = V k + (g.th.getD k []).length := fun k => by rw [hV, hV, evsT_succ, List.length_append]; omega
 have hVl : ∀ k, V k ≤ 6 + 14 * k := fun k => by have := evsT_len hs k; rw [hV]; omega
 rw [← hV t]
 clear hV
 generalize (eventM g ⟨(t : Int) + 1, (i : Int)⟩).getD ev0 = e at *
 refine Pure.go (ty := ty) ty_eq mo Tryz.func97 rfl Tryz.ntmps97 Tryz.results97 Tryz.call97 (by simp) fun P C CQ D W F E hF => ?_
 cbv
 repeat' (first
  |(refine E.c (SCalls.of_le (kc) ?_ ?_);(· (cbv;(try simp only [nc] at *);first|done|(simp;done)|(simp (disch:=(first|omega|(simp only [lnS];omega))) only [rdT,rdS,anT];first|done|omega|(refine ⟨?_,?_⟩<;>omega))|(simp (disch:=(first|omega|(simp only [lnS];omega))) [rdT,rdS];done)));cbv)
  |(refine E.c (SCalls.of_le (ke) ?_ ?_);(· (cbv;(try simp only [nc] at *);first|done|(simp;done)|(simp (disch:=(first|omega|(simp only [lnS];omega))) only [rdT,rdS,anT];first|done|omega|(refine ⟨?_,?_⟩<;>omega))|(simp (disch:=(first|omega|(simp only [lnS];omega))) [rdT,rdS];done)));cbv)
  |(refine ⟨fun _ h_s=>?_,fun _ h_s=>?_⟩<;>(cbv;(try simp only [nc] at *);try simp (disch:=(first|omega|(simp only [lnS];omega))) only [rdT,rdS,reduceCtorEq,trT] at h_s))
  |(refine hF ?_;intro _;clear hF)
  |(refine hF ?_;cbv;clear hF)
  |(refine ⟨fun _=>?_,?_⟩;(· ((try simp only [nc] at *);first|done|omega|exact ⟨by omega,rfl⟩|(simp (disch:=(first|omega|(simp only [lnS];omega))) only [rdT,rdS];first|done|omega|rfl|exact ⟨by omega,rfl⟩|(simp;done)|(simp;omega))|(intros;trivial)));(try (simp only [nc] at *));(try simp (disch:=(first|omega|(simp only [lnS];omega))) only [rdT,rdS]);(try cbv))
  | fail
 )
 ·exact absurd h_s (by simp)
 ·exfalso; ((try simp only [nc] at *); omega)
 refine E.loopS (ι:=Nat) (fun k=>k≤t) (fun k=>t - k) (fun k=>[(7,.i fun _=>((V k : Nat) : Int)),(8,.i fun _=>((k : Nat) : Int) + 1)]) (fun k h=>h) 0 (fun _=>by first|rfl|simp) (Nat.zero_le _) ?_ fun k hk I hI=>?_
 ·cbv; simp [hV0]
 cbv
 have e1 := hVS k
 have e2 := hVl k
 have e3 := hle k
 repeat' (first
  |(refine hI (k + 1) ?_ ?_ ?_;rotate_left 1;(· ((try simp only [nc] at *);omega));(cbv;clear hI;(try clear hF);(try simp only [nc] at *);(try simp (disch:=(first|omega|(simp only [lnS];omega))) only [rdT,rdS,anT]));rotate_left 1;(try ((try simp only [nc] at *);omega)))
  |(refine ⟨fun _ h_s=>?_,fun _ h_s=>?_⟩<;>(cbv;(try simp only [nc] at *);try simp (disch:=(first|omega|(simp only [lnS];omega))) only [rdT,rdS,reduceCtorEq,trT] at h_s))
  |(refine hF ?_;intro _;clear hF)
  |(refine hF ?_;cbv;clear hF)
  |(refine ⟨fun _=>?_,?_⟩;(· ((try simp only [nc] at *);first|done|omega|exact ⟨by omega,rfl⟩|(simp (disch:=(first|omega|(simp only [lnS];omega))) only [rdT,rdS];first|done|omega|rfl|exact ⟨by omega,rfl⟩|(simp;done)|(simp;omega))|(intros;trivial)));(try (simp only [nc] at *));(try simp (disch:=(first|omega|(simp only [lnS];omega))) only [rdT,rdS]);(try cbv))
  | fail
 )
 ·have hx : ((k : Int) + 1 - 1).toNat = k := by omega
  refine ⟨?_, by push_cast; rfl⟩
  rw [hx, w64_of (by omega) (by omega), e1]; push_cast; rfl
 ·have e : k = t := by ((try simp only [nc] at *); omega)
  subst e
  rw [w64_of (by omega) (by omega)]; push_cast; rfl
theorem rmarks_ok (g : Gr) (hg : Rd g) (h : GOk g) : Pure Tryz.prog γ false 25 [aGr g] (.vs 3 fun _ => mks (allN g)) := by
 have ka := rall_ok (γ := γ) g h.short
 have ke := fun d => rEvent_ok (γ := γ) g hg h d
 have hl := idsT_short h.short
 rw [← rmks_all]
 have m0 := rmks_zero g
 have mS := fun i hi => rmks_succ g (i := i) hi
 have mL := rmks_len g
 have hk : ∀ d, kindD g d = ((eventM g d).getD ev0).kind := fun _ => rfl
 simp only [needM, hk] at mS
 clear hk
 generalize rmks g = M at *
 generalize idsT g g.th.length = L at *
 obtain ⟨V, hV⟩ : ∃ V : EId → Ev, ∀ d, V d = (eventM g d).getD ev0 := ⟨_, fun _ => rfl⟩
 simp only [← hV] at mS ke
 obtain ⟨G, hG⟩ : ∃ G : List Mk → Nat, ∀ l, G l = l.length := ⟨_, fun _ => rfl⟩
 have hG0 : G [] = 0 := by rw [hG]; rfl
 refine Pure.go (ty := ty) ty_eq mo Tryz.func25 rfl Tryz.ntmps25 Tryz.results25 Tryz.call25 (by simp) fun P C CQ D W F E hF => ?_
 cbv
 skip
 repeat' (first
  |(refine E.c (SCalls.of_le (ka) ?_ ?_);(· (cbv;(try simp only [nc] at *);first|done|(simp;done)|(simp (disch:=(first|omega|(simp only [lnS,mks_len];omega))) only [rdT,rdS,mks_len,mks_get,anT];first|done|omega|(refine ⟨?_,?_⟩<;>omega))|(simp (disch:=(first|omega|(simp only [lnS,mks_len];omega))) [rdT,rdS,mks_len,mks_get];done)));cbv)
  |(refine ⟨fun _ h_s=>?_,fun _ h_s=>?_⟩<;>(cbv;(try simp only [nc] at *);try simp (disch:=(first|omega|(simp only [lnS,mks_len];omega))) only [rdT,rdS,mks_len,mks_get,reduceCtorEq,trT] at h_s))
  |(refine hF ?_;intro _;clear hF)
  |(refine hF ?_;cbv;clear hF)
  |(refine ⟨fun _=>?_,?_⟩;(· ((try simp only [nc] at *);first|done|omega|exact ⟨by omega,rfl⟩|(simp (disch:=(first|omega|(simp only [lnS,mks_len];omega))) only [rdT,rdS,mks_len,mks_get];first|done|omega|rfl|exact ⟨by omega,rfl⟩|(simp;done)|(simp;omega))|(intros;trivial)));(try (simp only [nc] at *));(try simp (disch:=(first|omega|(simp only [lnS,mks_len];omega))) only [rdT,rdS,mks_len,mks_get]);(try cbv))
  | fail
 )
 refine E.w (AWP.ghostSlot 3 3 rfl (by omega) (E.loopSA (ι := Nat) (fun i => i ≤ L.length) (fun i => L.length - i) (fun i => [(5, .i fun _ => ((i : Nat) : Int)), (3, .sl 1 (G (M i)) 3 (fun _ => 0) fun _ => (M i).length)]) (fun i h => h.set 1 (.run (G (M i)) 3 fun _ => mks (M i))) 0 (fun _ => by first | rfl | simp) (Nat.zero_le _) ?_ fun i hi I hI => ?_))
 ·cbv; simp [m0, hG0, mks, LV.of]
 cbv
 have e1 := mS i
 have e2 := mL i hi
 have k2 := ke (L.getD i id0)
 skip
 repeat' (first
  |(refine hI (i + 1) ?_ ?_ ?_;rotate_left 1;(· ((try simp only [nc] at *);omega));(cbv;clear hI;(try clear hF);(try simp only [nc] at *);(try simp (disch:=(first|omega|(simp only [lnS,mks_len];omega))) only [rdT,rdS,mks_len,mks_get,anT]));rotate_left 1;(try ((try simp only [nc] at *);omega)))
  |((first|refine E.c (SCalls.of_le (k2) ?_ ?_)|refine E.q (QCalls.of_le (k2) ?_ ?_));(· (cbv;(try simp only [nc] at *);first|done|(simp;done)|(simp (disch:=(first|omega|(simp only [lnS,mks_len];omega))) only [rdT,rdS,mks_len,mks_get,anT];first|done|omega|(refine ⟨?_,?_⟩<;>omega))|(simp (disch:=(first|omega|(simp only [lnS,mks_len];omega))) [rdT,rdS,mks_len,mks_get];done)));cbv)
  |(refine E.de 12 [] [none] (by decide +kernel) ?_;cbv;(fail_if_success guard_target =~ False))
  |(refine ⟨fun _ h_s=>?_,fun _ h_s=>?_⟩<;>(cbv;(try simp only [nc] at *);try simp (disch:=(first|omega|(simp only [lnS,mks_len];omega))) only [rdT,rdS,mks_len,mks_get,reduceCtorEq,trT] at h_s))
  |(refine hF ?_;intro _;clear hF)
  |(refine hF ?_;cbv;clear hF)
  |(refine ⟨fun _=>?_,?_⟩;(· ((try simp only [nc] at *);first|done|omega|exact ⟨by omega,rfl⟩|(simp (disch:=(first|omega|(simp only [lnS,mks_len];omega))) only [rdT,rdS,mks_len,mks_get];first|done|omega|rfl|exact ⟨by omega,rfl⟩|(simp;done)|(simp;omega))|(intros;trivial)|exact ⟨by first|trivial|rfl,by first|trivial|rfl|simp,by first|trivial|simp,by simp;omega,by simp;omega,by simp [AV.flat,AV.cells,AV.one]⟩));(try (simp only [nc] at *));(try simp (disch:=(first|omega|(simp only [lnS,mks_len];omega))) only [rdT,rdS,mks_len,mks_get]);(try cbv))
  | fail
 )
 iterate 6
  ·have e1' := e1 (by ((try simp only [nc] at *); omega))
   by_cases q2 : (V (L.getD i ⟨0, 0⟩)).kind = 2
   ·rw [if_pos q2, if_pos (.inl q2)] at e1'
    first
     | (exfalso; omega)
     | (simp [hG, e1', mks, setAll, AV.nrm, nrms, nrm1]; done)
   ·rw [if_neg q2] at e1'
    by_cases q3 : (V (L.getD i ⟨0, 0⟩)).kind = 3
    ·rw [if_pos (.inr q3)] at e1'
     first
      | (exfalso; omega)
      | (simp [hG, e1', mks, setAll, AV.nrm, nrms, nrm1]; done)
    ·rw [if_neg (fun x => x.elim q2 q3)] at e1'
     first
      | (exfalso; omega)
      | (simp [hG, e1', mks, setAll, AV.nrm, nrms, nrm1]; done)
 ·have e : i = L.length := by ((try simp only [nc] at *); omega)
  subst e
  intro _
  refine ⟨rfl, by simp, ?_⟩
  rw [List.drop_zero, List.take_of_length_le (by simp)]
theorem rporf_ok (g : Gr) (hg : Rd g) (h : GOk g) : Pure Tryz.prog γ false 71 [aGr g] (encRel (nG g : Nat) (porfF (viewG g) (nG g))) := by
 have k := w15All_yes (γ := γ) g hg h
 generalize poF (viewG g) (nG g) = q1 at *
 generalize rfF (viewG g) (nG g) = q2 at *
 generalize coF (viewG g) (nG g) = q3 at *
 generalize frF (viewG g) (nG g) = q4 at *
 generalize swF (viewG g) (nG g) = q5 at *
 generalize ecoF (viewG g) (nG g) = q6 at *
 generalize porfF (viewG g) (nG g) = q7 at *
 generalize hbF (viewG g) (nG g) = q8 at *
 generalize locF (viewG g) (nG g) = q9 at *
 refine Pure.go (ty := ty) ty_eq mo Tryz.func71 rfl Tryz.ntmps71 Tryz.results71 Tryz.call71 (by simp) fun P C CQ D W F E hF => ?_
 cbv
 repeat' (first
  |(refine E.c (SCalls.of_le (k) ?_ ?_);(· (cbv;(try simp only [nc] at *);first|done|(simp;done)|(simp (disch:=(first|omega|(simp only [lnS,mks_len];omega))) only [rdT,rdS,mks_len,mks_get,anT];first|done|omega|(refine ⟨?_,?_⟩<;>omega))|(simp (disch:=(first|omega|(simp only [lnS,mks_len];omega))) [rdT,rdS,mks_len,mks_get];done)));cbv)
  |(refine ⟨fun _ h_s=>?_,fun _ h_s=>?_⟩<;>(cbv;(try simp only [nc] at *);try simp (disch:=(first|omega|(simp only [lnS,mks_len];omega))) only [rdT,rdS,mks_len,mks_get,reduceCtorEq,trT] at h_s))
  |(refine hF ?_;intro _;clear hF)
  |(refine hF ?_;cbv;clear hF)
  |(refine ⟨fun _=>?_,?_⟩;(· ((try simp only [nc] at *);first|done|omega|exact ⟨by omega,rfl⟩|(simp (disch:=(first|omega|(simp only [lnS,mks_len];omega))) only [rdT,rdS,mks_len,mks_get];first|done|omega|rfl|exact ⟨by omega,rfl⟩|(simp;done)|(simp;omega))|(intros;trivial)|exact ⟨by first|trivial|rfl,by first|trivial|rfl|simp,by first|trivial|simp,by simp;omega,by simp;omega,by simp [AV.flat,AV.cells,AV.one]⟩));(try (simp only [nc] at *));(try simp (disch:=(first|omega|(simp only [lnS,mks_len];omega))) only [rdT,rdS,mks_len,mks_get]);(try cbv))
  | fail
 )
 all_goals (try (simp; done))
end Go.AL.Rl
