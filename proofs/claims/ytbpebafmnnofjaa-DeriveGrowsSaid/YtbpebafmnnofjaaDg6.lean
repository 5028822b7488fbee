import Derived.Test.YtbpebafmnnofjaaDg5
set_option linter.unusedVariables false
set_option linter.unusedSimpArgs false
namespace Go.AL.Rl
open Go Go.AL Go.Proofs
set_option maxRecDepth 100000
set_option maxHeartbeats 3200000
variable {γ : Nat → Option AV}

theorem viewOf_no (g : Gr) (hg : Rd g) (h : ¬ GOk g) : Pure Try.prog γ false 22 [aGr g] (.tup [.np, .b fun _ => false]) := by
 have hc : gcheckM g ≠ 0 := by unfold gcheckM; split <;> simp [h]
 refine Pure.go (ty := ty) ty_eq mo Try.func22 rfl Try.ntmps22 Try.results22 Try.call22 (by simp) fun P C CQ D W F E hF => ?_
 cbv
 refine E.c (SCalls.of_le (gcheck_ok g hg) ?_ ?_)
 ·(cbv;(try simp only [nc] at *);first|done|(simp;done)|(simp (disch:=(first|omega|(simp only [lnS];omega))) only [rdT,rdS,anT];first|done|omega|(refine ⟨?_,?_⟩<;>omega))|(simp (disch:=(first|omega|(simp only [lnS];omega))) [rdT,rdS];done))
 cbv
 refine br_t (by simpa using hc) ?_
 cbv
 refine hF ?_
 cbv
 simp
theorem stI (n : Nat) (f : Nat → Int) (i : Nat) (y x : Int) (hi : i < n) : LV.of ((is (tabI n f)).l.set i ((AV.i fun _ => y).upd 0 (.i fun _ => x))) = is (tabI n fun j => if j = i then x else f j) := by
 simp only [is, LV.l_of]
 show LV.of (List.set _ _ (.i fun _ => x)) = _
 congr 1
 apply List.ext_getElem (by simp)
 intro j h1 h2
 simp only [List.getElem_set, tabI, List.getElem_map, List.getElem_range]
 split
 ·rename_i e; subst e; simp
 ·rename_i e; simp [Ne.symm e]
/-- the heap of viewOf, all sources told -/
def vhpF (g : Gr) (L : List EId) (E : List Ev) (n : Nat) (pl : Nat → Int) : List Blk :=
 [.box (aGr g), .box (.agg [.sl 5 n 2 (fun _ => 0) fun _ => L.length, .sl 6 n 5 (fun _ => 0) fun _ => E.length, .sl 7 1 1 (fun _ => 0) fun _ => L.length, .sl 8 1 1 (fun _ => 0) fun _ => L.length]), .box (.ptr 1 0), .map (fun _ => ids L) (fun _ => is (iota L.length)), .box (.mp 3), .run n 2 fun _ => ids L, .run n 5 fun _ => evs E, .run 1 1 fun _ => is (tabI n fun m => frOf g (L.getD m id0)), .run 1 1 fun _ => is (tabI n pl)]
theorem ordsAt {g : Gr} (hg : Rd g) (x : Nat) : ((g.ord.getD x []).length : Int) ≤ 9223372036854775807 := by
 rcases Nat.lt_or_ge x g.ord.length with h1 | h1
 ·exact hg.ords _ (getD_mem h1)
 ·simp [List.getElem?_eq_none h1]
theorem plTo_step {g : Gr} (hg : GOk g) {x i : Nat} (hx : x < g.ord.length) (hi : i < (g.ord.getD x []).length) {m : Nat} (hm : m < (idsG g).length) :
  (if m = numOf (idsG g) ((g.ord.getD x []).getD i id0) then ((i : Int) + 1) else plTo g (qsT g x ++ qsE g x i) ((idsG g).getD m id0)) = plTo g (qsT g x ++ qsE g x (i + 1)) ((idsG g).getD m id0) := by
 have hd := ord_mem hg hx hi
 rw [qsE_succ g x i hi, ← List.append_assoc]
 by_cases e : m = numOf (idsG g) ((g.ord.getD x []).getD i id0)
 ·rw [if_pos e, e, numOf_get hd, plTo, if_pos (by simp), plOf_at hg hx hi]
 ·rw [if_neg e]
  have e2 : (idsG g).getD m id0 ≠ (g.ord.getD x []).getD i id0 := fun e3 => e (by rw [← e3, numOf_at (idsG_nodup g) hm])
  unfold plTo
  have : ((idsG g).getD m id0 ∈ ((qsT g x ++ qsE g x i) ++ [((g.ord.getD x []).getD i id0, (x : Int))]).map (·.1)) ↔ ((idsG g).getD m id0 ∈ (qsT g x ++ qsE g x i).map (·.1)) := by
   rw [List.map_append, List.mem_append]
   simp only [List.map_cons, List.map_nil, List.mem_singleton, e2, or_false]
  simp only [this]
theorem viewOf_yes (g : Gr) (hg : Rd g) (h : GOk g) : Pure Try.prog γ false 22 [aGr g] (.tup [pVw (viewG g), .b fun _ => true]) := by
 have hc := gcheck0 h
 have hsh := h.short
 have hin := hsh.init
 have hth := hsh.th
 have hwf := viewG_wf h
 have hn := hwf.small
 obtain ⟨Lf, hLf⟩ : ∃ L, L = idsG g := ⟨_, rfl⟩
 obtain ⟨Mf, hMf⟩ : ∃ L, L = evsG g := ⟨_, rfl⟩
 obtain ⟨n, hnn⟩ : ∃ n, n = nG g := ⟨_, rfl⟩
 have hLn : Lf.length = n := by rw [hLf, hnn]; rfl
 have hMn : Mf.length = n := by rw [hMf, hnn]; exact hwf.ev
 refine Pure.goL (ty := ty) ty_eq mo Try.func22 rfl Try.ntmps22 Try.results22 Try.call22 (by simp) fun P C CQ D W F E hF => ?_
 refine E.cut 10 (told 165 [(1, .ptr 0 0), (4, .ptr 2 0), (5, .ptr 4 0)] (vhp g Lf Mf n)) (by kernel_rfl) (Nat.zero_le _) (fun I hI => ?_) ?_
 ·cbv
  refine E.c (SCalls.of_le (gcheck_ok g hg) ?_ ?_)
  ·(cbv;(try simp only [nc] at *);first|done|(simp;done)|(simp (disch:=(first|omega|(simp only [lnS];omega))) only [rdT,rdS,anT];first|done|omega|(refine ⟨?_,?_⟩<;>omega))|(simp (disch:=(first|omega|(simp only [lnS];omega))) [rdT,rdS];done))
  cbv
  refine br_f (by simp [hc]) ?_
  cbv
  refine E.w (AWP.ghostField 1 0 2 rfl rfl ?_)
  refine AWP.ghostField 1 1 5 rfl rfl ?_
  obtain ⟨G, hG⟩ : ∃ G : Nat → Nat, ∀ x, G x = x := ⟨_, fun _ => rfl⟩
  obtain ⟨L, hL⟩ : ∃ L : Nat → List EId, ∀ x, L x = idsI x := ⟨_, fun _ => rfl⟩
  obtain ⟨M, hM⟩ : ∃ M : Nat → List Ev, ∀ x, M x = evsI g x := ⟨_, fun _ => rfl⟩
  have hL0 : L 0 = [] := by rw [hL]; rfl
  have hM0 : M 0 = [] := by rw [hM]; rfl
  refine E.loopSA (ι:=Nat) (fun x=>x≤g.init.length) (fun x=>g.init.length - x) (fun x=>[(29,.i fun _=>((x : Nat) : Int))]) (fun x h=>vhp g (L x) (M x) (G x)) 0 (fun _=>by first|rfl|simp) (Nat.zero_le _) ?_ fun x hx I0 hI0=>?_
  ·cbv
   simp [hL0, hM0, hG, ids, evs, LV.of, is, iota]
  cbv
  have hput := put0_ok (γ := γ) g (L x) (M x) (G x) (by rw [hL, hM, idsI_len, evsI_len]) (by rw [hL, idsI_len]; omega) ⟨0, x⟩ ⟨2, x, 1, 0, g.init.getD x 0⟩ (by rw [hL, idsI_mem]; simp only; omega) (L (x + 1)) (M (x + 1)) (G (x + 1)) (by rw [hL, hL, idsI_succ]) (by rw [hM, hM, evsI_succ]) (by rw [hG, hG])
  repeat' (first
   |(refine hI0 (x + 1) ?_ ?_ ?_;rotate_left 1;(· ((try simp only [nc] at *);omega));(cbv;clear hI0;(try clear hF);(try simp only [nc] at *);(try simp (disch:=(first|omega|(simp only [lnS];omega))) only [rdT,rdS,anT]));rotate_left 1;(try ((try simp only [nc] at *);omega)))
   |(refine E.c (SCalls.to (hput) rfl (Nat.le_of_ble_eq_true rfl) ?_ ?_ ?_);(· (cbv;(try simp only [nc] at *);first|done|(simp;done)|(simp (disch:=(first|omega|(simp only [lnS];omega))) only [rdT,rdS,anT];first|done|omega|(refine ⟨?_,?_⟩<;>omega))|(simp (disch:=(first|omega|(simp only [lnS];omega))) [rdT,rdS];done)));(· (cbv;(try simp only [nc] at *);first|done|(simp;done)|(simp (disch:=(first|omega|(simp only [lnS];omega))) only [rdT,rdS,anT];first|done|omega|(refine ⟨?_,?_⟩<;>omega))|(simp (disch:=(first|omega|(simp only [lnS];omega))) [rdT,rdS];done)));cbv)
   |(refine ⟨fun _ h_s=>?_,fun _ h_s=>?_⟩<;>(cbv;(try simp only [nc] at *);try simp (disch:=(first|omega|(simp only [lnS];omega))) only [rdT,rdS,reduceCtorEq,trT] at h_s))
   |(refine hF ?_;intro _;clear hF)
   |(refine hF ?_;cbv;clear hF)
   |(refine ⟨fun _=>?_,?_⟩;(· ((try simp only [nc] at *);first|done|omega|exact ⟨by omega,rfl⟩|(simp (disch:=(first|omega|(simp only [lnS];omega))) only [rdT,rdS];first|done|omega|rfl|exact ⟨by omega,rfl⟩|(simp;done)|(simp;omega))|(intros;trivial)));(try (simp only [nc] at *));(try simp (disch:=(first|omega|(simp only [lnS];omega))) only [rdT,rdS]);(try cbv))
   |(refine E.d 9 (by decide +kernel) ?_;cbv;(fail_if_success guard_target =~ False))
   |(refine E.d 18 (by decide +kernel) ?_;cbv;(fail_if_success guard_target =~ False))
   | fail
  )
  ·omega
  clear hI0
  (try simp only [nc] at *)
  have e : x = g.init.length := by omega
  subst e
  have e1 : L g.init.length = idsI g.init.length ++ idsT g 0 := by rw [hL]; simp [idsT]
  have e2 : M g.init.length = evsI g g.init.length ++ evsT g 0 := by rw [hM]; simp [evsT]
  obtain ⟨L2, hL2⟩ : ∃ L2 : Nat → Nat → List EId, ∀ t i, L2 t i = idsI g.init.length ++ idsT g t ++ idsE t i := ⟨_, fun _ _ => rfl⟩
  obtain ⟨M2, hM2⟩ : ∃ M2 : Nat → Nat → List Ev, ∀ t i, M2 t i = evsI g g.init.length ++ evsT g t ++ (g.th.getD t []).take i := ⟨_, fun _ _ => rfl⟩
  obtain ⟨G2, hG2⟩ : ∃ G2 : Nat → Nat → Nat, ∀ t i, G2 t i = (L2 t i).length := ⟨_, fun _ _ => rfl⟩
  have f1 : L g.init.length = L2 0 0 := by rw [e1, hL2]; simp [idsE]
  have f2 : M g.init.length = M2 0 0 := by rw [e2, hM2]; simp
  have f3 : G g.init.length = G2 0 0 := by rw [hG, hG2, ← f1, hL, idsI_len]
  refine E.loopS (ι:=Nat) (fun t=>t≤g.th.length) (fun t=>g.th.length - t) (fun t=>[(45,.i fun _=>((t : Nat) : Int))]) (fun t h=>vhp g (L2 t 0) (M2 t 0) (G2 t 0)) 0 (fun _=>by first|rfl|simp) (Nat.zero_le _) ?_ fun t ht I1 hI1=>?_
  ·cbv
   simp [f1, f2, f3]
  cbv
  have hht := hsh.at t
  repeat' (first
   |(refine ⟨fun _ h_s=>?_,fun _ h_s=>?_⟩<;>(cbv;(try simp only [nc] at *);try simp (disch:=(first|omega|(simp only [lnS];omega))) only [rdT,rdS,reduceCtorEq,trT] at h_s))
   |(refine hF ?_;intro _;clear hF)
   |(refine hF ?_;cbv;clear hF)
   |(refine ⟨fun _=>?_,?_⟩;(· ((try simp only [nc] at *);first|done|omega|exact ⟨by omega,rfl⟩|(simp (disch:=(first|omega|(simp only [lnS];omega))) only [rdT,rdS];first|done|omega|rfl|exact ⟨by omega,rfl⟩|(simp;done)|(simp;omega))|(intros;trivial)));(try (simp only [nc] at *));(try simp (disch:=(first|omega|(simp only [lnS];omega))) only [rdT,rdS]);(try cbv))
   |(refine E.d 9 (by decide +kernel) ?_;cbv;(fail_if_success guard_target =~ False))
   |(refine E.d 18 (by decide +kernel) ?_;cbv;(fail_if_success guard_target =~ False))
   | fail
  )
  ·refine E.loopS (ι:=Nat) (fun i=>i≤(g.th.getD t []).length) (fun i=>(g.th.getD t []).length - i) (fun i=>[(52,.i fun _=>((i : Nat) : Int))]) (fun i h=>vhp g (L2 t i) (M2 t i) (G2 t i)) 0 (fun _=>by first|rfl|simp) (Nat.zero_le _) ?_ fun i hi I2 hI2=>?_
   ·cbv
    simp
   cbv
   have hLl : (L2 t i).length = (M2 t i).length := by
    rw [hL2, hM2]; simp only [List.length_append, idsI_len, evsI_len, idsE_len, idsT_len, List.length_take]; omega
   have hLm : (L2 t i).length ≤ 100 := by
    have := evsT_len hsh t
    rw [hL2]; simp only [List.length_append, idsI_len, idsE_len, idsT_len]; omega
   have hLnot : (⟨t + 1, i⟩ : EId) ∉ L2 t i := by
    rw [hL2, List.mem_append, List.mem_append, idsI_mem, idsT_mem, idsE_mem]; simp only; omega
   have hLs : L2 t (i + 1) = L2 t i ++ [⟨t + 1, i⟩] := by rw [hL2, hL2, idsE_succ]; simp only [List.append_assoc]
   have hMs : i < (g.th.getD t []).length → M2 t (i + 1) = M2 t i ++ [(g.th.getD t []).getD i ev0] := fun hi => by rw [hM2, hM2, take_succ' _ i ev0 hi]; simp only [List.append_assoc]
   have hGs : G2 t (i + 1) = G2 t i + 1 := by rw [hG2, hG2, hLs]; simp
   have hput := put1_ok (γ := γ) g .any (L2 t i) (M2 t i) (G2 t i) hLl hLm ⟨t + 1, i⟩ ((g.th.getD t []).getD i ev0) hLnot (L2 t (i + 1)) (M2 t (i + 1)) (G2 t (i + 1)) hLs
   repeat' (first
    |(refine hI1 (t + 1) ?_ ?_ ?_;rotate_left 1;(· ((try simp only [nc] at *);omega));(cbv;clear hI1;(try clear hF);(try simp only [nc] at *);(try simp (disch:=(first|omega|(simp only [lnS];omega))) only [rdT,rdS,anT]));rotate_left 1;(try ((try simp only [nc] at *);omega)))
    |(refine hI2 (i + 1) ?_ ?_ ?_;rotate_left 1;(· ((try simp only [nc] at *);omega));(cbv;clear hI2;(try clear hF);(try simp only [nc] at *);(try simp (disch:=(first|omega|(simp only [lnS];omega))) only [rdT,rdS,anT]));rotate_left 1;(try ((try simp only [nc] at *);omega)))
    |(refine E.c (SCalls.to (hput (hMs (by ((try simp only [nc] at *);omega))) hGs) rfl (Nat.le_of_ble_eq_true rfl) ?_ ?_ ?_);(· (cbv;(try simp only [nc] at *);first|done|(simp;done)|(simp (disch:=(first|omega|(simp only [lnS];omega))) only [rdT,rdS,anT];first|done|omega|(refine ⟨?_,?_⟩<;>omega))|(simp (disch:=(first|omega|(simp only [lnS];omega))) [rdT,rdS];done)));(· (cbv;(try simp only [nc] at *);first|done|(simp;done)|(simp (disch:=(first|omega|(simp only [lnS];omega))) only [rdT,rdS,anT];first|done|omega|(refine ⟨?_,?_⟩<;>omega))|(simp (disch:=(first|omega|(simp only [lnS];omega))) [rdT,rdS];done)));cbv)
    |(refine ⟨fun _ h_s=>?_,fun _ h_s=>?_⟩<;>(cbv;(try simp only [nc] at *);try simp (disch:=(first|omega|(simp only [lnS];omega))) only [rdT,rdS,reduceCtorEq,trT] at h_s))
    |(refine hF ?_;intro _;clear hF)
    |(refine hF ?_;cbv;clear hF)
    |(refine ⟨fun _=>?_,?_⟩;(· ((try simp only [nc] at *);first|done|omega|exact ⟨by omega,rfl⟩|(simp (disch:=(first|omega|(simp only [lnS];omega))) only [rdT,rdS];first|done|omega|rfl|exact ⟨by omega,rfl⟩|(simp;done)|(simp;omega))|(intros;trivial)));(try (simp only [nc] at *));(try simp (disch:=(first|omega|(simp only [lnS];omega))) only [rdT,rdS]);(try cbv))
    |(refine E.d 9 (by decide +kernel) ?_;cbv;(fail_if_success guard_target =~ False))
    |(refine E.d 18 (by decide +kernel) ?_;cbv;(fail_if_success guard_target =~ False))
    | fail
   )
   ·omega
   ·clear hput
    have e : i = (g.th.getD t []).length := by omega
    subst e
    have q1 : L2 t (g.th.getD t []).length = L2 (t + 1) 0 := by rw [hL2, hL2, idsT_succ]; simp [idsE]
    have q2 : M2 t (g.th.getD t []).length = M2 (t + 1) 0 := by rw [hM2, hM2, evsT_succ, List.take_length]; simp
    have q3 : G2 t (g.th.getD t []).length = G2 (t + 1) 0 := by rw [hG2, hG2, q1]
    simp only [q1, q2, q3, and_self, and_true]
    omega
  ·refine hI ?_
   cbv
   clear hI hI1 hF
   have e : t = g.th.length := by ((try simp only [nc] at *); omega)
   subst e
   (try simp only [nc] at *)
   (try simp (disch:=(first|omega|(simp only [lnS];omega))) only [rdT,rdS,anT])
   have q1 : L2 g.th.length 0 = Lf := by rw [hL2, hLf]; simp [idsE, idsG]
   have q2 : M2 g.th.length 0 = Mf := by rw [hM2, hMf]; simp [evsG]
   have q3 : G2 g.th.length 0 = n := by rw [hG2, q1, hLn]
   simp only [q1, q2, q3, and_self]
 refine E.cut 3 (told 165 [(1, .ptr 0 0), (4, .ptr 2 0), (5, .ptr 4 0)] (vhpF g Lf Mf n (fun m => plInit (Lf.getD m id0)))) (by kernel_rfl) (Nat.zero_le _) (fun I hI => ?_) (E.bl ?_)
 ·cbv
  refine E.de 17 [1] [some 1, some 1] (by decide +kernel) ?_
  cbv
  refine ⟨fun _ => ?_, ?_⟩
  ·((try simp only [nc] at *);first|done|omega|exact ⟨by omega,rfl⟩|(simp (disch:=(first|omega|(simp only [lnS];omega))) only [rdT,rdS];first|done|omega|rfl|exact ⟨by omega,rfl⟩|(simp;done)|(simp;omega))|(intros;trivial))
  try cbv
  refine ⟨fun _ => ?_, ?_⟩
  ·((try simp only [nc] at *);first|done|omega|exact ⟨by omega,rfl⟩|(simp (disch:=(first|omega|(simp only [lnS];omega))) only [rdT,rdS];first|done|omega|rfl|exact ⟨by omega,rfl⟩|(simp;done)|(simp;omega))|(intros;trivial))
  try cbv
  obtain ⟨fr, hfr⟩ : ∃ fr : Nat → Nat → Int, ∀ k m, fr k m = if m < k then frOf g (Lf.getD m id0) else 0 := ⟨_, fun _ _ => rfl⟩
  obtain ⟨pl, hpl⟩ : ∃ pl : Nat → Nat → Int, ∀ k m, pl k m = if m < k then plInit (Lf.getD m id0) else 0 := ⟨_, fun _ _ => rfl⟩
  have hfr0 : fr 0 = fun _ => 0 := funext fun m => by rw [hfr, if_neg (Nat.not_lt_zero m)]
  have hpl0 : pl 0 = fun _ => 0 := funext fun m => by rw [hpl, if_neg (Nat.not_lt_zero m)]
  clear hF
  refine E.loopS (ι:=Nat) (fun k=>k≤n) (fun k=>n - k) (fun k=>[(89,.i fun _=>((k : Nat) : Int))]) (fun k h=>(h.set 7 (.run 1 1 fun _=>is (tabI n (fr k)))).set 8 (.run 1 1 fun _=>is (tabI n (pl k)))) 0 (fun _=>by first|rfl|simp) (Nat.zero_le _) ?_ fun k hk I2 hI2=>?_
  ·cbv
   simp only [hfr0, hpl0, tabI_zero, hLn, Int.toNat_natCast, implies_true, and_self, true_and, and_true]
   exact ⟨fun _ => by simp [is], fun _ => by simp [is]⟩
  cbv
  have hkn : 0 + k = k := Nat.zero_add k
  have hrd := fun hk : k < n => dreads0_ok (γ := γ) ⟨Lf, Mf, tabI n fun j => if j = k then -1 else fr k j, tabI n fun j => if j = k then -1 else pl k j⟩ k (by rw [hMn]; exact hk)
  skip
  skip
  skip
  repeat' (first
   |(refine hI2 (k + 1) ?_ ?_ ?_;rotate_left 1;(· ((try simp only [nc] at *);omega));(cbv;clear hI2;(try clear hF);(try simp only [nc] at *);(try simp (disch:=(first|omega|(simp only [lnS,tabI_len];omega))) only [rdT,rdS,Nat.zero_add,true_and,tabI_len,stI,List.drop_zero,List.take_of_length_le,anT]));rotate_left 1;(try ((try simp only [nc] at *);omega)))
   |(refine E.c (SCalls.of_bare (hrd (by ((try simp only [nc] at *);omega))) rfl ?_ ?_);(· (cbv;(try simp only [nc] at *);first|done|(simp;done)|(simp (disch:=(first|omega|(simp only [lnS,tabI_len];omega))) only [rdT,rdS,Nat.zero_add,true_and,tabI_len,stI,List.drop_zero,List.take_of_length_le,anT];first|done|omega|(refine ⟨?_,?_⟩<;>omega))|(simp (disch:=(first|omega|(simp only [lnS,tabI_len];omega))) [rdT,rdS,Nat.zero_add,true_and,tabI_len,stI,List.drop_zero,List.take_of_length_le];done)));cbv)
   |(refine E.q (QCalls.of_bare (hrd (by ((try simp only [nc] at *);omega))) rfl ?_ ?_);(· (cbv;(try simp only [nc] at *);first|done|(simp;done)|(simp (disch:=(first|omega|(simp only [lnS,tabI_len];omega))) only [rdT,rdS,Nat.zero_add,true_and,tabI_len,stI,List.drop_zero,List.take_of_length_le,anT];first|done|omega|(refine ⟨?_,?_⟩<;>omega))|(simp (disch:=(first|omega|(simp only [lnS,tabI_len];omega))) [rdT,rdS,Nat.zero_add,true_and,tabI_len,stI,List.drop_zero,List.take_of_length_le];done)));cbv)
   |(refine E.de 12 [7,8] [] (by decide +kernel) ?_;cbv;(fail_if_success guard_target =~ False))
   |(refine ⟨fun _ h_s=>?_,fun _ h_s=>?_⟩<;>(cbv;(try simp only [nc] at *);try simp (disch:=(first|omega|(simp only [lnS,tabI_len];omega))) only [rdT,rdS,Nat.zero_add,true_and,tabI_len,stI,List.drop_zero,List.take_of_length_le,reduceCtorEq,trT] at h_s))
   |(refine hF ?_;intro _;clear hF)
   |(refine hF ?_;cbv;clear hF)
   |(refine ⟨fun _=>?_,?_⟩;(· ((try simp only [nc] at *);first|done|omega|exact ⟨by omega,rfl⟩|(simp (disch:=(first|omega|(simp only [lnS,tabI_len];omega))) only [rdT,rdS,Nat.zero_add,true_and,tabI_len,stI,List.drop_zero,List.take_of_length_le];first|done|omega|rfl|exact ⟨by omega,rfl⟩|(simp;done)|(simp;omega))|(intros;trivial)|exact rfl|exact ⟨by omega,by rw [istab_get _ _ _ (by omega)];rfl⟩));(try (simp only [nc] at *));(try simp (disch:=(first|omega|(simp only [lnS,tabI_len];omega))) only [rdT,rdS,Nat.zero_add,true_and,tabI_len,stI,List.drop_zero,List.take_of_length_le]);(try cbv))
   |(refine E.d 9 (by decide +kernel) ?_;cbv;(fail_if_success guard_target =~ False))
   |(refine E.d 18 (by decide +kernel) ?_;cbv;(fail_if_success guard_target =~ False))
   | fail
  )
  ·rename_i hs0
   refine ⟨by push_cast; rfl, congrArg is (tabI_congr fun j hj => ?_), congrArg is (tabI_congr fun j hj => ?_)⟩
   ·rw [hfr, hfr]
    split
    ·rename_i e; subst e; rw [if_pos (by omega), frOf, if_pos h_s]
    ·rename_i e; by_cases hjk : j < k
     ·rw [if_pos hjk, if_pos (by omega)]
     ·rw [if_neg hjk, if_neg (by omega)]
   ·rw [hpl, hpl]
    split
    ·rename_i e; subst e; rw [if_pos (by omega), plInit, if_pos h_s]
    ·rename_i e; by_cases hjk : j < k
     ·rw [if_pos hjk, if_pos (by omega)]
     ·rw [if_neg hjk, if_neg (by omega)]
  ·have hkl : k < Lf.length := by ((try simp only [nc] at *); omega)
   have hw : 0 ≤ (Lf.getD k ⟨0, 0⟩).t - 1 ∧ ((Lf.getD k ⟨0, 0⟩).t - 1).toNat < g.fr.length ∧ (Lf.getD k ⟨0, 0⟩).t ≤ 4 ∧ 0 ≤ (Lf.getD k ⟨0, 0⟩).i ∧ (Lf.getD k ⟨0, 0⟩).i.toNat < (g.fr.getD ((Lf.getD k ⟨0, 0⟩).t - 1).toNat []).length := by
    subst hLf
    exact ids_where h hkl (by assumption)
   obtain ⟨w1, w2, w3, w4, w5⟩ := hw
   have hev : eventM g (Lf.getD k ⟨0, 0⟩) = some (Mf.getD k ⟨0, 0, 0, 0, 0⟩) := by
    subst hLf hMf
    exact evsG_get g k hkl
   have hsm : (g.fr.getD ((Lf.getD k ⟨0, 0⟩).t - 1).toNat []).getD (Lf.getD k ⟨0, 0⟩).i.toNat ⟨0, 0⟩ ∈ Lf := by
    have hm : Lf.getD k ⟨0, 0⟩ ∈ idsG g := by rw [← hLf]; exact getD_mem hkl
    obtain ⟨w, hw, _⟩ := source_mem (src_ok h hm (by omega)) (by rw [hev]; exact h_s)
    rw [hLf]
    exact idsG_mem.2 (by rw [← hLf]; exact congrArg Option.isSome hw)
   have hfo : frOf g (Lf.getD k id0) = (numOf Lf ((g.fr.getD ((Lf.getD k ⟨0, 0⟩).t - 1).toNat []).getD (Lf.getD k ⟨0, 0⟩).i.toNat ⟨0, 0⟩) : Nat) := by
    unfold frOf
    rw [if_neg (by assumption), show eventM g (Lf.getD k id0) = _ from hev, Option.getD_some, if_pos h_s, ← hLf]; rfl
   have hv := fun z => lk_num Lf _ hsm _ rfl z
   (try simp only [nc] at *)
   simp (disch:=first|omega) only [w64_of]
   simp (disch:=first|omega) only [idss_len,Int.toNat_of_nonneg,idss_get,at_l,asL_vs,ids_len,ids_get,at_d0,at_d1,asI_i,Int.toNat_natCast,knums_id,hv]
   skip
   repeat' (first
    |(refine hI2 (k + 1) ?_ ?_ ?_;rotate_left 1;(· ((try simp only [nc] at *);omega));(cbv;clear hI2;(try clear hF);(try simp only [nc] at *);(try simp (disch:=(first|omega|(simp only [lnS,tabI_len];omega))) only [rdT,rdS,Nat.zero_add,true_and,tabI_len,stI,List.drop_zero,List.take_of_length_le,anT]));rotate_left 1;(try ((try simp only [nc] at *);omega)))
    |(refine ⟨fun _ h_s=>?_,fun _ h_s=>?_⟩<;>(cbv;(try simp only [nc] at *);try simp (disch:=(first|omega|(simp only [lnS,tabI_len];omega))) only [rdT,rdS,Nat.zero_add,true_and,tabI_len,stI,List.drop_zero,List.take_of_length_le,reduceCtorEq,trT] at h_s))
    |(refine hF ?_;intro _;clear hF)
    |(refine hF ?_;cbv;clear hF)
    |(refine ⟨fun _=>?_,?_⟩;(· ((try simp only [nc] at *);first|done|omega|exact ⟨by omega,rfl⟩|(simp (disch:=(first|omega|(simp only [lnS,tabI_len];omega))) only [rdT,rdS,Nat.zero_add,true_and,tabI_len,stI,List.drop_zero,List.take_of_length_le];first|done|omega|rfl|exact ⟨by omega,rfl⟩|(simp;done)|(simp;omega))|(intros;trivial)|exact rfl|exact ⟨by omega,by rw [istab_get _ _ _ (by omega)];rfl⟩|exact ⟨mok_ids _,is_vals _⟩));(try (simp only [nc] at *));(try simp (disch:=(first|omega|(simp only [lnS,tabI_len];omega))) only [rdT,rdS,Nat.zero_add,true_and,tabI_len,stI,List.drop_zero,List.take_of_length_le]);(try cbv))
    |(refine E.d 9 (by decide +kernel) ?_;cbv;(fail_if_success guard_target =~ False))
    |(refine E.d 18 (by decide +kernel) ?_;cbv;(fail_if_success guard_target =~ False))
    | fail
   )
   refine ⟨by push_cast; rfl, congrArg is (tabI_congr fun j hj => ?_), congrArg is (tabI_congr fun j hj => ?_)⟩
   ·rw [hfr, hfr]
    split
    ·rename_i e; subst e; rw [if_pos (by omega)]; exact hfo.symm
    ·rename_i e; by_cases hjk : j < k
     ·rw [if_pos hjk, if_pos (by omega)]
     ·rw [if_neg hjk, if_neg (by omega)]
   ·rw [hpl, hpl]
    split
    ·rename_i e; subst e; rw [if_pos (by omega), plInit, if_neg (by assumption)]
    ·rename_i e; by_cases hjk : j < k
     ·rw [if_pos hjk, if_pos (by omega)]
     ·rw [if_neg hjk, if_neg (by omega)]
  ·have hkl : k < Lf.length := by ((try simp only [nc] at *); omega)
   have hev : eventM g (Lf.getD k ⟨0, 0⟩) = some (Mf.getD k ⟨0, 0, 0, 0, 0⟩) := by
    subst hLf hMf
    exact evsG_get g k hkl
   refine ⟨by push_cast; rfl, congrArg is (tabI_congr fun j hj => ?_), congrArg is (tabI_congr fun j hj => ?_)⟩
   ·rw [hfr, hfr]
    split
    ·rename_i e; subst e; rw [if_pos (by omega), frOf, if_neg (by assumption), show eventM g (Lf.getD j id0) = _ from hev, Option.getD_some, h_s, if_neg (by simp)]
    ·rename_i e; by_cases hjk : j < k
     ·rw [if_pos hjk, if_pos (by omega)]
     ·rw [if_neg hjk, if_neg (by omega)]
   ·rw [hpl, hpl]
    split
    ·rename_i e; subst e; rw [if_pos (by omega), plInit, if_neg (by assumption)]
    ·rename_i e; by_cases hjk : j < k
     ·rw [if_pos hjk, if_pos (by omega)]
     ·rw [if_neg hjk, if_neg (by omega)]
  ·refine hI ?_
   cbv
   clear hI hI2
   have e : k = n := by ((try simp only [nc] at *); omega)
   have q1 : is (tabI n (fr k)) = is (tabI n fun m => frOf g (Lf.getD m ⟨0, 0⟩)) := congrArg is (tabI_congr fun m hm => by rw [hfr, if_pos (by omega)])
   have q2 : is (tabI n (pl k)) = is (tabI n fun m => plInit (Lf.getD m ⟨0, 0⟩)) := congrArg is (tabI_congr fun m hm => by rw [hpl, if_pos (by omega)])
   simp only [q1, q2, Int.toNat_natCast, implies_true, and_self]
 ·obtain ⟨plx, hplx⟩ : ∃ plx : Nat → Nat → Nat → Int, ∀ x i m, plx x i m = plTo g (qsT g x ++ qsE g x i) (Lf.getD m id0) := ⟨_, fun _ _ _ => rfl⟩
  have hp0 : (fun m => plInit (Lf.getD m id0)) = plx 0 0 := funext fun m => by rw [hplx]; rfl
  have hpE : plx g.ord.length 0 = fun m => plOf g (Lf.getD m id0) := funext fun m => by
   rw [hplx, show qsE g g.ord.length 0 = [] by simp [qsE], List.append_nil, plTo_all h]
  have hpS : ∀ x, plx x (g.ord.getD x []).length = plx (x + 1) 0 := fun x => funext fun m => by
   rw [hplx, hplx, qsT_succ, show qsE g (x + 1) 0 = [] by simp [qsE], List.append_nil]
  rw [hp0]
  have hord := hg.ord
  cbv
  refine E.loopS (ι:=Nat) (fun x=>x≤g.ord.length) (fun x=>g.ord.length - x) (fun x=>[(141,.i fun _=>((x : Nat) : Int))]) (fun x h=>h.set 8 (.run 1 1 fun _=>is (tabI n (plx x 0)))) 0 (fun _=>by first|rfl|simp) (Nat.zero_le _) ?_ fun x hx I3 hI3=>?_
  ·cbv
   simp
  cbv
  have hol : ((g.ord.getD x []).length : Int) ≤ 9223372036854775807 := ordsAt hg x
  skip
  repeat' (first
   |(refine ⟨fun _ h_s=>?_,fun _ h_s=>?_⟩<;>(cbv;(try simp only [nc] at *);try simp (disch:=(first|omega|(simp only [lnS,tabI_len,tabI_len];omega))) only [rdT,rdS,Nat.zero_add,true_and,tabI_len,stI,List.drop_zero,List.take_of_length_le,tabI_len,stI,reduceCtorEq,trT] at h_s))
   |(refine hF ?_;intro _;clear hF)
   |(refine hF ?_;cbv;clear hF)
   |(refine ⟨fun _=>?_,?_⟩;(· ((try simp only [nc] at *);first|done|omega|exact ⟨by omega,rfl⟩|(simp (disch:=(first|omega|(simp only [lnS,tabI_len,tabI_len];omega))) only [rdT,rdS,Nat.zero_add,true_and,tabI_len,stI,List.drop_zero,List.take_of_length_le,tabI_len,stI];first|done|omega|rfl|exact ⟨by omega,rfl⟩|(simp;done)|(simp;omega))|(intros;trivial)|exact rfl|exact ⟨by omega,by rw [istab_get _ _ _ (by omega)];rfl⟩|exact ⟨mok_ids _,is_vals _⟩));(try (simp only [nc] at *));(try simp (disch:=(first|omega|(simp only [lnS,tabI_len,tabI_len];omega))) only [rdT,rdS,Nat.zero_add,true_and,tabI_len,stI,List.drop_zero,List.take_of_length_le,tabI_len,stI]);(try cbv))
   |(refine E.d 9 (by decide +kernel) ?_;cbv;(fail_if_success guard_target =~ False))
   |(refine E.d 18 (by decide +kernel) ?_;cbv;(fail_if_success guard_target =~ False))
   | fail
  )
  ·have hxx : x < g.ord.length := by ((try simp only [nc] at *); omega)
   refine E.loopS (ι:=Nat) (fun i=>i≤(g.ord.getD x []).length) (fun i=>(g.ord.getD x []).length - i) (fun i=>[(147,.i fun _=>((i : Nat) : Int))]) (fun i h=>h.set 8 (.run 1 1 fun _=>is (tabI n (plx x i)))) 0 (fun _=>by first|rfl|simp) (Nat.zero_le _) ?_ fun i hi I4 hI4=>?_
   ·cbv
    simp
   cbv
   have hnum : i < (g.ord.getD x []).length → numOf Lf ((g.ord.getD x []).getD i ⟨0, 0⟩) < n ∧ ∀ z, ((mval (mfind [.i, .i] (ids Lf) [((g.ord.getD x []).getD i ⟨0, 0⟩).t, ((g.ord.getD x []).getD i ⟨0, 0⟩).i]) (is (iota Lf.length)) z).at 0).asI = (numOf Lf ((g.ord.getD x []).getD i ⟨0, 0⟩) : Nat) := fun hi => by
    have hm : (g.ord.getD x []).getD i ⟨0, 0⟩ ∈ Lf := by rw [hLf]; exact ord_mem h hxx hi
    exact ⟨by rw [← hLn]; exact numOf_lt hm, fun z => lk_num Lf _ hm _ rfl z⟩
   skip
   skip
   repeat' (first
    |(refine ⟨fun _ h_s=>?_,fun _ h_s=>?_⟩<;>(cbv;(try simp only [nc] at *);try simp (disch:=(first|omega|(simp only [lnS,tabI_len,tabI_len];omega))) only [rdT,rdS,Nat.zero_add,true_and,tabI_len,stI,List.drop_zero,List.take_of_length_le,tabI_len,stI,Nat.zero_add,reduceCtorEq,trT] at h_s))
    |(refine hF ?_;intro _;clear hF)
    |(refine hF ?_;cbv;clear hF)
    |(refine ⟨fun _=>?_,?_⟩;(· ((try simp only [nc] at *);first|done|omega|exact ⟨by omega,rfl⟩|(simp (disch:=(first|omega|(simp only [lnS,tabI_len,tabI_len];omega))) only [rdT,rdS,Nat.zero_add,true_and,tabI_len,stI,List.drop_zero,List.take_of_length_le,tabI_len,stI,Nat.zero_add];first|done|omega|rfl|exact ⟨by omega,rfl⟩|(simp;done)|(simp;omega))|(intros;trivial)|exact rfl|exact ⟨by omega,by rw [istab_get _ _ _ (by omega)];rfl⟩|exact ⟨mok_ids _,is_vals _⟩|exact rfl));(try (simp only [nc] at *));(try simp (disch:=(first|omega|(simp only [lnS,tabI_len,tabI_len];omega))) only [rdT,rdS,Nat.zero_add,true_and,tabI_len,stI,List.drop_zero,List.take_of_length_le,tabI_len,stI,Nat.zero_add]);(try cbv))
    |(refine E.d 9 (by decide +kernel) ?_;cbv;(fail_if_success guard_target =~ False))
    |(refine E.d 18 (by decide +kernel) ?_;cbv;(fail_if_success guard_target =~ False))
    | fail
   )
   ·obtain ⟨hn1, hn2⟩ := hnum (by ((try simp only [nc] at *); omega))
    simp only [knums_id, hn2]
    skip
    have hii : i < (g.ord.getD x []).length := by ((try simp only [nc] at *); omega)
    repeat' (first
     |(refine hI4 (i + 1) ?_ ?_ ?_;rotate_left 1;(· ((try simp only [nc] at *);omega));(cbv;clear hI4;(try clear hF);(try simp only [nc] at *);(try simp (disch:=(first|omega|(simp only [lnS,tabI_len,tabI_len];omega))) only [rdT,rdS,Nat.zero_add,true_and,tabI_len,stI,List.drop_zero,List.take_of_length_le,tabI_len,stI,Nat.zero_add,anT]));rotate_left 1;(try ((try simp only [nc] at *);omega)))
     |(refine ⟨fun _ h_s=>?_,fun _ h_s=>?_⟩<;>(cbv;(try simp only [nc] at *);try simp (disch:=(first|omega|(simp only [lnS,tabI_len,tabI_len];omega))) only [rdT,rdS,Nat.zero_add,true_and,tabI_len,stI,List.drop_zero,List.take_of_length_le,tabI_len,stI,Nat.zero_add,reduceCtorEq,trT] at h_s))
     |(refine hF ?_;intro _;clear hF)
     |(refine hF ?_;cbv;clear hF)
     |(refine ⟨fun _=>?_,?_⟩;(· ((try simp only [nc] at *);first|done|omega|exact ⟨by omega,rfl⟩|(simp (disch:=(first|omega|(simp only [lnS,tabI_len,tabI_len];omega))) only [rdT,rdS,Nat.zero_add,true_and,tabI_len,stI,List.drop_zero,List.take_of_length_le,tabI_len,stI,Nat.zero_add];first|done|omega|rfl|exact ⟨by omega,rfl⟩|(simp;done)|(simp;omega))|(intros;trivial)|exact rfl|exact ⟨by omega,by rw [istab_get _ _ _ (by omega)];rfl⟩|exact ⟨mok_ids _,is_vals _⟩|exact rfl|exact ⟨mok_ids _,is_vals _⟩));(try (simp only [nc] at *));(try simp (disch:=(first|omega|(simp only [lnS,tabI_len,tabI_len];omega))) only [rdT,rdS,Nat.zero_add,true_and,tabI_len,stI,List.drop_zero,List.take_of_length_le,tabI_len,stI,Nat.zero_add]);(try cbv))
     |(refine E.d 9 (by decide +kernel) ?_;cbv;(fail_if_success guard_target =~ False))
     |(refine E.d 18 (by decide +kernel) ?_;cbv;(fail_if_success guard_target =~ False))
     | fail
    )
    refine ⟨by push_cast; rfl, congrArg is (tabI_congr fun j hj => ?_)⟩
    have := plTo_step h hxx hii (m := j) (by rw [← hLf, hLn]; exact hj)
    rw [hplx, hplx, hLf]
    rw [hLf] at hn1 hn2
    exact this
   ·have e : i = (g.ord.getD x []).length := by ((try simp only [nc] at *); omega)
    subst e
    rw [hpS]
    repeat' (first
     |(refine hI3 (x + 1) ?_ ?_ ?_;rotate_left 1;(· ((try simp only [nc] at *);omega));(cbv;clear hI3;(try clear hF);(try simp only [nc] at *);(try simp (disch:=(first|omega|(simp only [lnS,tabI_len,tabI_len];omega))) only [rdT,rdS,Nat.zero_add,true_and,tabI_len,stI,List.drop_zero,List.take_of_length_le,tabI_len,stI,Nat.zero_add,anT]));rotate_left 1;(try ((try simp only [nc] at *);omega)))
     |(refine ⟨fun _ h_s=>?_,fun _ h_s=>?_⟩<;>(cbv;(try simp only [nc] at *);try simp (disch:=(first|omega|(simp only [lnS,tabI_len,tabI_len];omega))) only [rdT,rdS,Nat.zero_add,true_and,tabI_len,stI,List.drop_zero,List.take_of_length_le,tabI_len,stI,Nat.zero_add,reduceCtorEq,trT] at h_s))
     |(refine hF ?_;intro _;clear hF)
     |(refine hF ?_;cbv;clear hF)
     |(refine ⟨fun _=>?_,?_⟩;(· ((try simp only [nc] at *);first|done|omega|exact ⟨by omega,rfl⟩|(simp (disch:=(first|omega|(simp only [lnS,tabI_len,tabI_len];omega))) only [rdT,rdS,Nat.zero_add,true_and,tabI_len,stI,List.drop_zero,List.take_of_length_le,tabI_len,stI,Nat.zero_add];first|done|omega|rfl|exact ⟨by omega,rfl⟩|(simp;done)|(simp;omega))|(intros;trivial)|exact rfl|exact ⟨by omega,by rw [istab_get _ _ _ (by omega)];rfl⟩|exact ⟨mok_ids _,is_vals _⟩|exact rfl|exact ⟨mok_ids _,is_vals _⟩));try cbv)
     |(refine E.d 9 (by decide +kernel) ?_;cbv;(fail_if_success guard_target =~ False))
     |(refine E.d 18 (by decide +kernel) ?_;cbv;(fail_if_success guard_target =~ False))
     | fail
    )
    push_cast; rfl
  ·have e : x = g.ord.length := by ((try simp only [nc] at *); omega)
   subst e
   rw [hpE]
   simp only [viewG, ← hLf, ← hMf, ← hnn, hLn, hMn]
   simp [List.take_of_length_le, hLn, hMn, id0]
end Go.AL.Rl

namespace Go.AL.Rl
open Go Go.AL Go.Proofs
set_option maxRecDepth 100000
set_option maxHeartbeats 1600000
variable {γ : Nat → Option AV}

def NG (g : Gr) : Int := if GOk g then (nG g : Nat) else 0
def rowsG (g : Gr) (f : Vw → Nat → List (BitVec 64)) : List (BitVec 64) := if GOk g then f (viewG g) (nG g) else []
def poF (V : Vw) (n : Nat) : List (BitVec 64) := relRows n (poM V)
def rfF (V : Vw) (n : Nat) : List (BitVec 64) := relRows n (rfM V)
def coF (V : Vw) (n : Nat) : List (BitVec 64) := relRows n (coM V)
def frF (V : Vw) (n : Nat) : List (BitVec 64) := relRows n (frM V)
def locF (V : Vw) (n : Nat) : List (BitVec 64) := relRows n (locM V)
noncomputable def swF (V : Vw) (n : Nat) : List (BitVec 64) := relRows n (bit (swRows V n))
def ecoF (V : Vw) (n : Nat) : List (BitVec 64) := plusM n (orM n [((n : Int), rfF V n), ((n : Int), coF V n), ((n : Int), frF V n)])
def porfF (V : Vw) (n : Nat) : List (BitVec 64) := plusM n (orM n [((n : Int), poF V n), ((n : Int), rfF V n)])
noncomputable def hbF (V : Vw) (n : Nat) : List (BitVec 64) := plusM n (orM n [((n : Int), poF V n), ((n : Int), swF V n)])
theorem viewOf_ok (g : Gr) (hg : Rd g) (h : GOk g) : Pure Try.prog γ false 22 [aGr g] (.tup [.vp (fun _ => aVw (viewG g)) 0, .b fun _ => true]) := viewOf_yes g hg h
theorem vpoF_ok (V : Vw) {n : Nat} (hV : Wf V n) : Pure Try.prog γ false 23 [pVw V, .fn 24 [.vp (fun _ => aVw V) 0] []] (encRel n (poF V n)) :=
 drel1_ok (γ := γ) V hV 24 (fun _ => aVw V) _ (fun a ha b hb => dpo_ok V hV a b ha hb)
theorem vrfF_ok (V : Vw) {n : Nat} (hV : Wf V n) : Pure Try.prog γ false 23 [pVw V, .fn 25 [.vp (fun _ => aVw V) 0] []] (encRel n (rfF V n)) :=
 drel1_ok (γ := γ) V hV 25 (fun _ => aVw V) _ (fun a ha b hb => drf_ok V hV a b ha hb)
theorem vcoF_ok (V : Vw) {n : Nat} (hV : Wf V n) : Pure Try.prog γ false 23 [pVw V, .fn 26 [.vp (fun _ => aVw V) 0] []] (encRel n (coF V n)) :=
 drel1_ok (γ := γ) V hV 26 (fun _ => aVw V) _ (fun a ha b hb => dco_ok V hV a b ha hb)
theorem vfrF_ok (V : Vw) {n : Nat} (hV : Wf V n) : Pure Try.prog γ false 23 [pVw V, .fn 27 [.vp (fun _ => aVw V) 0] []] (encRel n (frF V n)) :=
 drel1_ok (γ := γ) V hV 27 (fun _ => aVw V) _ (fun a ha b hb => dfr_ok V hV a b ha hb)
theorem vlocF_ok (V : Vw) {n : Nat} (hV : Wf V n) : Pure Try.prog γ false 23 [pVw V, .fn 30 [.vp (fun _ => aVw V) 0] []] (encRel n (locF V n)) :=
 drel1_ok (γ := γ) V hV 30 (fun _ => aVw V) _ (fun a ha b hb => dloc_ok V hV a b ha hb)
theorem vswF_ok (V : Vw) {n : Nat} (hV : Wf V n) : Pure Try.prog γ false 31 [pVw V] (encRel n (swF V n)) := dsw_ok V hV
theorem dPo_yes (g : Gr) (hg : Rd g) (h : GOk g) : Pure Try.prog γ false 13 [aGr g] (encRel (nG g : Nat) (poF (viewG g) (nG g))) := by
 have hV := viewG_wf h
 have hr := vpoF_ok (γ := γ) (viewG g) hV
 refine Pure.go (ty := ty) ty_eq mo Try.func13 rfl Try.ntmps13 Try.results13 Try.call13 (by simp) fun P C CQ D W F E hF => ?_
 cbv
 repeat' (first
  |(refine E.c (SCalls.of_le (hr) ?_ ?_);(· (cbv;(try simp only [nc] at *);first|done|(simp;done)|(simp (disch:=(first|omega|(simp only [lnS];omega))) only [rdT,rdS,anT];first|done|omega|(refine ⟨?_,?_⟩<;>omega))|(simp (disch:=(first|omega|(simp only [lnS];omega))) [rdT,rdS];done)));cbv)
  |(refine E.c (SCalls.of_le (viewOf_ok g hg h) ?_ ?_);(· (cbv;(try simp only [nc] at *);first|done|(simp;done)|(simp (disch:=(first|omega|(simp only [lnS];omega))) only [rdT,rdS,anT];first|done|omega|(refine ⟨?_,?_⟩<;>omega))|(simp (disch:=(first|omega|(simp only [lnS];omega))) [rdT,rdS];done)));cbv)
  |(refine ⟨fun _ h_s=>?_,fun _ h_s=>?_⟩<;>(cbv;(try simp only [nc] at *);try simp (disch:=(first|omega|(simp only [lnS];omega))) only [rdT,rdS,reduceCtorEq,trT] at h_s))
  |(refine hF ?_;intro _;clear hF)
  |(refine hF ?_;cbv;clear hF)
  |(refine ⟨fun _=>?_,?_⟩;(· ((try simp only [nc] at *);first|done|omega|exact ⟨by omega,rfl⟩|(simp (disch:=(first|omega|(simp only [lnS];omega))) only [rdT,rdS];first|done|omega|rfl|exact ⟨by omega,rfl⟩|(simp;done)|(simp;omega))|(intros;trivial)));try cbv)
  | fail
 )
 all_goals (try simp only [nc] at *)
 all_goals (try simp (disch:=(first|omega|(simp only [lnS];omega))) only [rdT,rdS])
theorem dPo_no (g : Gr) (hg : Rd g) (h : ¬ GOk g) : Pure Try.prog γ false 13 [aGr g] (encRel 0 []) := by
 refine Pure.go (ty := ty) ty_eq mo Try.func13 rfl Try.ntmps13 Try.results13 Try.call13 (by simp) fun P C CQ D W F E hF => ?_
 cbv
 repeat' (first
  |(refine E.c (SCalls.of_le (viewOf_no g hg h) ?_ ?_);(· (cbv;(try simp only [nc] at *);first|done|(simp;done)|(simp (disch:=(first|omega|(simp only [lnS];omega))) only [rdT,rdS,anT];first|done|omega|(refine ⟨?_,?_⟩<;>omega))|(simp (disch:=(first|omega|(simp only [lnS];omega))) [rdT,rdS];done)));cbv)
  |(refine ⟨fun _ h_s=>?_,fun _ h_s=>?_⟩<;>(cbv;(try simp only [nc] at *);try simp (disch:=(first|omega|(simp only [lnS];omega))) only [rdT,rdS,reduceCtorEq,trT] at h_s))
  |(refine hF ?_;intro _;clear hF)
  |(refine hF ?_;cbv;clear hF)
  |(refine ⟨fun _=>?_,?_⟩;(· ((try simp only [nc] at *);first|done|omega|exact ⟨by omega,rfl⟩|(simp (disch:=(first|omega|(simp only [lnS];omega))) only [rdT,rdS];first|done|omega|rfl|exact ⟨by omega,rfl⟩|(simp;done)|(simp;omega))|(intros;trivial)));try cbv)
  | fail
 )
 all_goals (try simp only [nc] at *)
 all_goals (try simp (disch:=(first|omega|(simp only [lnS];omega))) only [rdT,rdS])
 all_goals simp [us, LV.of]
theorem dPo_ok (g : Gr) (hg : Rd g) : Pure Try.prog γ false 13 [aGr g] (encRel (NG g) (rowsG g poF)) := by
 by_cases h : GOk g
 ·have := dPo_yes (γ := γ) g hg h
  unfold NG rowsG
  rwa [if_pos h, if_pos h]
 ·have := dPo_no (γ := γ) g hg h
  unfold NG rowsG
  rwa [if_neg h, if_neg h]
theorem dRf_yes (g : Gr) (hg : Rd g) (h : GOk g) : Pure Try.prog γ false 15 [aGr g] (encRel (nG g : Nat) (rfF (viewG g) (nG g))) := by
 have hV := viewG_wf h
 have hr := vrfF_ok (γ := γ) (viewG g) hV
 refine Pure.go (ty := ty) ty_eq mo Try.func15 rfl Try.ntmps15 Try.results15 Try.call15 (by simp) fun P C CQ D W F E hF => ?_
 cbv
 repeat' (first
  |(refine E.c (SCalls.of_le (hr) ?_ ?_);(· (cbv;(try simp only [nc] at *);first|done|(simp;done)|(simp (disch:=(first|omega|(simp only [lnS];omega))) only [rdT,rdS,anT];first|done|omega|(refine ⟨?_,?_⟩<;>omega))|(simp (disch:=(first|omega|(simp only [lnS];omega))) [rdT,rdS];done)));cbv)
  |(refine E.c (SCalls.of_le (viewOf_ok g hg h) ?_ ?_);(· (cbv;(try simp only [nc] at *);first|done|(simp;done)|(simp (disch:=(first|omega|(simp only [lnS];omega))) only [rdT,rdS,anT];first|done|omega|(refine ⟨?_,?_⟩<;>omega))|(simp (disch:=(first|omega|(simp only [lnS];omega))) [rdT,rdS];done)));cbv)
  |(refine ⟨fun _ h_s=>?_,fun _ h_s=>?_⟩<;>(cbv;(try simp only [nc] at *);try simp (disch:=(first|omega|(simp only [lnS];omega))) only [rdT,rdS,reduceCtorEq,trT] at h_s))
  |(refine hF ?_;intro _;clear hF)
  |(refine hF ?_;cbv;clear hF)
  |(refine ⟨fun _=>?_,?_⟩;(· ((try simp only [nc] at *);first|done|omega|exact ⟨by omega,rfl⟩|(simp (disch:=(first|omega|(simp only [lnS];omega))) only [rdT,rdS];first|done|omega|rfl|exact ⟨by omega,rfl⟩|(simp;done)|(simp;omega))|(intros;trivial)));try cbv)
  | fail
 )
 all_goals (try simp only [nc] at *)
 all_goals (try simp (disch:=(first|omega|(simp only [lnS];omega))) only [rdT,rdS])
theorem dRf_no (g : Gr) (hg : Rd g) (h : ¬ GOk g) : Pure Try.prog γ false 15 [aGr g] (encRel 0 []) := by
 refine Pure.go (ty := ty) ty_eq mo Try.func15 rfl Try.ntmps15 Try.results15 Try.call15 (by simp) fun P C CQ D W F E hF => ?_
 cbv
 repeat' (first
  |(refine E.c (SCalls.of_le (viewOf_no g hg h) ?_ ?_);(· (cbv;(try simp only [nc] at *);first|done|(simp;done)|(simp (disch:=(first|omega|(simp only [lnS];omega))) only [rdT,rdS,anT];first|done|omega|(refine ⟨?_,?_⟩<;>omega))|(simp (disch:=(first|omega|(simp only [lnS];omega))) [rdT,rdS];done)));cbv)
  |(refine ⟨fun _ h_s=>?_,fun _ h_s=>?_⟩<;>(cbv;(try simp only [nc] at *);try simp (disch:=(first|omega|(simp only [lnS];omega))) only [rdT,rdS,reduceCtorEq,trT] at h_s))
  |(refine hF ?_;intro _;clear hF)
  |(refine hF ?_;cbv;clear hF)
  |(refine ⟨fun _=>?_,?_⟩;(· ((try simp only [nc] at *);first|done|omega|exact ⟨by omega,rfl⟩|(simp (disch:=(first|omega|(simp only [lnS];omega))) only [rdT,rdS];first|done|omega|rfl|exact ⟨by omega,rfl⟩|(simp;done)|(simp;omega))|(intros;trivial)));try cbv)
  | fail
 )
 all_goals (try simp only [nc] at *)
 all_goals (try simp (disch:=(first|omega|(simp only [lnS];omega))) only [rdT,rdS])
 all_goals simp [us, LV.of]
theorem dRf_ok (g : Gr) (hg : Rd g) : Pure Try.prog γ false 15 [aGr g] (encRel (NG g) (rowsG g rfF)) := by
 by_cases h : GOk g
 ·have := dRf_yes (γ := γ) g hg h
  unfold NG rowsG
  rwa [if_pos h, if_pos h]
 ·have := dRf_no (γ := γ) g hg h
  unfold NG rowsG
  rwa [if_neg h, if_neg h]
theorem fits_poF (V : Vw) {n : Nat} (h : n ≤ 62) : Fits n (poF V n) := fits_rel (by omega) _
theorem fits_rfF (V : Vw) {n : Nat} (h : n ≤ 62) : Fits n (rfF V n) := fits_rel (by omega) _
theorem fits_coF (V : Vw) {n : Nat} (h : n ≤ 62) : Fits n (coF V n) := fits_rel (by omega) _
theorem fits_frF (V : Vw) {n : Nat} (h : n ≤ 62) : Fits n (frF V n) := fits_rel (by omega) _
theorem fits_swF (V : Vw) {n : Nat} (h : n ≤ 62) : Fits n (swF V n) := fits_rel (by omega) _
theorem dSw_yes (g : Gr) (hg : Rd g) (h : GOk g) : Pure Try.prog γ false 16 [aGr g] (encRel (nG g : Nat) (swF (viewG g) (nG g))) := by
 have hV := viewG_wf h
 have hr := vswF_ok (γ := γ) (viewG g) hV
 refine Pure.go (ty := ty) ty_eq mo Try.func16 rfl Try.ntmps16 Try.results16 Try.call16 (by simp) fun P C CQ D W F E hF => ?_
 cbv
 repeat' (first
  |(refine E.c (SCalls.of_le (hr) ?_ ?_);(· (cbv;(try simp only [nc] at *);first|done|(simp;done)|(simp (disch:=(first|omega|(simp only [lnS];omega))) only [rdT,rdS,anT];first|done|omega|(refine ⟨?_,?_⟩<;>omega))|(simp (disch:=(first|omega|(simp only [lnS];omega))) [rdT,rdS];done)));cbv)
  |(refine E.c (SCalls.of_le (viewOf_ok g hg h) ?_ ?_);(· (cbv;(try simp only [nc] at *);first|done|(simp;done)|(simp (disch:=(first|omega|(simp only [lnS];omega))) only [rdT,rdS,anT];first|done|omega|(refine ⟨?_,?_⟩<;>omega))|(simp (disch:=(first|omega|(simp only [lnS];omega))) [rdT,rdS];done)));cbv)
  |(refine ⟨fun _ h_s=>?_,fun _ h_s=>?_⟩<;>(cbv;(try simp only [nc] at *);try simp (disch:=(first|omega|(simp only [lnS];omega))) only [rdT,rdS,reduceCtorEq,trT] at h_s))
  |(refine hF ?_;intro _;clear hF)
  |(refine hF ?_;cbv;clear hF)
  |(refine ⟨fun _=>?_,?_⟩;(· ((try simp only [nc] at *);first|done|omega|exact ⟨by omega,rfl⟩|(simp (disch:=(first|omega|(simp only [lnS];omega))) only [rdT,rdS];first|done|omega|rfl|exact ⟨by omega,rfl⟩|(simp;done)|(simp;omega))|(intros;trivial)));try cbv)
  | fail
 )
 all_goals (try simp only [nc] at *)
 all_goals (try simp (disch:=(first|omega|(simp only [lnS];omega))) only [rdT,rdS])
theorem dSw_no (g : Gr) (hg : Rd g) (h : ¬ GOk g) : Pure Try.prog γ false 16 [aGr g] (encRel 0 []) := by
 refine Pure.go (ty := ty) ty_eq mo Try.func16 rfl Try.ntmps16 Try.results16 Try.call16 (by simp) fun P C CQ D W F E hF => ?_
 cbv
 repeat' (first
  |(refine E.c (SCalls.of_le (viewOf_no g hg h) ?_ ?_);(· (cbv;(try simp only [nc] at *);first|done|(simp;done)|(simp (disch:=(first|omega|(simp only [lnS];omega))) only [rdT,rdS,anT];first|done|omega|(refine ⟨?_,?_⟩<;>omega))|(simp (disch:=(first|omega|(simp only [lnS];omega))) [rdT,rdS];done)));cbv)
  |(refine ⟨fun _ h_s=>?_,fun _ h_s=>?_⟩<;>(cbv;(try simp only [nc] at *);try simp (disch:=(first|omega|(simp only [lnS];omega))) only [rdT,rdS,reduceCtorEq,trT] at h_s))
  |(refine hF ?_;intro _;clear hF)
  |(refine hF ?_;cbv;clear hF)
  |(refine ⟨fun _=>?_,?_⟩;(· ((try simp only [nc] at *);first|done|omega|exact ⟨by omega,rfl⟩|(simp (disch:=(first|omega|(simp only [lnS];omega))) only [rdT,rdS];first|done|omega|rfl|exact ⟨by omega,rfl⟩|(simp;done)|(simp;omega))|(intros;trivial)));try cbv)
  | fail
 )
 all_goals (try simp only [nc] at *)
 all_goals (try simp (disch:=(first|omega|(simp only [lnS];omega))) only [rdT,rdS])
 all_goals simp [us, LV.of]
theorem dHb_yes (g : Gr) (hg : Rd g) (h : GOk g) : Pure Try.prog γ false 17 [aGr g] (encRel (nG g : Nat) (hbF (viewG g) (nG g))) := by
 have hV := viewG_wf h
 have h1 := vpoF_ok (γ := γ) (viewG g) hV
 have h2 := vswF_ok (γ := γ) (viewG g) hV
 have f1 := fits_poF (viewG g) hV.small
 have f2 := fits_swF (viewG g) hV.small
 have h3 := or2 (γ := γ) (nG g) _ _ f1 f2
 have h4 := plus_ok (γ := γ) (nG g) _ (fits_or2 f1 f2)
 refine Pure.go (ty := ty) ty_eq mo Try.func17 rfl Try.ntmps17 Try.results17 Try.call17 (by simp) fun P C CQ D W F E hF => ?_
 cbv
 repeat' (first
  |(refine E.c (SCalls.of_le (h4) ?_ ?_);(· (cbv;(try simp only [nc] at *);first|done|(simp;done)|(simp (disch:=(first|omega|(simp only [lnS];omega))) only [rdT,rdS,anT];first|done|omega|(refine ⟨?_,?_⟩<;>omega))|(simp (disch:=(first|omega|(simp only [lnS];omega))) [rdT,rdS];done)));cbv)
  | (refine E.c (SCalls.of_bare (h3) rfl ?_ ?_); (· (cbv; simp [rls, ps, us, is, LV.of]; done)); cbv)
  | (refine E.c (SCalls.of_le (h3) ?_ ?_); (· (cbv; simp [rls, ps, us, is, LV.of]; done)); cbv)
  | (refine E.q (QCalls.of_le (h3) ?_ ?_); (· (cbv; simp [rls, ps, us, is, LV.of]; done)); cbv)
  |(refine E.c (SCalls.of_le (h2) ?_ ?_);(· (cbv;(try simp only [nc] at *);first|done|(simp;done)|(simp (disch:=(first|omega|(simp only [lnS];omega))) only [rdT,rdS,anT];first|done|omega|(refine ⟨?_,?_⟩<;>omega))|(simp (disch:=(first|omega|(simp only [lnS];omega))) [rdT,rdS];done)));cbv)
  |(refine E.c (SCalls.of_le (h1) ?_ ?_);(· (cbv;(try simp only [nc] at *);first|done|(simp;done)|(simp (disch:=(first|omega|(simp only [lnS];omega))) only [rdT,rdS,anT];first|done|omega|(refine ⟨?_,?_⟩<;>omega))|(simp (disch:=(first|omega|(simp only [lnS];omega))) [rdT,rdS];done)));cbv)
  |(refine E.c (SCalls.of_le (viewOf_ok g hg h) ?_ ?_);(· (cbv;(try simp only [nc] at *);first|done|(simp;done)|(simp (disch:=(first|omega|(simp only [lnS];omega))) only [rdT,rdS,anT];first|done|omega|(refine ⟨?_,?_⟩<;>omega))|(simp (disch:=(first|omega|(simp only [lnS];omega))) [rdT,rdS];done)));cbv)
  |(refine ⟨fun _ h_s=>?_,fun _ h_s=>?_⟩<;>(cbv;(try simp only [nc] at *);try simp (disch:=(first|omega|(simp only [lnS];omega))) only [rdT,rdS,reduceCtorEq,trT] at h_s))
  |(refine hF ?_;intro _;clear hF)
  |(refine hF ?_;cbv;clear hF)
  |(refine ⟨fun _=>?_,?_⟩;(· ((try simp only [nc] at *);first|done|omega|exact ⟨by omega,rfl⟩|(simp (disch:=(first|omega|(simp only [lnS];omega))) only [rdT,rdS];first|done|omega|rfl|exact ⟨by omega,rfl⟩|(simp;done)|(simp;omega))|(intros;trivial)));try cbv)
  | fail
 )
 all_goals (try simp only [nc] at *)
 all_goals (try simp (disch:=(first|omega|(simp only [lnS];omega))) only [rdT,rdS])
theorem dHb_no (g : Gr) (hg : Rd g) (h : ¬ GOk g) : Pure Try.prog γ false 17 [aGr g] (encRel 0 []) := by
 refine Pure.go (ty := ty) ty_eq mo Try.func17 rfl Try.ntmps17 Try.results17 Try.call17 (by simp) fun P C CQ D W F E hF => ?_
 cbv
 repeat' (first
  |(refine E.c (SCalls.of_le (viewOf_no g hg h) ?_ ?_);(· (cbv;(try simp only [nc] at *);first|done|(simp;done)|(simp (disch:=(first|omega|(simp only [lnS];omega))) only [rdT,rdS,anT];first|done|omega|(refine ⟨?_,?_⟩<;>omega))|(simp (disch:=(first|omega|(simp only [lnS];omega))) [rdT,rdS];done)));cbv)
  |(refine ⟨fun _ h_s=>?_,fun _ h_s=>?_⟩<;>(cbv;(try simp only [nc] at *);try simp (disch:=(first|omega|(simp only [lnS];omega))) only [rdT,rdS,reduceCtorEq,trT] at h_s))
  |(refine hF ?_;intro _;clear hF)
  |(refine hF ?_;cbv;clear hF)
  |(refine ⟨fun _=>?_,?_⟩;(· ((try simp only [nc] at *);first|done|omega|exact ⟨by omega,rfl⟩|(simp (disch:=(first|omega|(simp only [lnS];omega))) only [rdT,rdS];first|done|omega|rfl|exact ⟨by omega,rfl⟩|(simp;done)|(simp;omega))|(intros;trivial)));try cbv)
  | fail
 )
 all_goals (try simp only [nc] at *)
 all_goals (try simp (disch:=(first|omega|(simp only [lnS];omega))) only [rdT,rdS])
 all_goals simp [us, LV.of]
theorem dSw_ok (g : Gr) (hg : Rd g) : Pure Try.prog γ false 16 [aGr g] (encRel (NG g) (rowsG g swF)) := by
 by_cases h : GOk g
 ·have := dSw_yes (γ := γ) g hg h
  unfold NG rowsG
  rwa [if_pos h, if_pos h]
 ·have := dSw_no (γ := γ) g hg h
  unfold NG rowsG
  rwa [if_neg h, if_neg h]
theorem dHb_ok (g : Gr) (hg : Rd g) : Pure Try.prog γ false 17 [aGr g] (encRel (NG g) (rowsG g hbF)) := by
 by_cases h : GOk g
 ·have := dHb_yes (γ := γ) g hg h
  unfold NG rowsG
  rwa [if_pos h, if_pos h]
 ·have := dHb_no (γ := γ) g hg h
  unfold NG rowsG
  rwa [if_neg h, if_neg h]
end Go.AL.Rl

namespace Go.AL.Rl
open Go Go.AL Go.Proofs
set_option maxRecDepth 100000
set_option maxHeartbeats 1600000
variable {γ : Nat → Option AV}

abbrev aDer (n : Int) (po rf co fr eco porf loc sw hb : List (BitVec 64)) : AV :=
 .agg [.i fun _ => n, .vs 1 fun _ => us po, .i fun _ => n, .vs 1 fun _ => us rf, .i fun _ => n, .vs 1 fun _ => us co, .i fun _ => n, .vs 1 fun _ => us fr, .i fun _ => n, .vs 1 fun _ => us eco, .i fun _ => n, .vs 1 fun _ => us porf, .i fun _ => n, .vs 1 fun _ => us loc, .i fun _ => n, .vs 1 fun _ => us sw, .i fun _ => n, .vs 1 fun _ => us hb]
theorem or3 (n : Nat) (a b c : List (BitVec 64)) (ha : Fits n a) (hb : Fits n b) (hc : Fits n c) : Pure Try.prog γ false 29 [.vs 2 fun _ => rls [((n : Int), a), ((n : Int), b), ((n : Int), c)]] (encRel n (orM n [((n : Int), a), ((n : Int), b), ((n : Int), c)])) :=
 or_yes _ (by simp) (alike3 n a b c ha hb hc) n rfl
theorem dAll_yes (g : Gr) (hg : Rd g) (h : GOk g) : Pure Try.prog γ false 7 [aGr g] (.tup [aDer (nG g : Nat) (poF (viewG g) (nG g)) (rfF (viewG g) (nG g)) (coF (viewG g) (nG g)) (frF (viewG g) (nG g)) (ecoF (viewG g) (nG g)) (porfF (viewG g) (nG g)) (locF (viewG g) (nG g)) (swF (viewG g) (nG g)) (hbF (viewG g) (nG g)), .i fun _ => 0]) := by
 have hV := viewG_wf h
 have a1 := vpoF_ok (γ := γ) (viewG g) hV
 have a2 := vrfF_ok (γ := γ) (viewG g) hV
 have a3 := vcoF_ok (γ := γ) (viewG g) hV
 have a4 := vfrF_ok (γ := γ) (viewG g) hV
 have a5 := vlocF_ok (γ := γ) (viewG g) hV
 have a6 := vswF_ok (γ := γ) (viewG g) hV
 have f1 := fits_poF (viewG g) hV.small
 have f2 := fits_rfF (viewG g) hV.small
 have f3 := fits_coF (viewG g) hV.small
 have f4 := fits_frF (viewG g) hV.small
 have f6 := fits_swF (viewG g) hV.small
 have o1 := or3 (γ := γ) (nG g) _ _ _ f2 f3 f4
 have o2 := or2 (γ := γ) (nG g) _ _ f1 f2
 have o3 := or2 (γ := γ) (nG g) _ _ f1 f6
 have p1 := plus_ok (γ := γ) (nG g) _ (fits_or (by have := hV.small; omega) (l := [((nG g : Int), rfF (viewG g) (nG g)), ((nG g : Int), coF (viewG g) (nG g)), ((nG g : Int), frF (viewG g) (nG g))]) (by simp [f2, f3, f4]))
 have p2 := plus_ok (γ := γ) (nG g) _ (fits_or2 f1 f2)
 have p3 := plus_ok (γ := γ) (nG g) _ (fits_or2 f1 f6)
 refine Pure.go (ty := ty) ty_eq mo Try.func7 rfl Try.ntmps7 Try.results7 Try.call7 (by simp) fun P C CQ D W F E hF => ?_
 cbv
 repeat' (first
  |(refine E.c (SCalls.of_le (p3) ?_ ?_);(· (cbv;(try simp only [nc] at *);first|done|(simp;done)|(simp (disch:=(first|omega|(simp only [lnS];omega))) only [rdT,rdS,anT];first|done|omega|(refine ⟨?_,?_⟩<;>omega))|(simp (disch:=(first|omega|(simp only [lnS];omega))) [rdT,rdS];done)));cbv)
  |(refine E.c (SCalls.of_le (p2) ?_ ?_);(· (cbv;(try simp only [nc] at *);first|done|(simp;done)|(simp (disch:=(first|omega|(simp only [lnS];omega))) only [rdT,rdS,anT];first|done|omega|(refine ⟨?_,?_⟩<;>omega))|(simp (disch:=(first|omega|(simp only [lnS];omega))) [rdT,rdS];done)));cbv)
  |(refine E.c (SCalls.of_le (p1) ?_ ?_);(· (cbv;(try simp only [nc] at *);first|done|(simp;done)|(simp (disch:=(first|omega|(simp only [lnS];omega))) only [rdT,rdS,anT];first|done|omega|(refine ⟨?_,?_⟩<;>omega))|(simp (disch:=(first|omega|(simp only [lnS];omega))) [rdT,rdS];done)));cbv)
  | (refine E.c (SCalls.of_bare (o3) rfl ?_ ?_); (· (cbv; simp [rls, ps, us, is, LV.of]; done)); cbv)
  | (refine E.c (SCalls.of_le (o3) ?_ ?_); (· (cbv; simp [rls, ps, us, is, LV.of]; done)); cbv)
  | (refine E.q (QCalls.of_le (o3) ?_ ?_); (· (cbv; simp [rls, ps, us, is, LV.of]; done)); cbv)
  | (refine E.c (SCalls.of_bare (o2) rfl ?_ ?_); (· (cbv; simp [rls, ps, us, is, LV.of]; done)); cbv)
  | (refine E.c (SCalls.of_le (o2) ?_ ?_); (· (cbv; simp [rls, ps, us, is, LV.of]; done)); cbv)
  | (refine E.q (QCalls.of_le (o2) ?_ ?_); (· (cbv; simp [rls, ps, us, is, LV.of]; done)); cbv)
  | (refine E.c (SCalls.of_bare (o1) rfl ?_ ?_); (· (cbv; simp [rls, ps, us, is, LV.of]; done)); cbv)
  | (refine E.c (SCalls.of_le (o1) ?_ ?_); (· (cbv; simp [rls, ps, us, is, LV.of]; done)); cbv)
  | (refine E.q (QCalls.of_le (o1) ?_ ?_); (· (cbv; simp [rls, ps, us, is, LV.of]; done)); cbv)
  |(refine E.c (SCalls.of_le (a6) ?_ ?_);(· (cbv;(try simp only [nc] at *);first|done|(simp;done)|(simp (disch:=(first|omega|(simp only [lnS];omega))) only [rdT,rdS,anT];first|done|omega|(refine ⟨?_,?_⟩<;>omega))|(simp (disch:=(first|omega|(simp only [lnS];omega))) [rdT,rdS];done)));cbv)
  |(refine E.c (SCalls.of_le (a5) ?_ ?_);(· (cbv;(try simp only [nc] at *);first|done|(simp;done)|(simp (disch:=(first|omega|(simp only [lnS];omega))) only [rdT,rdS,anT];first|done|omega|(refine ⟨?_,?_⟩<;>omega))|(simp (disch:=(first|omega|(simp only [lnS];omega))) [rdT,rdS];done)));cbv)
  |(refine E.c (SCalls.of_le (a4) ?_ ?_);(· (cbv;(try simp only [nc] at *);first|done|(simp;done)|(simp (disch:=(first|omega|(simp only [lnS];omega))) only [rdT,rdS,anT];first|done|omega|(refine ⟨?_,?_⟩<;>omega))|(simp (disch:=(first|omega|(simp only [lnS];omega))) [rdT,rdS];done)));cbv)
  |(refine E.c (SCalls.of_le (a3) ?_ ?_);(· (cbv;(try simp only [nc] at *);first|done|(simp;done)|(simp (disch:=(first|omega|(simp only [lnS];omega))) only [rdT,rdS,anT];first|done|omega|(refine ⟨?_,?_⟩<;>omega))|(simp (disch:=(first|omega|(simp only [lnS];omega))) [rdT,rdS];done)));cbv)
  |(refine E.c (SCalls.of_le (a2) ?_ ?_);(· (cbv;(try simp only [nc] at *);first|done|(simp;done)|(simp (disch:=(first|omega|(simp only [lnS];omega))) only [rdT,rdS,anT];first|done|omega|(refine ⟨?_,?_⟩<;>omega))|(simp (disch:=(first|omega|(simp only [lnS];omega))) [rdT,rdS];done)));cbv)
  |(refine E.c (SCalls.of_le (a1) ?_ ?_);(· (cbv;(try simp only [nc] at *);first|done|(simp;done)|(simp (disch:=(first|omega|(simp only [lnS];omega))) only [rdT,rdS,anT];first|done|omega|(refine ⟨?_,?_⟩<;>omega))|(simp (disch:=(first|omega|(simp only [lnS];omega))) [rdT,rdS];done)));cbv)
  |(refine E.c (SCalls.of_le (viewOf_ok g hg h) ?_ ?_);(· (cbv;(try simp only [nc] at *);first|done|(simp;done)|(simp (disch:=(first|omega|(simp only [lnS];omega))) only [rdT,rdS,anT];first|done|omega|(refine ⟨?_,?_⟩<;>omega))|(simp (disch:=(first|omega|(simp only [lnS];omega))) [rdT,rdS];done)));cbv)
  |(refine ⟨fun _ h_s=>?_,fun _ h_s=>?_⟩<;>(cbv;(try simp only [nc] at *);try simp (disch:=(first|omega|(simp only [lnS];omega))) only [rdT,rdS,reduceCtorEq,trT] at h_s))
  |(refine hF ?_;intro _;clear hF)
  |(refine hF ?_;cbv;clear hF)
  |(refine ⟨fun _=>?_,?_⟩;(· ((try simp only [nc] at *);first|done|omega|exact ⟨by omega,rfl⟩|(simp (disch:=(first|omega|(simp only [lnS];omega))) only [rdT,rdS];first|done|omega|rfl|exact ⟨by omega,rfl⟩|(simp;done)|(simp;omega))|(intros;trivial)));try cbv)
  | fail
 )
 all_goals (try simp only [nc] at *)
 all_goals (try simp (disch:=(first|omega|(simp only [lnS];omega))) only [rdT,rdS])
 simp [ecoF, porfF, hbF]
end Go.AL.Rl

namespace Go.AL.Rl
open Go Go.AL Go.Proofs
set_option maxRecDepth 100000
set_option maxHeartbeats 1600000
variable {γ : Nat → Option AV}

def runL (mx cap : Int) : List Nat → Int → Int
 | [], s => s
 | n :: r, s => if s ≤ cap then runL mx cap r (s + min (mx + 1) n) else s
def sumL (mx : Int) (l : List Nat) (s : Int) (k : Nat) : Int := (l.take k).foldl (fun (a : Int) (n : Nat) => a + min (mx + 1) (n : Int)) s
theorem sumL_zero (mx : Int) (l : List Nat) (s : Int) : sumL mx l s 0 = s := rfl
theorem sumL_succ (mx : Int) (l : List Nat) (s : Int) (k : Nat) (h : k < l.length) : sumL mx l s (k + 1) = sumL mx l s k + min (mx + 1) (l.getD k 0) := by
 simp only [sumL]
 rw [List.take_succ_eq_append_getElem h, List.foldl_append]
 simp [h]
theorem runL_step {mx cap : Int} {l : List Nat} {s : Int} {k : Nat} (h : k < l.length) (hs : sumL mx l s k ≤ cap) (hr : runL mx cap (l.drop k) (sumL mx l s k) = runL mx cap l s) :
  runL mx cap (l.drop (k + 1)) (sumL mx l s (k + 1)) = runL mx cap l s := by
 rw [← hr, List.drop_eq_getElem_cons h, runL, if_pos hs, sumL_succ _ _ _ _ h]
 simp [h]
theorem runL_end {mx cap : Int} {l : List Nat} {s : Int} {k : Nat} (h : l.length ≤ k ∨ ¬ sumL mx l s k ≤ cap) (hr : runL mx cap (l.drop k) (sumL mx l s k) = runL mx cap l s) : sumL mx l s k = runL mx cap l s := by
 rw [← hr]
 by_cases hk : l.length ≤ k
 ·rw [List.drop_eq_nil_of_le hk, runL]
 ·rw [List.drop_eq_getElem_cons (by omega), runL, if_neg (by rcases h with h | h; omega; exact h)]
theorem runL_bd {mx cap B : Int} (h0 : 0 ≤ mx) (hB : cap + mx + 1 ≤ B) : ∀ (l : List Nat) (s : Int), 0 ≤ s → s ≤ B → 0 ≤ runL mx cap l s ∧ runL mx cap l s ≤ B
 | [], s, h1, h2 => ⟨h1, h2⟩
 | n :: r, s, h1, h2 => by
  rw [runL]
  split
  ·exact runL_bd h0 hB r _ (by omega) (by omega)
  ·exact ⟨h1, h2⟩
theorem ths_le {g : Gr} (hg : Rd g) (x : Nat) : ((g.th.getD x []).length : Int) ≤ 9223372036854775807 := by
 rcases Nat.lt_or_ge x g.th.length with h1 | h1
 ·exact hg.ths _ (getD_mem h1)
 ·simp [List.getElem?_eq_none h1]
theorem frs_le {g : Gr} (hg : Rd g) (x : Nat) : ((g.fr.getD x []).length : Int) ≤ 9223372036854775807 := by
 rcases Nat.lt_or_ge x g.fr.length with h1 | h1
 ·exact hg.frs _ (getD_mem h1)
 ·simp [List.getElem?_eq_none h1]
def lensT (g : Gr) : List Nat := g.th.map (·.length)
def lensF (g : Gr) : List Nat := g.fr.map (·.length)
def lensO (g : Gr) : List Nat := g.ord.map (·.length)
def light0 (mx : Int) (g : Gr) : Int := min (mx + 1) g.init.length + min (mx + 1) g.th.length + min (mx + 1) g.fr.length + min (mx + 1) g.ord.length
def lightM (mx : Int) (g : Gr) : Bool := decide (runL mx (3 * mx) (lensO g) (runL mx (2 * mx) (lensF g) (runL mx mx (lensT g) (light0 mx g))) ≤ 3 * mx)
theorem lensT_get (g : Gr) (k : Nat) (h : k < g.th.length) : (lensT g).getD k 0 = (g.th.getD k []).length := by simp [lensT, h]
theorem lensF_get (g : Gr) (k : Nat) (h : k < g.fr.length) : (lensF g).getD k 0 = (g.fr.getD k []).length := by simp [lensF, h]
theorem lensO_get (g : Gr) (k : Nat) (h : k < g.ord.length) : (lensO g).getD k 0 = (g.ord.getD k []).length := by simp [lensO, h]
theorem light_ok (g : Gr) (hg : Rd g) (mx : Int) (h0 : 0 ≤ mx) (h1 : mx ≤ 1000) : Pure Try.prog γ false 5 [aGr g, .i fun _ => mx] (.b fun _ => lightM mx g) := by
 have b1 := hg.init
 have b2 := hg.th
 have b3 := hg.fr
 have b4 := hg.ord
 have hs0 : 0 ≤ light0 mx g ∧ light0 mx g ≤ 4 * mx + 4 := by unfold light0; omega
 obtain ⟨s0, hs⟩ : ∃ s, s = light0 mx g := ⟨_, rfl⟩
 rw [← hs] at hs0
 unfold lightM
 rw [← hs]
 have hlT : (lensT g).length = g.th.length := by simp [lensT]
 have hlF : (lensF g).length = g.fr.length := by simp [lensF]
 have hlO : (lensO g).length = g.ord.length := by simp [lensO]
 obtain ⟨r1, hr1⟩ : ∃ r, r = runL mx mx (lensT g) s0 := ⟨_, rfl⟩
 obtain ⟨r2, hr2⟩ : ∃ r, r = runL mx (2 * mx) (lensF g) r1 := ⟨_, rfl⟩
 obtain ⟨r3, hr3⟩ : ∃ r, r = runL mx (3 * mx) (lensO g) r2 := ⟨_, rfl⟩
 obtain ⟨S1, hS1⟩ : ∃ S : Nat → Int, ∀ k, S k = sumL mx (lensT g) s0 k := ⟨_, fun _ => rfl⟩
 obtain ⟨S2, hS2⟩ : ∃ S : Nat → Int, ∀ k, S k = sumL mx (lensF g) r1 k := ⟨_, fun _ => rfl⟩
 obtain ⟨S3, hS3⟩ : ∃ S : Nat → Int, ∀ k, S k = sumL mx (lensO g) r2 k := ⟨_, fun _ => rfl⟩
 have z1 : S1 0 = s0 := by rw [hS1, sumL_zero]
 have z2 : S2 0 = r1 := by rw [hS2, sumL_zero]
 have z3 : S3 0 = r2 := by rw [hS3, sumL_zero]
 have n1 : ∀ k, k < g.th.length → S1 (k + 1) = S1 k + min (mx + 1) (g.th.getD k []).length := fun k hk => by rw [hS1, hS1, sumL_succ _ _ _ _ (by omega), lensT_get _ _ hk]
 have n2 : ∀ k, k < g.fr.length → S2 (k + 1) = S2 k + min (mx + 1) (g.fr.getD k []).length := fun k hk => by rw [hS2, hS2, sumL_succ _ _ _ _ (by omega), lensF_get _ _ hk]
 have n3 : ∀ k, k < g.ord.length → S3 (k + 1) = S3 k + min (mx + 1) (g.ord.getD k []).length := fun k hk => by rw [hS3, hS3, sumL_succ _ _ _ _ (by omega), lensO_get _ _ hk]
 rw [← hr1, ← hr2, ← hr3]
 have q1 := runL_bd (mx := mx) (cap := mx) (B := 4 * mx + 4) h0 (by omega) (lensT g) s0 (by omega) (by omega)
 rw [← hr1] at q1
 have q2 := runL_bd (mx := mx) (cap := 2 * mx) (B := 4 * mx + 4) h0 (by omega) (lensF g) r1 (by omega) (by omega)
 rw [← hr2] at q2
 have q3 := runL_bd (mx := mx) (cap := 3 * mx) (B := 4 * mx + 4) h0 (by omega) (lensO g) r2 (by omega) (by omega)
 rw [← hr3] at q3
 refine Pure.goL (ty := ty) ty_eq mo Try.func5 rfl Try.ntmps5 Try.results5 Try.call5 (by simp) fun P C CQ D W F E hF => ?_
 refine E.cut 4 (told 111 [(1, .i fun _ => mx), (2, .ptr 0 0), (5, .i fun _ => r1)] [.box (aGr g)]) (by kernel_rfl) (Nat.zero_le _) (fun I hI => ?_) ?_
 ·cbv
  repeat' (first
   |(refine ⟨fun _ h_s=>?_,fun _ h_s=>?_⟩<;>(cbv;(try simp only [nc] at *);try simp (disch:=(first|omega|(simp only [lnS];omega))) only [rdT,rdS,reduceCtorEq,trT] at h_s))
   |(refine hF ?_;intro _;clear hF)
   |(refine hF ?_;cbv;clear hF)
   |(refine ⟨fun _=>?_,?_⟩;(· ((try simp only [nc] at *);first|done|omega|exact ⟨by omega,rfl⟩|(simp (disch:=(first|omega|(simp only [lnS];omega))) only [rdT,rdS];first|done|omega|rfl|exact ⟨by omega,rfl⟩|(simp;done)|(simp;omega))|(intros;trivial)));(try (simp only [nc] at *));(try simp (disch:=(first|omega|(simp only [lnS];omega))) only [rdT,rdS]);(try cbv))
   | fail
  )
  refine E.loopS (ι:=Nat) (fun k=>k≤g.th.length∧(runL mx mx ((lensT g).drop k) (S1 k) = r1∧0≤S1 k∧S1 k≤4 * mx + 4)) (fun k=>g.th.length - k) (fun k=>[(6,.i fun _=>((k : Nat) : Int)),(5,.i fun _=>S1 k)]) (fun k h=>h) 0 (fun _=>by first|rfl|simp) ⟨Nat.zero_le _,?_⟩ ?_ fun k hk I2 hI2=>?_
  ·rw [z1, List.drop_zero]; exact ⟨hr1.symm, by omega⟩
  ·cbv
   rw [z1, hs]
   simp (disch:=omega) [light0,w64_of]
   repeat' split
   all_goals omega
  cbv
  have hgt := ths_le hg k
  have nk := n1 k
  have ek := fun h1 h2 => runL_step (mx := mx) (cap := mx) (l := lensT g) (s := s0) (k := k) h1 h2
  have fk := fun h1 => runL_end (mx := mx) (cap := mx) (l := lensT g) (s := s0) (k := k) h1
  rw [← hS1, ← hS1, ← hr1] at ek
  rw [← hS1, ← hr1] at fk
  repeat' (first
   |(refine hI2 (k + 1) ?_ ?_ ?_;rotate_left 1;(· ((try simp only [nc] at *);omega));(cbv;clear hI2;(try clear hF);(try simp only [nc] at *);(try simp (disch:=(first|omega|(simp only [lnS];omega))) only [rdT,rdS,anT]));rotate_left 1;(try ((try simp only [nc] at *);omega)))
   |(refine ⟨fun _ h_s=>?_,fun _ h_s=>?_⟩<;>(cbv;(try simp only [nc] at *);try simp (disch:=(first|omega|(simp only [lnS];omega))) only [rdT,rdS,reduceCtorEq,trT] at h_s))
   |(refine hF ?_;intro _;clear hF)
   |(refine hF ?_;cbv;clear hF)
   |(refine ⟨fun _=>?_,?_⟩;(· ((try simp only [nc] at *);first|done|omega|exact ⟨by omega,rfl⟩|(simp (disch:=(first|omega|(simp only [lnS];omega))) only [rdT,rdS];first|done|omega|rfl|exact ⟨by omega,rfl⟩|(simp;done)|(simp;omega))|(intros;trivial)));(try (simp only [nc] at *));(try simp (disch:=(first|omega|(simp only [lnS];omega))) only [rdT,rdS]);(try cbv))
   | fail
  )
  ·refine ⟨?_, ?_⟩ <;> first | omega | (rw [nk (by ((try simp only [nc] at *); omega))]; split <;> omega)
  all_goals
   have hfk := fk (by ((try simp only [nc] at *); omega)) hk.2.1
   refine hI ?_
   cbv
   clear hI hI2 ek fk nk
   simp [hfk]
 refine E.cut 2 (told 111 [(1, .i fun _ => mx), (2, .ptr 0 0), (5, .i fun _ => r2)] [.box (aGr g)]) (by kernel_rfl) (Nat.zero_le _) (fun I hI => ?_) ?_
 ·cbv
  repeat' (first
   |(refine ⟨fun _ h_s=>?_,fun _ h_s=>?_⟩<;>(cbv;(try simp only [nc] at *);try simp (disch:=(first|omega|(simp only [lnS];omega))) only [rdT,rdS,reduceCtorEq,trT] at h_s))
   |(refine hF ?_;intro _;clear hF)
   |(refine hF ?_;cbv;clear hF)
   |(refine ⟨fun _=>?_,?_⟩;(· ((try simp only [nc] at *);first|done|omega|exact ⟨by omega,rfl⟩|(simp (disch:=(first|omega|(simp only [lnS];omega))) only [rdT,rdS];first|done|omega|rfl|exact ⟨by omega,rfl⟩|(simp;done)|(simp;omega))|(intros;trivial)));(try (simp only [nc] at *));(try simp (disch:=(first|omega|(simp only [lnS];omega))) only [rdT,rdS]);(try cbv))
   | fail
  )
  refine E.loopS (ι:=Nat) (fun k=>k≤g.fr.length∧(runL mx (2 * mx) ((lensF g).drop k) (S2 k) = r2∧0≤S2 k∧S2 k≤4 * mx + 4)) (fun k=>g.fr.length - k) (fun k=>[(7,.i fun _=>((k : Nat) : Int)),(5,.i fun _=>S2 k)]) (fun k h=>h) 0 (fun _=>by first|rfl|simp) ⟨Nat.zero_le _,?_⟩ ?_ fun k hk I2 hI2=>?_
  ·rw [z2, List.drop_zero]; exact ⟨hr2.symm, by omega⟩
  ·cbv
   rw [z2]
   simp
  cbv
  have hgt := frs_le hg k
  have nk := n2 k
  have ek := fun h1 h2 => runL_step (mx := mx) (cap := (2 * mx)) (l := lensF g) (s := r1) (k := k) h1 h2
  have fk := fun h1 => runL_end (mx := mx) (cap := (2 * mx)) (l := lensF g) (s := r1) (k := k) h1
  rw [← hS2, ← hS2, ← hr2] at ek
  rw [← hS2, ← hr2] at fk
  repeat' (first
   |(refine hI2 (k + 1) ?_ ?_ ?_;rotate_left 1;(· ((try simp only [nc] at *);omega));(cbv;clear hI2;(try clear hF);(try simp only [nc] at *);(try simp (disch:=(first|omega|(simp only [lnS];omega))) only [rdT,rdS,anT]));rotate_left 1;(try ((try simp only [nc] at *);omega)))
   |(refine ⟨fun _ h_s=>?_,fun _ h_s=>?_⟩<;>(cbv;(try simp only [nc] at *);try simp (disch:=(first|omega|(simp only [lnS];omega))) only [rdT,rdS,reduceCtorEq,trT] at h_s))
   |(refine hF ?_;intro _;clear hF)
   |(refine hF ?_;cbv;clear hF)
   |(refine ⟨fun _=>?_,?_⟩;(· ((try simp only [nc] at *);first|done|omega|exact ⟨by omega,rfl⟩|(simp (disch:=(first|omega|(simp only [lnS];omega))) only [rdT,rdS];first|done|omega|rfl|exact ⟨by omega,rfl⟩|(simp;done)|(simp;omega))|(intros;trivial)));(try (simp only [nc] at *));(try simp (disch:=(first|omega|(simp only [lnS];omega))) only [rdT,rdS]);(try cbv))
   | fail
  )
  ·refine ⟨?_, ?_⟩ <;> first | omega | (rw [nk (by ((try simp only [nc] at *); omega))]; split <;> omega)
  all_goals
   have hfk := fk (by ((try simp only [nc] at *); omega)) hk.2.1
   refine hI ?_
   cbv
   clear hI hI2 ek fk nk
   simp [hfk]
 refine E.cut 2 (told 111 [(1, .i fun _ => mx), (2, .ptr 0 0), (5, .i fun _ => r3)] [.box (aGr g)]) (by kernel_rfl) (Nat.zero_le _) (fun I hI => ?_) (E.bl ?_)
 ·cbv
  repeat' (first
   |(refine ⟨fun _ h_s=>?_,fun _ h_s=>?_⟩<;>(cbv;(try simp only [nc] at *);try simp (disch:=(first|omega|(simp only [lnS];omega))) only [rdT,rdS,reduceCtorEq,trT] at h_s))
   |(refine hF ?_;intro _;clear hF)
   |(refine hF ?_;cbv;clear hF)
   |(refine ⟨fun _=>?_,?_⟩;(· ((try simp only [nc] at *);first|done|omega|exact ⟨by omega,rfl⟩|(simp (disch:=(first|omega|(simp only [lnS];omega))) only [rdT,rdS];first|done|omega|rfl|exact ⟨by omega,rfl⟩|(simp;done)|(simp;omega))|(intros;trivial)));(try (simp only [nc] at *));(try simp (disch:=(first|omega|(simp only [lnS];omega))) only [rdT,rdS]);(try cbv))
   | fail
  )
  refine E.loopS (ι:=Nat) (fun k=>k≤g.ord.length∧(runL mx (3 * mx) ((lensO g).drop k) (S3 k) = r3∧0≤S3 k∧S3 k≤4 * mx + 4)) (fun k=>g.ord.length - k) (fun k=>[(8,.i fun _=>((k : Nat) : Int)),(5,.i fun _=>S3 k)]) (fun k h=>h) 0 (fun _=>by first|rfl|simp) ⟨Nat.zero_le _,?_⟩ ?_ fun k hk I2 hI2=>?_
  ·rw [z3, List.drop_zero]; exact ⟨hr3.symm, by omega⟩
  ·cbv
   rw [z3]
   simp
  cbv
  have hgt := ordsAt hg k
  have nk := n3 k
  have ek := fun h1 h2 => runL_step (mx := mx) (cap := (3 * mx)) (l := lensO g) (s := r2) (k := k) h1 h2
  have fk := fun h1 => runL_end (mx := mx) (cap := (3 * mx)) (l := lensO g) (s := r2) (k := k) h1
  rw [← hS3, ← hS3, ← hr3] at ek
  rw [← hS3, ← hr3] at fk
  repeat' (first
   |(refine hI2 (k + 1) ?_ ?_ ?_;rotate_left 1;(· ((try simp only [nc] at *);omega));(cbv;clear hI2;(try clear hF);(try simp only [nc] at *);(try simp (disch:=(first|omega|(simp only [lnS];omega))) only [rdT,rdS,anT]));rotate_left 1;(try ((try simp only [nc] at *);omega)))
   |(refine ⟨fun _ h_s=>?_,fun _ h_s=>?_⟩<;>(cbv;(try simp only [nc] at *);try simp (disch:=(first|omega|(simp only [lnS];omega))) only [rdT,rdS,reduceCtorEq,trT] at h_s))
   |(refine hF ?_;intro _;clear hF)
   |(refine hF ?_;cbv;clear hF)
   |(refine ⟨fun _=>?_,?_⟩;(· ((try simp only [nc] at *);first|done|omega|exact ⟨by omega,rfl⟩|(simp (disch:=(first|omega|(simp only [lnS];omega))) only [rdT,rdS];first|done|omega|rfl|exact ⟨by omega,rfl⟩|(simp;done)|(simp;omega))|(intros;trivial)));(try (simp only [nc] at *));(try simp (disch:=(first|omega|(simp only [lnS];omega))) only [rdT,rdS]);(try cbv))
   | fail
  )
  ·refine ⟨?_, ?_⟩ <;> first | omega | (rw [nk (by ((try simp only [nc] at *); omega))]; split <;> omega)
  all_goals
   have hfk := fk (by ((try simp only [nc] at *); omega)) hk.2.1
   refine hI ?_
   cbv
   clear hI hI2 ek fk nk
   simp [hfk]
 ·cbv
  repeat' (first
   |(refine ⟨fun _ h_s=>?_,fun _ h_s=>?_⟩<;>(cbv;(try simp only [nc] at *);try simp (disch:=(first|omega|(simp only [lnS];omega))) only [rdT,rdS,reduceCtorEq,trT] at h_s))
   |(refine hF ?_;intro _;clear hF)
   |(refine hF ?_;cbv;clear hF)
   |(refine ⟨fun _=>?_,?_⟩;(· ((try simp only [nc] at *);first|done|omega|exact ⟨by omega,rfl⟩|(simp (disch:=(first|omega|(simp only [lnS];omega))) only [rdT,rdS];first|done|omega|rfl|exact ⟨by omega,rfl⟩|(simp;done)|(simp;omega))|(intros;trivial)));(try (simp only [nc] at *));(try simp (disch:=(first|omega|(simp only [lnS];omega))) only [rdT,rdS]);(try cbv))
   | fail
  )
  rw [w64_of (by omega) (by omega)]
end Go.AL.Rl

namespace Go.AL.Rl
open Go Go.AL Go.Proofs
set_option maxRecDepth 100000
set_option maxHeartbeats 1600000
variable {γ : Nat → Option AV}

def gS (o : Int) : Gr := ⟨[0], [[⟨2, 0, o, 0, 1⟩], [⟨1, 0, 3, 1, 0⟩]], [[⟨0, 0⟩], [⟨1, 0⟩]], [[⟨1, 0⟩]]⟩
theorem small_ok (o : Int) : Pure Try.prog γ false 11 [.i fun _ => o] (aGr (gS o)) := by
 refine Pure.go (ty := ty) ty_eq mo Try.func11 rfl Try.ntmps11 Try.results11 Try.call11 (by simp) fun P C CQ D W F E hF => ?_
 cbv
 repeat' (first
  |(refine ⟨fun _ h_s=>?_,fun _ h_s=>?_⟩<;>(cbv;(try simp only [nc] at *);try simp (disch:=(first|omega|(simp only [lnS];omega))) only [rdT,rdS,reduceCtorEq,trT] at h_s))
  |(refine hF ?_;intro _;clear hF)
  |(refine hF ?_;cbv;clear hF)
  |(refine ⟨fun _=>?_,?_⟩;(· ((try simp only [nc] at *);first|done|omega|exact ⟨by omega,rfl⟩|(simp (disch:=(first|omega|(simp only [lnS];omega))) only [rdT,rdS];first|done|omega|rfl|exact ⟨by omega,rfl⟩|(simp;done)|(simp;omega))|(intros;trivial)));(try (simp only [nc] at *));(try simp (disch:=(first|omega|(simp only [lnS];omega))) only [rdT,rdS]);(try cbv))
  | fail
 )
def tgtC (V : Vw) (n w : Nat) : BitVec 64 := maskTo (fun a => acqM (V.ev.getD a ev0) && behM V n (maskTo (rdrM V (1#64 <<< w)) n) a) n
def rowC (V : Vw) (n : Nat) : Nat → Nat → BitVec 64
 | 0, _ => 0#64
 | w + 1, r => if swR V w r = true then rowC V n w r ||| tgtC V n w else rowC V n w r
def swC (V : Vw) (n : Nat) : List (BitVec 64) := relRows n (bit (tab n (rowC V n n)))
theorem seq_plain {V : Vw} {n w : Nat} (hn : n ≤ 64) (hw : w < n) (h : ∀ i < n, (V.ev.getD i ev0).kind ≠ 3) : 1#64 <<< w = seqM V n w := by
 refine seq_unique hn hw ?_ (fun j hj => ?_) fun i hi hk => absurd hk (h i hi)
 ·rw [BitVec.getLsbD_shiftLeft, BitVec.getLsbD_one]; simp; omega
 ·rw [BitVec.getLsbD_shiftLeft, BitVec.getLsbD_one] at hj
  simp at hj
  have : j = w := by omega
  subst this
  exact .base
theorem rowC_eq {V : Vw} {n : Nat} (hn : n ≤ 64) (h : ∀ i < n, (V.ev.getD i ev0).kind ≠ 3) : ∀ k, k ≤ n → ∀ r, rowT V n k r = rowC V n k r
 | 0, _, _ => rfl
 | k + 1, hk, r => by
  have e : tgtM V n k = tgtC V n k := by unfold tgtM tgtC; rw [seq_plain hn (by omega) h]
  show (if swR V k r = true then rowT V n k r ||| tgtM V n k else rowT V n k r) = if swR V k r = true then rowC V n k r ||| tgtC V n k else rowC V n k r
  rw [rowC_eq hn h k (by omega) r, e]
theorem swC_eq {V : Vw} {n : Nat} (hn : n ≤ 64) (h : ∀ i < n, (V.ev.getD i ev0).kind ≠ 3) : swF V n = swC V n := by
 unfold swF swC swRows
 rw [show rowT V n n = rowC V n n from funext fun r => rowC_eq hn h n (Nat.le_refl _) r]
def vS (o : Int) : Vw := ⟨[⟨0, 0⟩, ⟨1, 0⟩, ⟨2, 0⟩], [⟨2, 0, 1, 0, 0⟩, ⟨2, 0, o, 0, 1⟩, ⟨1, 0, 3, 1, 0⟩], [-1, -1, 1], [0, 1, -1]⟩
theorem gS4 : GOk (gS 4) := by decide +kernel
theorem gS4v : viewG (gS 4) = vS 4 := by
 unfold viewG vS
 simp only [Vw.mk.injEq]
 decide +kernel
theorem gSn (o : Int) : nG (gS o) = 3 := rfl
theorem NG4 : NG (gS 4) = 3 := by unfold NG; rw [if_pos gS4, gSn]; rfl
theorem rows4 (f : Vw → Nat → List (BitVec 64)) : rowsG (gS 4) f = f (vS 4) 3 := by unfold rowsG; rw [if_pos gS4, gSn, gS4v]
theorem po4 : rowsG (gS 4) poF = [6, 0, 0] := by rw [rows4]; decide +kernel
theorem rf4 : rowsG (gS 4) rfF = [0, 4, 0] := by rw [rows4]; decide +kernel
theorem sw4 : rowsG (gS 4) swF = [0, 4, 0] := by rw [rows4, swC_eq (by omega) (by decide +kernel)]; decide +kernel
theorem hb4 : rowsG (gS 4) hbF = [6, 4, 0] := by
 rw [rows4]
 have := sw4
 rw [rows4] at this
 unfold hbF
 rw [this]
 decide +kernel
theorem rdSm (o : Int) : Rd (gS o) := by
 refine ⟨by simp [gS], by simp [gS], by simp [gS], by simp [gS], ?_, ?_, ?_⟩ <;> simp [gS]
end Go.AL.Rl

namespace Go.AL.Rl
open Go Go.AL Go.Proofs
set_option maxRecDepth 100000

theorem bit_orM {n : Nat} {l : List RelV} (i j : Nat) : bit (orM n l) i j = true ↔ i < n ∧ ∃ r ∈ l, bit r.2 i j = true := by
 rw [orM, bit_tab, Bool.and_eq_true, decide_eq_true_eq, or_bit]
theorem bit_relI {n : Nat} (hn : n ≤ 62) (p : Nat → Nat → Bool) (i j : Nat) : bit (relRows n p) i j = true ↔ i < n ∧ j < n ∧ p i j = true := by
 rw [bit_rel (by omega)]; simp
end Go.AL.Rl

namespace Go.AL.Rl
open Go Go.AL Go.Proofs
set_option maxRecDepth 100000

theorem notFence_w {e : Ev} (h : writesM e = true) : fenceM e = false := by
 unfold writesM at h; unfold fenceM
 simp only [Bool.or_eq_true, decide_eq_true_eq, decide_eq_false_iff_not] at *
 omega
theorem event_init {g : Gr} {d : EId} {e : Ev} (h : eventM g d = some e) (h0 : d.t = 0) : e.kind = 2 ∧ e.loc = d.i ∧ 0 ≤ d.i := by
 unfold eventM at h
 rw [if_pos h0] at h
 split at h
 ·rename_i hc
  cases h
  exact ⟨rfl, rfl, hc.1⟩
 ·cases h
theorem event_fine {g : Gr} (hg : GOk g) {d : EId} {e : Ev} (h : eventM g d = some e) (h0 : d.t ≠ 0) : fineM g.init.length e = true := by
 unfold eventM at h
 rw [if_neg h0] at h
 split at h
 ·rename_i hc
  cases h
  exact (hg.events (d.t - 1).toNat (by omega)).2 d.i.toNat (by omega)
 ·cases h
theorem fine_loc {n : Int} {e : Ev} (h : fineM n e = true) (hk : fenceM e = false) : 0 ≤ e.loc ∧ e.loc < n := by
 unfold fineM at h; unfold fenceM at hk
 simp only [Bool.and_eq_true, decide_eq_true_eq, decide_eq_false_iff_not] at *
 have := h.2
 rw [if_neg hk] at this
 simpa using this
/-- each write of a thread stands in its location's order -/
theorem ord_has {g : Gr} (hg : GOk g) {x : Nat} {d : EId} (h : isW g x d = true) : d ∈ g.ord.getD x [] := by
 have hp := (orders_perm hg.lord hg.events).1 hg.orders
 have := hp.symm.subset ((isW_mem g x d).1 h)
 unfold qsT at this
 simp only [List.mem_flatMap, List.mem_range, List.mem_map] at this
 obtain ⟨k, hk, d', hd, he⟩ := this
 obtain ⟨rfl, h2⟩ := Prod.mk.inj he
 have : k = x := by omega
 subst this
 exact hd
theorem isW_of {g : Gr} {d : EId} {e : Ev} (h : eventM g d = some e) (h0 : d.t ≠ 0) (hw : writesM e = true) (x : Int) (hx : e.loc = x) : isW g x d = true := by
 unfold isW
 rw [h]
 simp [h0, hw, hx]
theorem pl_write {g : Gr} (hg : GOk g) {d : EId} {e : Ev} (h : eventM g d = some e) (hw : writesM e = true) :
  d.t = 0 ∧ plOf g d = 0 ∨ d.t ≠ 0 ∧ ∃ k : Nat, plOf g d = k + 1 ∧ k < (g.ord.getD e.loc.toNat []).length ∧ (g.ord.getD e.loc.toNat []).getD k id0 = d := by
 by_cases h0 : d.t = 0
 ·exact .inl ⟨h0, by unfold plOf; rw [if_pos h0]⟩
 ·refine .inr ⟨h0, ?_⟩
  have hl := fine_loc (event_fine hg h h0) (notFence_w hw)
  have hm := ord_has hg (x := e.loc.toNat) (isW_of h h0 hw _ (by omega))
  have hf := numOf_find hm
  refine ⟨numOf (g.ord.getD e.loc.toNat []) d, ?_, numOf_lt hm, numOf_get hm⟩
  unfold plOf
  rw [if_neg h0, h, Option.getD_some, hf]
theorem pl_other {g : Gr} (hg : GOk g) {d : EId} {e : Ev} (h : eventM g d = some e) (hw : writesM e = false) : plOf g d = -1 := by
 have h0 : d.t ≠ 0 := fun h0 => by
  obtain ⟨hk, _⟩ := event_init h h0
  unfold writesM at hw
  simp [hk] at hw
 unfold plOf
 rw [if_neg h0, h, Option.getD_some]
 split
 ·rename_i k hk
  exfalso
  rw [List.findIdx?_eq_some_iff_getElem] at hk
  obtain ⟨h1, h2, _⟩ := hk
  have hm := List.getElem_mem h1
  simp only [decide_eq_true_eq] at h2
  rw [h2] at hm
  have hx : e.loc.toNat < g.init.length := by
   rcases Nat.lt_or_ge e.loc.toNat g.ord.length with hc | hc
   ·rw [← hg.lord]; exact hc
   ·rw [List.getD_eq_getElem?_getD, List.getElem?_eq_none hc] at hm; simp at hm
  obtain ⟨_, q2, _⟩ := (ordered_iff g e.loc.toNat).1 (hg.orders _ hx)
  obtain ⟨e', he', _, hw', _⟩ := isW_event (q2 _ hm)
  rw [h] at he'
  cases he'
  rw [hw] at hw'; cases hw'
 ·rfl
theorem vev {g : Gr} (_ : GOk g) (i : Nat) (hi : i < nG g) : eventM g ((idsG g).getD i id0) = some ((viewG g).ev.getD i ev0) := evsG_get g i hi
theorem vpl {g : Gr} (_ : GOk g) (i : Nat) (hi : i < nG g) : (viewG g).pl.getD i 0 = plOf g ((idsG g).getD i id0) := tabI_get _ _ _ hi
theorem vfr {g : Gr} (_ : GOk g) (i : Nat) (hi : i < nG g) : (viewG g).fr.getD i 0 = frOf g ((idsG g).getD i id0) := tabI_get _ _ _ hi
theorem init_reads {g : Gr} {d : EId} {e : Ev} (h : eventM g d = some e) (h0 : d.t = 0) : readsM e = false := by
 obtain ⟨hk, _⟩ := event_init h h0
 unfold readsM; rw [hk]; rfl
section
variable {g : Gr} (hg : GOk g)
include hg
theorem pl_iff (i : Nat) (hi : i < nG g) : 0 ≤ (viewG g).pl.getD i 0 ↔ writesM ((viewG g).ev.getD i ev0) = true := by
 rw [vpl hg i hi]
 constructor
 ·intro h
  cases hw : writesM ((viewG g).ev.getD i ev0) with
  | true => rfl
  | false => rw [pl_other hg (vev hg i hi) hw] at h; omega
 ·intro h
  rcases pl_write hg (vev hg i hi) h with ⟨_, h2⟩ | ⟨_, k, h2, _⟩ <;> omega
theorem pl_inj (i j : Nat) (hi : i < nG g) (hj : j < nG g) (hwi : writesM ((viewG g).ev.getD i ev0) = true) (hwj : writesM ((viewG g).ev.getD j ev0) = true)
  (hl : ((viewG g).ev.getD i ev0).loc = ((viewG g).ev.getD j ev0).loc) (hp : (viewG g).pl.getD i 0 = (viewG g).pl.getD j 0) : i = j := by
 refine getD_inj (idsG_nodup g) hi hj ?_
 rw [vpl hg i hi, vpl hg j hj] at hp
 rcases pl_write hg (vev hg i hi) hwi with ⟨t1, h1⟩ | ⟨t1, k, h1, hk, e1⟩ <;> rcases pl_write hg (vev hg j hj) hwj with ⟨t2, h2⟩ | ⟨t2, k', h2, hk', e2⟩
 ·obtain ⟨_, l1, _⟩ := event_init (vev hg i hi) t1
  obtain ⟨_, l2, _⟩ := event_init (vev hg j hj) t2
  exact EId.ext' (by omega) (by omega)
 ·omega
 ·omega
 ·have : k = k' := by omega
  subst this
  rw [← e1, ← e2, hl]
theorem fr_iff (i : Nat) (hi : i < nG g) : 0 ≤ (viewG g).fr.getD i 0 ↔ readsM ((viewG g).ev.getD i ev0) = true := by
 rw [vfr hg i hi]
 have he := vev hg i hi
 unfold frOf
 split
 ·rename_i h0
  rw [init_reads he h0]
  constructor
  ·intro h; omega
  ·intro h; cases h
 ·rw [he, Option.getD_some]
  split
  ·rename_i h; simp only [h, iff_true]; omega
  ·rename_i h; simp only [h, Bool.false_eq_true, iff_false]; omega
/-- what is read from -/
theorem src_of (i : Nat) (hi : i < nG g) (hr : readsM ((viewG g).ev.getD i ev0) = true) : ∃ w : Nat, (viewG g).fr.getD i 0 = w ∧ w < nG g ∧ w ≠ i ∧ writesM ((viewG g).ev.getD w ev0) = true ∧ ((viewG g).ev.getD w ev0).loc = ((viewG g).ev.getD i ev0).loc := by
 have he := vev hg i hi
 have h0 : ((idsG g).getD i id0).t ≠ 0 := fun h0 => by
  rw [init_reads he h0] at hr; cases hr
 have hd : (idsG g).getD i id0 ∈ idsG g := getD_mem hi
 obtain ⟨w, hw, h1, h2, h3, _⟩ := source_mem (src_ok hg hd h0) (by rw [he]; exact hr)
 have hm : srcOf g ((idsG g).getD i id0) ∈ idsG g := idsG_mem.2 (by rw [hw]; rfl)
 have hlt : numOf (idsG g) (srcOf g ((idsG g).getD i id0)) < nG g := numOf_lt hm
 have hev := vev hg _ hlt
 rw [numOf_get hm, hw] at hev
 have hev := Option.some.inj hev
 refine ⟨numOf (idsG g) (srcOf g ((idsG g).getD i id0)), ?_, hlt, fun e => h1 ?_, by rw [← hev]; exact h2, by rw [← hev, h3, he]; rfl⟩
 ·rw [vfr hg i hi]; unfold frOf; rw [if_neg h0, he, Option.getD_some, if_pos hr]
 ·have := numOf_get hm; rw [e] at this; exact this.symm
end
end Go.AL.Rl

namespace Go.AL.Rl
open Go Go.AL Go.Proofs
set_option maxRecDepth 100000
set_option maxHeartbeats 1600000

end Go.AL.Rl

namespace Go.AL.Rl
open Go Go.AL Go.Proofs
set_option maxRecDepth 100000
set_option maxHeartbeats 1600000
variable {γ : Nat → Option AV}

end Go.AL.Rl

namespace Go.AL.Rl
open Go Go.AL Go.Proofs
set_option maxRecDepth 100000
set_option maxHeartbeats 3200000
variable {γ : Nat → Option AV}

end Go.AL.Rl

namespace Go.AL.Rl
open Go Go.AL Go.Proofs
set_option maxRecDepth 100000
set_option maxHeartbeats 3200000
variable {γ : Nat → Option AV}

end Go.AL.Rl

namespace Go.AL.Rl
open Go Go.AL Go.Proofs
set_option maxRecDepth 100000
set_option maxHeartbeats 3200000
variable {γ : Nat → Option AV}

end Go.AL.Rl

namespace Go.AL.Rl
open Go Go.AL Go.Proofs
set_option maxRecDepth 100000
set_option maxHeartbeats 3200000
variable {γ : Nat → Option AV}

end Go.AL.Rl

namespace Go.AL.Rl
open Go Go.AL Go.Proofs
set_option maxRecDepth 100000
set_option maxHeartbeats 3200000
variable {γ : Nat → Option AV}

structure Mk where
 id : EId
 w : Bool
theorem Mk.ext' {a b : Mk} (h1 : a.id = b.id) (h2 : a.w = b.w) : a = b := by cases a; cases b; simp_all
instance : DecidableEq Mk := fun a b => decidable_of_iff (a.id = b.id ∧ a.w = b.w) ⟨fun h => Mk.ext' h.1 h.2, fun h => by subst h; exact ⟨rfl, rfl⟩⟩
abbrev mk0 : Mk := ⟨⟨0, 0⟩, false⟩
abbrev aMk (m : Mk) : AV := .agg [.i fun _ => m.id.t, .i fun _ => m.id.i, .b fun _ => m.w]
def mks (l : List Mk) : LV := LV.of (l.map aMk)
@[simp] theorem mks_len (l : List Mk) : (mks l).l.length = l.length := by simp [mks]
structure Sta where
 g : Gr
 ms : List Mk
 half : Int
def needM (d : EId) (k : Int) : List Mk := (if k = 2 then [] else [⟨d, false⟩]) ++ if k = 2 ∨ k = 3 then [⟨d, true⟩] else []
end Go.AL.Rl

namespace Go.AL.Rl
open Go Go.AL Go.Proofs
set_option maxRecDepth 100000
set_option maxHeartbeats 1600000

def keepP (l : List EId) (t i : Nat) : List Nat := (List.range i).filter fun j => decide ((⟨(t : Int) + 1, (j : Int)⟩ : EId) ∈ l)
theorem keepP_len (l : List EId) (t i : Nat) : (keepP l t i).length ≤ i := by
 unfold keepP
 exact Nat.le_trans (List.length_filter_le _ _) (by simp)
def keepTh (g : Gr) (l : List EId) (t i : Nat) : List Ev := (keepP l t i).map fun j => (g.th.getD t []).getD j ev0
def keepFr (g : Gr) (l : List EId) (t i : Nat) : List EId := (keepP l t i).map fun j => (g.fr.getD t []).getD j id0
def keepO (l o : List EId) : List EId := o.filter fun d => decide (d ∈ l)
def keepM (g : Gr) (l : List EId) : Gr :=
 ⟨g.init, (List.range g.th.length).map fun t => keepTh g l t (g.th.getD t []).length, (List.range g.th.length).map fun t => keepFr g l t (g.th.getD t []).length, g.ord.map (keepO l)⟩
end Go.AL.Rl

namespace Go.AL
open Go Go.RowKit
section
variable {P : Program} {γ : Nat → Option AV} {C : EC} {CQ : List Blk → QC} {T : Nat → TI} {D : Array Oper → (St → Prop) → St → Prop} {W : Code → (Exit → St → Prop) → St → Prop}
theorem inBlk_mono {id : Nat} {Q Q' : Exit → St → Prop} (h : ∀ e A, Q e A → Q' e A) : ∀ e A, inBlk id Q e A → inBlk id Q' e A := by
 intro e A
 cases e with
 | exit id' => simp only [inBlk]; split <;> exact h _ _
 | _ => exact h _ _
/-- the last part of a block, and what stands behind it -/
theorem Env.blk (E : Env P γ C CQ T D W) {n id : Nat} {l r : List Code} {Q : Exit → St → Prop} {A : St} (h : vcl T γ C D W l (inBlk id (thenE (fun A => vcl T γ C D W r Q A) Q)) A) : AWPl P γ n l (inBlk id (thenE (fun A => AWPl P γ n r Q A) Q)) A :=
 (E.bl h).mono (inBlk_mono fun e A h' => by
  cases e with
  | normal => exact E.bl h'
  | _ => exact h')
end
end Go.AL
namespace Go.AL.Rl
open Go Go.AL Go.Proofs
set_option maxRecDepth 100000
set_option maxHeartbeats 3200000
variable {γ : Nat → Option AV}

abbrev gz : Gr := ⟨[], [], [], []⟩
end Go.AL.Rl

namespace Go.AL.Rl
open Go Go.AL Go.Proofs
set_option maxRecDepth 100000
set_option maxHeartbeats 3200000
variable {γ : Nat → Option AV}

/-- the last place of a mark among the first ones -/
def lastK (ms : List Mk) (d : Mk) : Nat → Option Nat
 | 0 => none
 | n + 1 => if ms.getD n mk0 = d then some n else lastK ms d n
def plK (ms : List Mk) (d : Mk) : Int := match lastK ms d ms.length with | some k => (k : Nat) | none => -1
/-- the last place, as long as they go up -/
def scanK (p : Mk → Int) (l : List Mk) : Option Int := l.foldl (fun s d => s.bind fun x => if x < p d then some (p d) else none) (some (-1))
def needE (t : Nat) (l : List Ev) (i : Nat) : List Mk := (List.range i).flatMap fun (j : Nat) => needM ⟨(t : Int) + 1, (j : Int)⟩ (l.getD j ev0).kind
def cntN (g : Gr) (t : Nat) : Nat := ((List.range t).map fun k => (needE k (g.th.getD k []) (g.th.getD k []).length).length).sum
def markedM (g : Gr) (ms : List Mk) : Bool := decide (∀ t < g.th.length, (scanK (plK ms) (needE t (g.th.getD t []) (g.th.getD t []).length)).isSome = true) && decide (cntN g g.th.length = ms.length)
end Go.AL.Rl

namespace Go.AL.Rl
open Go Go.AL Go.Proofs
set_option maxRecDepth 100000
set_option maxHeartbeats 3200000
variable {γ : Nat → Option AV}

end Go.AL.Rl

namespace Go.AL.Rl
open Go Go.AL Go.Proofs
set_option maxRecDepth 100000
set_option maxHeartbeats 3200000
variable {γ : Nat → Option AV}

end Go.AL.Rl

namespace Go.AL.Rl
open Go Go.AL Go.Proofs
set_option maxRecDepth 100000
set_option maxHeartbeats 3200000
variable {γ : Nat → Option AV}

def halfOk (s : Sta) : Bool := decide (0 ≤ s.half) && decide (s.half ≤ s.g.th.length) && (decide (s.half = 0) || (decide ((s.g.th.getD (s.half - 1).toNat []).length ≠ 0) && decide (((s.g.th.getD (s.half - 1).toNat []).getD ((s.g.th.getD (s.half - 1).toNat []).length - 1) ev0).kind = 1)))
def SOk (s : Sta) : Prop := GOk s.g ∧ markedM s.g s.ms = true ∧ halfOk s = true
instance (s : Sta) : Decidable (SOk s) := inferInstanceAs (Decidable (_ ∧ _))
end Go.AL.Rl

namespace Go.AL.Rl
open Go Go.AL Go.Proofs
set_option maxRecDepth 100000
set_option maxHeartbeats 3200000
variable {γ : Nat → Option AV}

abbrev sz : Sta := ⟨gz, [], 0⟩
theorem keep_th (g : Gr) (l : List EId) (t : Nat) : (keepM g l).th.getD t [] = if t < g.th.length then keepTh g l t (g.th.getD t []).length else [] := by
 unfold keepM
 by_cases h : t < g.th.length
 ·rw [if_pos h]; simp [h]
 ·rw [if_neg h]; simp [h]
theorem keep_thl (g : Gr) (l : List EId) : (keepM g l).th.length = g.th.length := by simp [keepM]
theorem keep_le (g : Gr) (l : List EId) (t : Nat) : ((keepM g l).th.getD t []).length ≤ (g.th.getD t []).length := by
 rw [keep_th]
 split
 ·unfold keepTh; rw [List.length_map]; exact keepP_len l t _
 ·exact Nat.zero_le _
end Go.AL.Rl

namespace Go.AL.Rl
open Go Go.AL Go.Proofs
set_option maxRecDepth 100000
set_option maxHeartbeats 3200000
variable {γ : Nat → Option AV}

end Go.AL.Rl

namespace Go.AL.Rl
open Go Go.AL Go.Proofs
set_option maxRecDepth 100000
set_option maxHeartbeats 3200000
variable {γ : Nat → Option AV}

end Go.AL.Rl

namespace Go.AL.Rl
open Go Go.AL Go.Proofs
set_option maxRecDepth 100000
set_option maxHeartbeats 3200000

def evT (g : Gr) (d : EId) : Prop := 1 ≤ d.t ∧ d.t ≤ g.th.length ∧ 0 ≤ d.i ∧ d.i < (g.th.getD (d.t - 1).toNat []).length
theorem evT_iff {g : Gr} {d : EId} : evT g d ↔ d ∈ idsT g g.th.length := (idsT_mem (g := g) (t := g.th.length) (d := d)).symm
def ahead (g : Gr) (a d : EId) : Prop := (a.t = d.t ∧ a.i < d.i) ∨ (readsM ((eventM g d).getD ev0) = true ∧ srcOf g d = a)
def Dn (g : Gr) (l : List EId) : Prop := ∀ d ∈ l, ∀ a, evT g a → ahead g a d → a ∈ l
theorem idx_lo {g : Gr} {j : Nat} (h : j < g.init.length) : (idsG g).getD j id0 = ⟨0, j⟩ := by
 unfold idsG
 rw [List.getD_eq_getElem?_getD, List.getElem?_append_left (by rw [idsI_len]; exact h)]
 simp [idsI, h]
/-- what is closed: events of threads, none twice, with all ahead of them -/
def ClG (g : Gr) (l : List EId) : Prop := l.Nodup ∧ (∀ d ∈ l, evT g d) ∧ Dn g l
end Go.AL.Rl

namespace Go.AL.Rl
open Go Go.AL Go.Proofs
set_option maxRecDepth 100000
set_option maxHeartbeats 3200000

theorem range_down (p : Nat → Bool) : ∀ n, (∀ j < n, p j = true → ∀ i < j, p i = true) → (List.range n).filter p = List.range ((List.range n).filter p).length ∧ ((List.range n).filter p).length ≤ n ∧ ∀ j < n, (p j = true ↔ j < ((List.range n).filter p).length)
 | 0, _ => by simp
 | n + 1, h => by
  obtain ⟨h1, h2, h3⟩ := range_down p n fun j hj => h j (by omega)
  rw [List.range_succ, List.filter_append]
  cases hn : p n with
  | true =>
   have hall : ∀ j < n, j < ((List.range n).filter p).length := fun j hj => (h3 j hj).1 (h n (by omega) hn j hj)
   have hlen : ((List.range n).filter p).length = n := by
    rcases Nat.lt_or_ge ((List.range n).filter p).length n with h4 | h4
    ·exact absurd (hall _ h4) (Nat.lt_irrefl _)
    ·omega
   rw [List.filter_cons_of_pos hn, List.filter_nil, List.length_append, hlen, h1, hlen]
   refine ⟨by rw [← List.range_succ]; rfl, by simp, fun j hj => ?_⟩
   simp only [List.length_singleton]
   rcases Nat.lt_or_ge j n with h4 | h4
   ·exact ⟨fun _ => hj, fun _ => (h3 j h4).2 (hall j h4)⟩
   ·obtain rfl : j = n := by omega
    exact ⟨fun _ => hj, fun _ => hn⟩
  | false =>
   rw [List.filter_cons_of_neg (by rw [hn]; simp), List.filter_nil, List.append_nil]
   refine ⟨h1, by omega, fun j hj => ?_⟩
   rcases Nat.lt_or_ge j n with h4 | h4
   ·exact h3 j h4
   ·obtain rfl : j = n := by omega
    rw [hn]
    constructor
    ·intro h; cases h
    ·intro h; omega
def kQ (g : Gr) (l : List EId) (t : Nat) : Nat := (keepP l t (g.th.getD t []).length).length
theorem eid_eq {d : EId} (h1 : 1 ≤ d.t) (h2 : 0 ≤ d.i) : (⟨(((d.t - 1).toNat : Nat) : Int) + 1, ((d.i.toNat : Nat) : Int)⟩ : EId) = d := EId.ext' (by simp only; omega) (by simp only; omega)
theorem evT_mk {g : Gr} {t i : Nat} : evT g ⟨(t : Int) + 1, (i : Int)⟩ ↔ t < g.th.length ∧ i < (g.th.getD t []).length := by
 unfold evT
 have : (((⟨(t : Int) + 1, (i : Int)⟩ : EId).t - 1).toNat) = t := by simp only; omega
 rw [this]
 simp only
 omega
theorem take_getD {α : Type} (l : List α) (d : α) {k i : Nat} (h : i < k) : (l.take k).getD i d = l.getD i d := by
 simp [List.getElem?_take, h]
theorem map_take {α : Type} (l : List α) (d : α) (k : Nat) (h : k ≤ l.length) : (List.range k).map (fun j => l.getD j d) = l.take k := by
 apply List.ext_getElem
 ·simp; omega
 ·intro i h1 h2
  simp only [List.length_map, List.length_range] at h1
  simp [show i < l.length by omega]
section
variable {g : Gr} {l : List EId} (hg : GOk g) (hC : ClG g l)
include hg hC
theorem keepP_eq (t : Nat) (ht : t < g.th.length) : keepP l t (g.th.getD t []).length = List.range (kQ g l t) ∧ kQ g l t ≤ (g.th.getD t []).length ∧ ∀ j < (g.th.getD t []).length, ((⟨(t : Int) + 1, (j : Int)⟩ : EId) ∈ l ↔ j < kQ g l t) := by
 have _hg := hg
 have := range_down (fun j => decide ((⟨(t : Int) + 1, (j : Int)⟩ : EId) ∈ l)) (g.th.getD t []).length fun j hj h i hi => by
  rw [decide_eq_true_eq] at h ⊢
  exact hC.2.2 _ h _ (evT_mk.2 ⟨ht, by omega⟩) (.inl ⟨rfl, by simp only; omega⟩)
 simp only [decide_eq_true_eq] at this
 exact this
theorem kQ_le (t : Nat) (ht : t < g.th.length) : kQ g l t ≤ (g.th.getD t []).length := (keepP_eq hg hC t ht).2.1
theorem keepTh_eq (t : Nat) (ht : t < g.th.length) : keepTh g l t (g.th.getD t []).length = (g.th.getD t []).take (kQ g l t) := by
 obtain ⟨h1, h2, _⟩ := keepP_eq hg hC t ht
 unfold keepTh
 rw [h1, map_take _ _ _ h2]
theorem keepFr_eq (t : Nat) (ht : t < g.th.length) : keepFr g l t (g.th.getD t []).length = (g.fr.getD t []).take (kQ g l t) := by
 obtain ⟨h1, h2, _⟩ := keepP_eq hg hC t ht
 have h3 := (hg.events t ht).1
 unfold keepFr
 rw [h1, map_take _ _ _ (by omega)]
theorem kth (t : Nat) (ht : t < g.th.length) : (keepM g l).th.getD t [] = (g.th.getD t []).take (kQ g l t) := by
 rw [keep_th, if_pos ht, keepTh_eq hg hC t ht]
theorem kth_len (t : Nat) (ht : t < g.th.length) : ((keepM g l).th.getD t []).length = kQ g l t := by
 rw [kth hg hC t ht, List.length_take]
 have := kQ_le hg hC t ht
 omega
theorem kfr (t : Nat) (ht : t < g.th.length) : (keepM g l).fr.getD t [] = (g.fr.getD t []).take (kQ g l t) := by
 rw [← keepFr_eq hg hC t ht]
 unfold keepM
 simp [ht]
theorem kev (t j : Nat) (ht : t < g.th.length) (hj : j < kQ g l t) : ((keepM g l).th.getD t []).getD j ev0 = (g.th.getD t []).getD j ev0 := by
 rw [kth hg hC t ht]
 simp [List.getElem?_take, hj]
theorem k_in (t j : Nat) (ht : t < g.th.length) (hj : j < (g.th.getD t []).length) : (⟨(t : Int) + 1, (j : Int)⟩ : EId) ∈ l ↔ j < kQ g l t := (keepP_eq hg hC t ht).2.2 j hj
theorem k_evT (d : EId) : evT (keepM g l) d ↔ d ∈ l := by
 constructor
 ·intro h
  have h1 := h.1
  have h2 := h.2.1
  have h3 := h.2.2.1
  have h4 := h.2.2.2
  rw [keep_thl] at h2
  rw [kth_len hg hC _ (by omega)] at h4
  have h5 := kQ_le hg hC (d.t - 1).toNat (by omega)
  have := (k_in hg hC (d.t - 1).toNat d.i.toNat (by omega) (by omega)).2 (by omega)
  rwa [eid_eq h1 h3] at this
 ·intro h
  obtain ⟨h1, h2, h3, h4⟩ := hC.2.1 d h
  have h5 := (k_in hg hC (d.t - 1).toNat d.i.toNat (by omega) (by omega)).1 (by rw [eid_eq h1 h3]; exact h)
  refine ⟨h1, by rw [keep_thl]; exact h2, h3, ?_⟩
  rw [kth_len hg hC _ (by omega)]
  omega
omit hg hC in
theorem evT_t {g : Gr} {d : EId} (h : evT g d) : d.t ≠ 0 := by have := h.1; omega
omit hg hC in
theorem event_T {g : Gr} {d : EId} (h : evT g d) : eventM g d = some ((g.th.getD (d.t - 1).toNat []).getD d.i.toNat ev0) := by
 unfold eventM
 obtain ⟨h1, h2, h3, h4⟩ := h
 rw [if_neg (by omega), if_pos ⟨by omega, h2, h3, h4⟩]
theorem k_event (d : EId) (h : d ∈ l) : eventM (keepM g l) d = eventM g d := by
 have h0 := hC.2.1 d h
 have hk := (k_evT hg hC d).2 h
 rw [event_T hk, event_T h0]
 have h1 := hk.2.2.2
 obtain ⟨a1, a2, a3, a4⟩ := h0
 rw [kth_len hg hC _ (by omega)] at h1
 rw [kev hg hC _ _ (by omega) (by omega)]
omit hg hC in
theorem k_event0 (d : EId) (h : d.t = 0) : eventM (keepM g l) d = eventM g d := by
 unfold eventM
 rw [if_pos h, if_pos h]
 rfl
theorem k_src (d : EId) (h : d ∈ l) : srcOf (keepM g l) d = srcOf g d := by
 obtain ⟨a1, a2, a3, a4⟩ := hC.2.1 d h
 have h1 := ((k_evT hg hC d).2 h).2.2.2
 rw [kth_len hg hC _ (by omega)] at h1
 unfold srcOf
 rw [kfr hg hC _ (by omega)]
 exact take_getD _ _ (by omega)
/-- where a source lies, there is an event or an initial write -/
theorem k_source (d : EId) (h : d ∈ l) (hr : readsM ((eventM g d).getD ev0) = true) : eventM (keepM g l) (srcOf g d) = eventM g (srcOf g d) := by
 have h0 := hC.2.1 d h
 have hm : d ∈ idsG g := by rw [idsG, List.mem_append]; exact .inr (evT_iff.1 h0)
 obtain ⟨w, hw, _⟩ := source_mem (src_ok hg hm (evT_t h0)) hr
 have hs : srcOf g d ∈ idsG g := idsG_mem.2 (by rw [hw]; rfl)
 rw [idsG, List.mem_append, idsI_mem] at hs
 rcases hs with hs | hs
 ·exact k_event0 _ hs.1
 ·exact k_event hg hC _ (hC.2.2 d h _ (evT_iff.2 hs) (.inr ⟨hr, rfl⟩))
theorem k_short : Short (keepM g l) := by
 have _hC := hC
 refine ⟨by rw [keep_thl]; exact hg.short.th, hg.short.init, fun x hx => ?_⟩
 obtain ⟨t, ht, e⟩ := List.getElem_of_mem hx
 have h1 := keep_le g l t
 have h2 := hg.short.at t
 rw [show (keepM g l).th.getD t [] = x by simp [ht, e]] at h1
 omega
theorem k_sources : sourcesOk (keepM g l) := by
 intro t ht i hi
 rw [keep_thl] at ht
 rw [kth_len hg hC t ht] at hi
 have hle := kQ_le hg hC t ht
 have hin := (k_in hg hC t i ht (by omega)).2 hi
 have hs := hg.sources t ht i (by omega)
 have e : ((keepM g l).fr.getD t []).getD i id0 = (g.fr.getD t []).getD i id0 := by
  rw [kfr hg hC t ht]; simp [List.getElem?_take, hi]
 rw [e]
 have es : srcOf g ⟨(t : Int) + 1, (i : Int)⟩ = (g.fr.getD t []).getD i id0 := by
  unfold srcOf
  have : (((⟨(t : Int) + 1, (i : Int)⟩ : EId).t - 1).toNat) = t := by simp only; omega
  rw [this]
  simp
 unfold sourceM at hs ⊢
 rw [k_event hg hC _ hin]
 by_cases hr : readsM ((eventM g ⟨(t : Int) + 1, (i : Int)⟩).getD ev0) = true
 ·rw [if_pos hr] at hs ⊢
  have := k_source hg hC _ hin hr
  rw [es] at this
  rw [this]
  exact hs
 ·rw [if_neg hr] at hs ⊢
  exact hs
theorem k_events : eventsOk (keepM g l) := by
 intro t ht
 rw [keep_thl] at ht
 have hle := kQ_le hg hC t ht
 have h1 := hg.events t ht
 refine ⟨by rw [kfr hg hC t ht, kth_len hg hC t ht, List.length_take]; omega, fun i hi => ?_⟩
 rw [kth_len hg hC t ht] at hi
 rw [kev hg hC t i ht hi]
 exact h1.2 i (by omega)
omit hg hC in
theorem qs_filter (n : Nat) (hn : n ≤ g.ord.length) : qsT (keepM g l) n = (qsT g n).filter fun p => decide (p.1 ∈ l) := by
 unfold qsT
 rw [List.filter_flatMap]
 simp only [List.flatMap]
 congr 1
 apply List.map_congr_left
 intro x hx
 have hx : x < g.ord.length := by have := List.mem_range.1 hx; omega
 have e : (keepM g l).ord.getD x [] = keepO l (g.ord.getD x []) := by simp [keepM, hx]
 rw [e, List.filter_map]
 rfl
omit hg hC in
theorem ws_nodup : ∀ t, ((wsT g t).map (·.1)).Nodup := by
 intro t
 unfold wsT List.Nodup
 rw [List.pairwise_map, List.pairwise_flatMap]
 refine ⟨fun k _ => ?_, List.nodup_range.imp fun {a b} hab x hx y hy e => ?_⟩
 ·unfold wsE
  rw [List.pairwise_flatMap]
  refine ⟨fun i _ => by split <;> simp, List.nodup_range.imp fun {a b} hab x hx y hy e => ?_⟩
  split at hx <;> simp at hx
  split at hy <;> simp at hy
  subst hx; subst hy
  simp at e
  omega
 ·obtain ⟨i, _, _, rfl⟩ := wsE_mem.1 hx
  obtain ⟨j, _, _, rfl⟩ := wsE_mem.1 hy
  simp at e
  omega
omit hg hC in
theorem nodup_of_map {α β : Type} {f : α → β} : ∀ {l : List α}, (l.map f).Nodup → l.Nodup := fun {l} h => by
 unfold List.Nodup at *
 rw [List.pairwise_map] at h
 exact h.imp fun hab e => hab (by rw [e])
end
theorem k_ok {g : Gr} {l : List EId} (hg : GOk g) (hC : ClG g l) : GOk (keepM g l) := by
 have hlo : (keepM g l).ord.length = (keepM g l).init.length := by
  show (g.ord.map (keepO l)).length = g.init.length
  rw [List.length_map]; exact hg.lord
 have hev := k_events hg hC
 refine ⟨k_short hg hC, by simp [keepM], hlo, hev, k_sources hg hC, (orders_perm hlo hev).2 ?_⟩
 have hp := (orders_perm hg.lord hg.events).1 hg.orders
 have e1 : (keepM g l).ord.length = g.ord.length := by simp [keepM]
 rw [e1, qs_filter _ (Nat.le_refl _), keep_thl]
 refine (hp.filter _).trans ?_
 refine (List.perm_ext_iff_of_nodup ((nodup_of_map (ws_nodup _)).filter _) (nodup_of_map (ws_nodup _))).2 fun p => ?_
 rw [List.mem_filter, decide_eq_true_eq, wsT_mem, wsT_mem]
 constructor
 ·rintro ⟨⟨t, ht, i, hi, hw, rfl⟩, hin⟩
  have hk := (k_in hg hC t i ht hi).1 hin
  refine ⟨t, ht, i, by rw [kth_len hg hC t ht]; exact hk, ?_, ?_⟩
  ·rw [kev hg hC t i ht hk]; exact hw
  ·rw [kev hg hC t i ht hk]
 ·rintro ⟨t, ht, i, hi, hw, rfl⟩
  rw [kth_len hg hC t ht] at hi
  rw [kev hg hC t i ht hi] at hw ⊢
  have hle := kQ_le hg hC t ht
  exact ⟨⟨t, ht, i, by omega, hw, rfl⟩, (k_in hg hC t i ht (by omega)).2 hi⟩
end Go.AL.Rl

namespace Go.AL.Rl
open Go Go.AL Go.Proofs
set_option maxRecDepth 100000
set_option maxHeartbeats 3200000

theorem sub_or {α : Type} : ∀ {l : List α} {x y : α}, x ∈ l → y ∈ l → x ≠ y → [x, y].Sublist l ∨ [y, x].Sublist l
 | [], _, _, h, _, _ => by cases h
 | a :: l, x, y, hx, hy, hne => by
  rcases List.mem_cons.1 hx with hx1 | hx1
  ·rcases List.mem_cons.1 hy with hy1 | hy1
   ·exact absurd (hx1.trans hy1.symm) hne
   ·rw [hx1]; exact .inl (List.Sublist.cons_cons _ (List.singleton_sublist.2 hy1))
  ·rcases List.mem_cons.1 hy with hy1 | hy1
   ·rw [hy1]; exact .inr (List.Sublist.cons_cons _ (List.singleton_sublist.2 hx1))
   ·exact (sub_or hx1 hy1 hne).imp (fun h => h.cons _) (fun h => h.cons _)
section
variable {g : Gr} {l : List EId} (hg : GOk g) (hC : ClG g l)
include hg hC
end
theorem Sta.ext' {a b : Sta} (h1 : a.g = b.g) (h2 : a.ms = b.ms) (h3 : a.half = b.half) : a = b := by cases a; cases b; simp_all
end Go.AL.Rl

namespace Go.AL.Rl
open Go Go.AL Go.Proofs
set_option maxRecDepth 100000
set_option maxHeartbeats 1600000
variable {γ : Nat → Option AV}

structure Ft where
 a : Int
 b : Int
 br : Bool
structure Bk where
 rule : Int
 a : Int
 b : Int
 br : Bool
end Go.AL.Rl

namespace Go.AL.Rl
open Go Go.AL Go.Proofs
set_option maxRecDepth 100000
set_option maxHeartbeats 1600000
variable {γ : Nat → Option AV}

theorem lives15_ok : Pure Try.prog γ false 4 [] (.b fun _ => true) := by
 have p1 := dPo_ok (γ := γ) (gS 4) (rdSm 4)
 have p2 := dRf_ok (γ := γ) (gS 4) (rdSm 4)
 have p3 := dSw_ok (γ := γ) (gS 4) (rdSm 4)
 have p4 := dHb_ok (γ := γ) (gS 4) (rdSm 4)
 rw [NG4, po4] at p1
 rw [NG4, rf4] at p2
 rw [NG4, sw4] at p3
 rw [NG4, hb4] at p4
 have o1 := rof_in (γ := γ) 3 [(0, 1), (0, 2)] (by omega) (by omega) (by simp)
 have o2 := rof_in (γ := γ) 3 [(1, 2)] (by omega) (by omega) (by simp)
 have o3 := rof_in (γ := γ) 3 [(0, 1), (0, 2), (1, 2)] (by omega) (by omega) (by simp)
 rw [show ofTo 3 [(0, 1), (0, 2)] [((0 : Int), (1 : Int)), (0, 2)].length = [6, 0, 0] by decide +kernel] at o1
 rw [show ofTo 3 [(1, 2)] [((1 : Int), (2 : Int))].length = [0, 4, 0] by decide +kernel] at o2
 rw [show ofTo 3 [(0, 1), (0, 2), (1, 2)] [((0 : Int), (1 : Int)), (0, 2), (1, 2)].length = [6, 4, 0] by decide +kernel] at o3
 have k1 := kitRel_ok (γ := γ) 3 3 [6, 0, 0] [6, 0, 0] (by simp)
 have k2 := kitRel_ok (γ := γ) 3 3 [0, 4, 0] [0, 4, 0] (by simp)
 have k3 := kitRel_ok (γ := γ) 3 3 [6, 4, 0] [6, 4, 0] (by simp)
 simp only [and_self, decide_true] at k1 k2 k3
 refine Pure.go (ty := ty) ty_eq mo Try.func4 rfl Try.ntmps4 Try.results4 Try.call4 (by simp) fun P C CQ D W F E hF => ?_
 cbv
 repeat' (first
  |(refine E.c (SCalls.of_le (k3) ?_ ?_);(· (cbv;(try simp only [nc] at *);first|done|(simp;done)|(simp (disch:=(first|omega|(simp only [lnS];omega))) only [rdT,rdS,anT];first|done|omega|(refine ⟨?_,?_⟩<;>omega))|(simp (disch:=(first|omega|(simp only [lnS];omega))) [rdT,rdS];done)));cbv)
  |(refine E.c (SCalls.of_le (k2) ?_ ?_);(· (cbv;(try simp only [nc] at *);first|done|(simp;done)|(simp (disch:=(first|omega|(simp only [lnS];omega))) only [rdT,rdS,anT];first|done|omega|(refine ⟨?_,?_⟩<;>omega))|(simp (disch:=(first|omega|(simp only [lnS];omega))) [rdT,rdS];done)));cbv)
  |(refine E.c (SCalls.of_le (k1) ?_ ?_);(· (cbv;(try simp only [nc] at *);first|done|(simp;done)|(simp (disch:=(first|omega|(simp only [lnS];omega))) only [rdT,rdS,anT];first|done|omega|(refine ⟨?_,?_⟩<;>omega))|(simp (disch:=(first|omega|(simp only [lnS];omega))) [rdT,rdS];done)));cbv)
  | (refine E.c (SCalls.of_bare (o3) rfl ?_ ?_); (· (cbv; simp [rls, ps, us, is, LV.of]; done)); cbv)
  | (refine E.c (SCalls.of_le (o3) ?_ ?_); (· (cbv; simp [rls, ps, us, is, LV.of]; done)); cbv)
  | (refine E.q (QCalls.of_le (o3) ?_ ?_); (· (cbv; simp [rls, ps, us, is, LV.of]; done)); cbv)
  | (refine E.c (SCalls.of_bare (o2) rfl ?_ ?_); (· (cbv; simp [rls, ps, us, is, LV.of]; done)); cbv)
  | (refine E.c (SCalls.of_le (o2) ?_ ?_); (· (cbv; simp [rls, ps, us, is, LV.of]; done)); cbv)
  | (refine E.q (QCalls.of_le (o2) ?_ ?_); (· (cbv; simp [rls, ps, us, is, LV.of]; done)); cbv)
  | (refine E.c (SCalls.of_bare (o1) rfl ?_ ?_); (· (cbv; simp [rls, ps, us, is, LV.of]; done)); cbv)
  | (refine E.c (SCalls.of_le (o1) ?_ ?_); (· (cbv; simp [rls, ps, us, is, LV.of]; done)); cbv)
  | (refine E.q (QCalls.of_le (o1) ?_ ?_); (· (cbv; simp [rls, ps, us, is, LV.of]; done)); cbv)
  |(refine E.c (SCalls.of_le (p4) ?_ ?_);(· (cbv;(try simp only [nc] at *);first|done|(simp;done)|(simp (disch:=(first|omega|(simp only [lnS];omega))) only [rdT,rdS,anT];first|done|omega|(refine ⟨?_,?_⟩<;>omega))|(simp (disch:=(first|omega|(simp only [lnS];omega))) [rdT,rdS];done)));cbv)
  |(refine E.c (SCalls.of_le (p3) ?_ ?_);(· (cbv;(try simp only [nc] at *);first|done|(simp;done)|(simp (disch:=(first|omega|(simp only [lnS];omega))) only [rdT,rdS,anT];first|done|omega|(refine ⟨?_,?_⟩<;>omega))|(simp (disch:=(first|omega|(simp only [lnS];omega))) [rdT,rdS];done)));cbv)
  |(refine E.c (SCalls.of_le (p2) ?_ ?_);(· (cbv;(try simp only [nc] at *);first|done|(simp;done)|(simp (disch:=(first|omega|(simp only [lnS];omega))) only [rdT,rdS,anT];first|done|omega|(refine ⟨?_,?_⟩<;>omega))|(simp (disch:=(first|omega|(simp only [lnS];omega))) [rdT,rdS];done)));cbv)
  |(refine E.c (SCalls.of_le (p1) ?_ ?_);(· (cbv;(try simp only [nc] at *);first|done|(simp;done)|(simp (disch:=(first|omega|(simp only [lnS];omega))) only [rdT,rdS,anT];first|done|omega|(refine ⟨?_,?_⟩<;>omega))|(simp (disch:=(first|omega|(simp only [lnS];omega))) [rdT,rdS];done)));cbv)
  |(refine E.c (SCalls.of_le (small_ok 4) ?_ ?_);(· (cbv;(try simp only [nc] at *);first|done|(simp;done)|(simp (disch:=(first|omega|(simp only [lnS];omega))) only [rdT,rdS,anT];first|done|omega|(refine ⟨?_,?_⟩<;>omega))|(simp (disch:=(first|omega|(simp only [lnS];omega))) [rdT,rdS];done)));cbv)
  |(refine ⟨fun _ h_s=>?_,fun _ h_s=>?_⟩<;>(cbv;(try simp only [nc] at *);try simp (disch:=(first|omega|(simp only [lnS];omega))) only [rdT,rdS,reduceCtorEq,trT] at h_s))
  |(refine hF ?_;intro _;clear hF)
  |(refine hF ?_;cbv;clear hF)
  |(refine ⟨fun _=>?_,?_⟩;(· ((try simp only [nc] at *);first|done|omega|exact ⟨by omega,rfl⟩|(simp (disch:=(first|omega|(simp only [lnS];omega))) only [rdT,rdS];first|done|omega|rfl|exact ⟨by omega,rfl⟩|(simp;done)|(simp;omega))|(intros;trivial)));(try (simp only [nc] at *));(try simp (disch:=(first|omega|(simp only [lnS];omega))) only [rdT,rdS]);(try cbv))
  | fail
 )
 all_goals rfl
end Go.AL.Rl

namespace Go.AL.Rl
open Go Go.AL Go.Proofs
set_option maxRecDepth 100000
set_option maxHeartbeats 1600000
variable {γ : Nat → Option AV}

end Go.AL.Rl

namespace Go.AL.Rl
open Go Go.AL Go.Proofs
set_option maxRecDepth 100000
set_option maxHeartbeats 1600000
variable {γ : Nat → Option AV}

theorem ids14_ok (g : Gr) (hs : Short g) : Pure Try.prog γ false 8 [aGr g] (.vs 2 fun _ => ids (idsG g)) := by
 have hin := hs.init
 have hth := hs.th
 have hg : ∀ t, (g.th.getD t []).length ≤ 14 := hs.at
 obtain ⟨L, hL⟩ : ∃ L : Nat → List EId, ∀ x, L x = idsI x := ⟨_, fun _ => rfl⟩
 obtain ⟨L2, hL2⟩ : ∃ L2 : Nat → Nat → List EId, ∀ t i, L2 t i = idsI g.init.length ++ idsT g t ++ idsE t i := ⟨_, fun _ _ => rfl⟩
 have l0 : L 0 = [] := by rw [hL]; rfl
 have lS : ∀ x, L (x + 1) = L x ++ [⟨0, x⟩] := fun x => by rw [hL, hL, idsI_succ]
 have lL : ∀ x, (L x).length = x := fun x => by rw [hL, idsI_len]
 have lE : L g.init.length = L2 0 0 := by rw [hL, hL2]; simp [idsT, idsE]
 have mS : ∀ t i, L2 t (i + 1) = L2 t i ++ [⟨t + 1, i⟩] := fun t i => by rw [hL2, hL2, idsE_succ]; simp only [List.append_assoc]
 have mE : ∀ t, L2 t (g.th.getD t []).length = L2 (t + 1) 0 := fun t => by rw [hL2, hL2, idsT_succ]; simp [idsE]
 have mF : L2 g.th.length 0 = idsG g := by rw [hL2]; simp [idsE, idsG]
 have mL : ∀ t i, (L2 t i).length ≤ 6 + 14 * t + i := fun t i => by
  have := evsT_len hs t
  rw [hL2]; simp only [List.length_append, idsI_len, idsE_len, idsT_len]; omega
 obtain ⟨G, hG⟩ : ∃ G : List EId → Nat, ∀ l, G l = l.length := ⟨_, fun _ => rfl⟩
 have hG0 : G [] = 0 := by rw [hG]; rfl
 refine Pure.go (ty := ty) ty_eq mo Try.func8 rfl Try.ntmps8 Try.results8 Try.call8 (by simp) fun P C CQ D W F E hF => ?_
 cbv
 repeat' (first
  |(refine ⟨fun _ h_s=>?_,fun _ h_s=>?_⟩<;>(cbv;(try simp only [nc] at *);try simp (disch:=(first|omega|(simp only [lnS];omega))) only [rdT,rdS,reduceCtorEq,trT] at h_s))
  |(refine hF ?_;intro _;clear hF)
  |(refine hF ?_;cbv;clear hF)
  |(refine ⟨fun _=>?_,?_⟩;(· ((try simp only [nc] at *);first|done|omega|exact ⟨by omega,rfl⟩|(simp (disch:=(first|omega|(simp only [lnS];omega))) only [rdT,rdS];first|done|omega|rfl|exact ⟨by omega,rfl⟩|(simp;done)|(simp;omega))|(intros;trivial)));(try (simp only [nc] at *));(try simp (disch:=(first|omega|(simp only [lnS];omega))) only [rdT,rdS]);(try cbv))
  | fail
 )
 refine E.w (AWP.ghostSlot 3 2 rfl (by omega) (E.loopSA (ι := Nat) (fun x => x ≤ g.init.length) (fun x => g.init.length - x) (fun x => [(4, .i fun _ => ((x : Nat) : Int)), (3, .sl 1 (G (L x)) 2 (fun _ => 0) fun _ => (L x).length)]) (fun x h => h.set 1 (.run (G (L x)) 2 fun _ => ids (L x))) 0 (fun _ => by first | rfl | simp) (Nat.zero_le _) ?_ fun x hx I hI => ?_))
 ·cbv; simp [l0, hG0, ids, LV.of]
 cbv
 have e1 := lS x
 have e2 := lL x
 skip
 repeat' (first
  |(refine hI (x + 1) ?_ ?_ ?_;rotate_left 1;(· ((try simp only [nc] at *);omega));(cbv;clear hI;(try clear hF);(try simp only [nc] at *);(try simp (disch:=(first|omega|(simp only [lnS];omega))) only [rdT,rdS,anT]));rotate_left 1;(try ((try simp only [nc] at *);omega)))
  |(refine ⟨fun _ h_s=>?_,fun _ h_s=>?_⟩<;>(cbv;(try simp only [nc] at *);try simp (disch:=(first|omega|(simp only [lnS];omega))) only [rdT,rdS,reduceCtorEq,trT] at h_s))
  |(refine hF ?_;intro _;clear hF)
  |(refine hF ?_;cbv;clear hF)
  |(refine ⟨fun _=>?_,?_⟩;(· ((try simp only [nc] at *);first|done|omega|exact ⟨by omega,rfl⟩|(simp (disch:=(first|omega|(simp only [lnS];omega))) only [rdT,rdS];first|done|omega|rfl|exact ⟨by omega,rfl⟩|(simp;done)|(simp;omega))|(intros;trivial)|exact ⟨by first|trivial|rfl,by first|trivial|rfl|simp,by first|trivial|simp,by simp;omega,by simp;omega,by simp [AV.flat,AV.cells,AV.one]⟩));(try (simp only [nc] at *));(try simp (disch:=(first|omega|(simp only [lnS];omega))) only [rdT,rdS]);(try cbv))
  | fail
 )
 ·refine ⟨⟨⟨by rw [hG, hG, e1]; simp, ?_⟩, by push_cast; rfl⟩, by rw [hG, hG, e1]; simp, ?_⟩
  ·rw [e1]; simp [setAll]
  ·show LV.of ((ids (L x)).l ++ (ids [⟨0, (x : Int)⟩]).l) = _
   rw [ids_app, ids_of, e1]
 clear hI
 have ex : x = g.init.length := by ((try simp only [nc] at *); omega)
 subst ex
 rw [lE]
 refine E.loopS (ι:=Nat) (fun t=>t≤g.th.length) (fun t=>g.th.length - t) (fun t=>[(5,.i fun _=>((t : Nat) : Int)),(3,.sl 1 (G (L2 t 0)) 2 (fun _=>0) fun _=>(L2 t 0).length)]) (fun t h=>h.set 1 (.run (G (L2 t 0)) 2 fun _=>ids (L2 t 0))) 0 (fun _=>by first|rfl|simp) (Nat.zero_le _) ?_ fun t ht I1 hI1=>?_
 ·cbv; simp
 cbv
 have hgt := hg t
 repeat' (first
  |(refine ⟨fun _ h_s=>?_,fun _ h_s=>?_⟩<;>(cbv;(try simp only [nc] at *);try simp (disch:=(first|omega|(simp only [lnS];omega))) only [rdT,rdS,reduceCtorEq,trT] at h_s))
  |(refine hF ?_;intro _;clear hF)
  |(refine hF ?_;cbv;clear hF)
  |(refine ⟨fun _=>?_,?_⟩;(· ((try simp only [nc] at *);first|done|omega|exact ⟨by omega,rfl⟩|(simp (disch:=(first|omega|(simp only [lnS];omega))) only [rdT,rdS];first|done|omega|rfl|exact ⟨by omega,rfl⟩|(simp;done)|(simp;omega))|(intros;trivial)|exact ⟨by first|trivial|rfl,by first|trivial|rfl|simp,by first|trivial|simp,by simp;omega,by simp;omega,by simp [AV.flat,AV.cells,AV.one]⟩));(try (simp only [nc] at *));(try simp (disch:=(first|omega|(simp only [lnS];omega))) only [rdT,rdS]);(try cbv))
  | fail
 )
 ·refine E.loopS (ι:=Nat) (fun i=>i≤(g.th.getD t []).length) (fun i=>(g.th.getD t []).length - i) (fun i=>[(6,.i fun _=>((i : Nat) : Int)),(3,.sl 1 (G (L2 t i)) 2 (fun _=>0) fun _=>(L2 t i).length)]) (fun i h=>h.set 1 (.run (G (L2 t i)) 2 fun _=>ids (L2 t i))) 0 (fun _=>by first|rfl|simp) (Nat.zero_le _) ?_ fun i hi I2 hI2=>?_
  ·cbv; simp
  cbv
  have f1 := mS t i
  have f2 := mL t i
  have f3 := mE t
  repeat' (first
   |(refine hI2 (i + 1) ?_ ?_ ?_;rotate_left 1;(· ((try simp only [nc] at *);omega));(cbv;clear hI2;(try clear hF);(try simp only [nc] at *);(try simp (disch:=(first|omega|(simp only [lnS];omega))) only [rdT,rdS,anT]));rotate_left 1;(try ((try simp only [nc] at *);omega)))
   |(refine ⟨fun _ h_s=>?_,fun _ h_s=>?_⟩<;>(cbv;(try simp only [nc] at *);try simp (disch:=(first|omega|(simp only [lnS];omega))) only [rdT,rdS,reduceCtorEq,trT] at h_s))
   |(refine hF ?_;intro _;clear hF)
   |(refine hF ?_;cbv;clear hF)
   |(refine ⟨fun _=>?_,?_⟩;(· ((try simp only [nc] at *);first|done|omega|exact ⟨by omega,rfl⟩|(simp (disch:=(first|omega|(simp only [lnS];omega))) only [rdT,rdS];first|done|omega|rfl|exact ⟨by omega,rfl⟩|(simp;done)|(simp;omega))|(intros;trivial)|exact ⟨by first|trivial|rfl,by first|trivial|rfl|simp,by first|trivial|simp,by simp;omega,by simp;omega,by simp [AV.flat,AV.cells,AV.one]⟩));(try (simp only [nc] at *));(try simp (disch:=(first|omega|(simp only [lnS];omega))) only [rdT,rdS]);(try cbv))
   | fail
  )
  ·refine ⟨⟨⟨by rw [hG, hG, f1]; simp, ?_⟩, by push_cast; rfl⟩, by rw [hG, hG, f1]; simp, ?_⟩
   ·rw [f1]; simp [setAll]
   ·show LV.of ((ids (L2 t i)).l ++ (ids [⟨(t : Int) + 1, (i : Int)⟩]).l) = _
    rw [ids_app, ids_of, f1]
  ·have ei : i = (g.th.getD t []).length := by ((try simp only [nc] at *); omega)
   subst ei
   rw [f3]
   repeat' (first
    |(refine hI1 (t + 1) ?_ ?_ ?_;rotate_left 1;(· ((try simp only [nc] at *);omega));(cbv;clear hI1;(try clear hF);(try simp only [nc] at *);(try simp (disch:=(first|omega|(simp only [lnS];omega))) only [rdT,rdS,anT]));rotate_left 1;(try ((try simp only [nc] at *);omega)))
    |(refine ⟨fun _ h_s=>?_,fun _ h_s=>?_⟩<;>(cbv;(try simp only [nc] at *);try simp (disch:=(first|omega|(simp only [lnS];omega))) only [rdT,rdS,reduceCtorEq,trT] at h_s))
    |(refine hF ?_;intro _;clear hF)
    |(refine hF ?_;cbv;clear hF)
    |(refine ⟨fun _=>?_,?_⟩;(· ((try simp only [nc] at *);first|done|omega|exact ⟨by omega,rfl⟩|(simp (disch:=(first|omega|(simp only [lnS];omega))) only [rdT,rdS];first|done|omega|rfl|exact ⟨by omega,rfl⟩|(simp;done)|(simp;omega))|(intros;trivial)|exact ⟨by first|trivial|rfl,by first|trivial|rfl|simp,by first|trivial|simp,by simp;omega,by simp;omega,by simp [AV.flat,AV.cells,AV.one]⟩));try cbv)
    | fail
   )
   push_cast; rfl
 ·have et : t = g.th.length := by ((try simp only [nc] at *); omega)
  subst et
  rw [mF]
  intro _
  refine ⟨rfl, by simp, ?_⟩
  rw [List.drop_zero, List.take_of_length_le (by simp)]
end Go.AL.Rl

namespace Go.AL.Rl
open Go Go.AL Go.Proofs
set_option maxRecDepth 100000
set_option maxHeartbeats 1600000
variable {γ : Nat → Option AV}

end Go.AL.Rl

namespace Go.AL.Rl
open Go Go.AL Go.Proofs
set_option maxRecDepth 100000
set_option maxHeartbeats 1600000
variable {γ : Nat → Option AV}

end Go.AL.Rl

namespace Go.AL.Rl
open Go Go.AL Go.Proofs
set_option maxRecDepth 100000
set_option maxHeartbeats 1600000
variable {γ : Nat → Option AV}

end Go.AL.Rl

namespace Go.AL.Rl
open Go Go.AL Go.Proofs
set_option maxRecDepth 100000
set_option maxHeartbeats 1600000
variable {γ : Nat → Option AV}

end Go.AL.Rl

namespace Go.AL.Rl
open Go Go.AL Go.Proofs
set_option maxRecDepth 100000
set_option maxHeartbeats 1600000
variable {γ : Nat → Option AV}

end Go.AL.Rl

namespace Go.AL.Rl
open Go Go.AL Go.Proofs
set_option maxRecDepth 100000
set_option maxHeartbeats 1600000
variable {γ : Nat → Option AV}

end Go.AL.Rl

namespace Go.AL.Rl
open Go Go.AL Go.Proofs
set_option maxRecDepth 100000
set_option maxHeartbeats 1600000
variable {γ : Nat → Option AV}

end Go.AL.Rl

namespace Go.AL.Rl
open Go Go.AL Go.Proofs
set_option maxRecDepth 100000
set_option maxHeartbeats 1600000
variable {γ : Nat → Option AV}

end Go.AL.Rl

namespace Go.AL.Rl
open Go Go.AL Go.Proofs
set_option maxRecDepth 100000
set_option maxHeartbeats 1600000

def caM (V : Vw) (b a : Nat) : Bool := acqM (V.ev.getD a ev0) && (decide (a = b) || fenceM (V.ev.getD a ev0) && poM V b a)
theorem rowT_bit (V : Vw) (n r a : Nat) : ∀ w, (rowT V n w r).getLsbD a = true ↔ ∃ v < w, swR V v r = true ∧ (tgtM V n v).getLsbD a = true
 | 0 => by simp [rowT]
 | w + 1 => by
  have ih := rowT_bit V n r a w
  unfold rowT
  constructor
  ·intro h
   split at h
   ·rw [BitVec.getLsbD_or, Bool.or_eq_true] at h
    rcases h with h | h
    ·obtain ⟨v, hv, h1, h2⟩ := ih.1 h; exact ⟨v, by omega, h1, h2⟩
    ·exact ⟨w, by omega, by assumption, h⟩
   ·obtain ⟨v, hv, h1, h2⟩ := ih.1 h; exact ⟨v, by omega, h1, h2⟩
  ·rintro ⟨v, hv, h1, h2⟩
   by_cases hvw : v = w
   ·subst hvw
    rw [if_pos h1, BitVec.getLsbD_or, h2, Bool.or_true]
   ·have h3 := ih.2 ⟨v, by omega, h1, h2⟩
    split
    ·rw [BitVec.getLsbD_or, h3]; rfl
    ·exact h3
theorem ne0_bit (x : BitVec 64) : x ≠ 0#64 ↔ ∃ j, x.getLsbD j = true := by
 constructor
 ·intro h
  refine Classical.byContradiction fun hc => h (BitVec.eq_of_getLsbD_eq fun i hi => ?_)
  cases hx : x.getLsbD i with
  | true => exact absurd ⟨i, hx⟩ hc
  | false => simp
 ·rintro ⟨j, hj⟩ h
  subst h; simp at hj
theorem tgt_bit (V : Vw) (n w a : Nat) (hn : n ≤ 62) : (tgtM V n w).getLsbD a = true ↔ a < n ∧ ∃ b < n, rdrM V (seqM V n w) b = true ∧ caM V b a = true := by
 unfold tgtM
 rw [mask_bit _ _ (by omega)]
 simp only [Bool.and_eq_true, decide_eq_true_eq, behM, Bool.or_eq_true, ne0_bit, BitVec.getLsbD_and, mask_bit _ _ (show n ≤ 64 by omega), caM]
 constructor
 ·rintro ⟨h1, h2, ⟨h3, h4⟩ | ⟨h3, j, ⟨h4, h5⟩, h6, h7⟩⟩
  ·exact ⟨h1, a, h3, h4, h2, .inl rfl⟩
  ·exact ⟨h1, j, h4, h5, h2, .inr ⟨h3, h7⟩⟩
 ·rintro ⟨h1, b, h2, h3, h4, h5 | ⟨h5, h6⟩⟩
  ·subst h5; exact ⟨h1, h4, .inl ⟨h2, h3⟩⟩
  ·exact ⟨h1, h4, .inr ⟨h5, b, ⟨h2, h3⟩, h2, h6⟩⟩
end Go.AL.Rl

namespace Go.AL.Rl
open Go Go.AL Go.Proofs
set_option maxRecDepth 100000
set_option maxHeartbeats 3200000

structure Emb (V U : Vw) (n m : Nat) (f : Nat → Nat) : Prop where
 lt : ∀ i < n, f i < m
 inj : ∀ i < n, ∀ j < n, f i = f j → i = j
 ids : ∀ i < n, U.ids.getD (f i) id0 = V.ids.getD i id0
 ev : ∀ i < n, U.ev.getD (f i) ev0 = V.ev.getD i ev0
 fr : ∀ i < n, ∀ j < n, V.fr.getD i 0 = (j : Nat) → U.fr.getD (f i) 0 = (f j : Nat)
 pl : ∀ i < n, ∀ j < n, nearM V i j = true → 0 ≤ V.pl.getD i 0 → V.pl.getD i 0 < V.pl.getD j 0 → 0 ≤ U.pl.getD (f i) 0 ∧ U.pl.getD (f i) 0 < U.pl.getD (f j) 0
 upd : ∀ i < n, (V.ev.getD i ev0).kind = 3 → U.pl.getD (f i) 0 = U.pl.getD (U.fr.getD (f i) 0).toNat 0 + 1 → V.pl.getD i 0 = V.pl.getD (V.fr.getD i 0).toNat 0 + 1
theorem sw_iffE {V : Vw} {n : Nat} (hn : n ≤ 62) {r a : Nat} : bit (swF V n) r a = true ↔ r < n ∧ a < n ∧ ∃ w < n, swR V w r = true ∧ ∃ b < n, rdrM V (seqM V n w) b = true ∧ caM V b a = true := by
 unfold swF
 rw [bit_rel (by omega)]
 simp only [Bool.and_eq_true, decide_eq_true_eq]
 refine and_congr_right fun hr => and_congr_right fun ha => ?_
 have e : bit (swRows V n) r a = (rowT V n n r).getLsbD a := by unfold bit swRows; rw [tab_get n _ r hr]
 rw [e, rowT_bit]
 constructor
 ·rintro ⟨w, hw, h1, h2⟩
  rw [tgt_bit V n w a hn] at h2
  exact ⟨w, hw, h1, h2.2⟩
 ·rintro ⟨w, hw, h1, h2⟩
  exact ⟨w, hw, h1, (tgt_bit V n w a hn).2 ⟨ha, h2⟩⟩
theorem hb_fits (V : Vw) {n : Nat} (h : n ≤ 62) : Fits n (hbF V n) := fits_plus (fits_or2 (fits_poF V h) (fits_swF V h))
section
variable {V U : Vw} {n m : Nat} {f : Nat → Nat} (E : Emb V U n m f) (hV : Wf V n) (hU : Wf U m)
include E
theorem e_po {i j : Nat} (hi : i < n) (hj : j < n) : poM U (f i) (f j) = poM V i j := by
 unfold poM; rw [E.ids i hi, E.ids j hj]
theorem e_rf {i j : Nat} (hi : i < n) (hj : j < n) (h : rfM V i j = true) : rfM U (f i) (f j) = true := by
 unfold rfM at *
 rw [decide_eq_true_eq] at *
 exact E.fr j hj i hi h
theorem e_near {i j : Nat} (hi : i < n) (hj : j < n) : nearM U (f i) (f j) = nearM V i j := by
 unfold nearM; rw [E.ev i hi, E.ev j hj]
theorem e_co {i j : Nat} (hi : i < n) (hj : j < n) (h : coM V i j = true) : coM U (f i) (f j) = true := by
 unfold coM at *
 simp only [Bool.and_eq_true, decide_eq_true_eq] at *
 obtain ⟨⟨h1, h2⟩, h3⟩ := h
 have := E.pl i hi j hj h2 h1 h3
 exact ⟨⟨this.1, by rw [e_near E hi hj]; exact h2⟩, this.2⟩
include hV
theorem e_seq {w : Nat} (hw : w < n) {j : Nat} (h : InSeq V n w j) : InSeq U m (f w) (f j) := by
 induction h with
 | base => exact .base
 | @step i hi hk hs ih =>
  have hr : readsM (V.ev.getD i ev0) = true := by unfold readsM; rw [hk]; rfl
  have h1 := hV.frg i hi hr
  have h2 := hV.frl i hi
  have e := E.fr i hi (V.fr.getD i 0).toNat (by omega) (by omega)
  refine .step (E.lt i hi) (by rw [E.ev i hi]; exact hk) ?_
  rw [e]
  have : ((f (V.fr.getD i 0).toNat : Nat) : Int).toNat = f (V.fr.getD i 0).toNat := by omega
  rw [this]; exact ih
include hU
theorem e_sw {i j : Nat} (h : bit (swF V n) i j = true) : bit (swF U m) (f i) (f j) = true := by
 rw [sw_iffE hV.small] at h
 obtain ⟨hi, hj, w, hw, h1, b, hb, h2, h3⟩ := h
 rw [sw_iffE hU.small]
 refine ⟨E.lt i hi, E.lt j hj, f w, E.lt w hw, ?_, f b, E.lt b hb, ?_, ?_⟩
 ·unfold swR at *
  rw [E.ev w hw, E.ev i hi, e_po E hi hw]
  simp only [Bool.and_eq_true, Bool.or_eq_true, decide_eq_true_eq] at *
  refine ⟨h1.1, h1.2.imp (fun h => by rw [h]) id⟩
 ·unfold rdrM at *
  rw [E.ev b hb]
  simp only [Bool.and_eq_true, decide_eq_true_eq] at *
  refine ⟨h2.1, ?_⟩
  have hlt := hV.frl b hb
  have hg := hV.frg b hb h2.1.1
  have e := E.fr b hb (V.fr.getD b 0).toNat (by omega) (by omega)
  rw [e]
  have : ((f (V.fr.getD b 0).toNat : Nat) : Int).toNat = f (V.fr.getD b 0).toNat := by omega
  rw [this]
  have hs := (seq_bit (by have := hV.small; omega) hw _).1 h2.2
  exact (seq_bit (by have := hU.small; omega) (E.lt w hw) _).2 (e_seq E hV hw hs)
 ·unfold caM at *
  rw [E.ev j hj, e_po E hb hj]
  simp only [Bool.and_eq_true, Bool.or_eq_true, decide_eq_true_eq] at *
  refine ⟨h3.1, h3.2.imp (fun h => by rw [h]) id⟩
theorem e_rel {p q : Nat → Nat → Bool} (h : ∀ i < n, ∀ j < n, p i j = true → q (f i) (f j) = true) {i j : Nat} (hb : bit (relRows n p) i j = true) : bit (relRows m q) (f i) (f j) = true := by
 rw [bit_relI hV.small] at hb
 rw [bit_relI hU.small]
 exact ⟨E.lt i hb.1, E.lt j hb.2.1, h i hb.1 j hb.2.1 hb.2.2⟩
omit E hV hU in
theorem e_plus {A B : List (BitVec 64)} (hB : Fits m B) (h : ∀ i j, bit A i j = true → bit B (f i) (f j) = true) {i j : Nat} (hb : bit (plusM n A) i j = true) : bit (plusM m B) (f i) (f j) = true :=
 plus_least (fun i j => bit (plusM m B) (f i) (f j) = true) (fun i j h1 => plus_edge (h i j h1)) (fun i k j h1 h2 => plus_trans hB h1 h2) hb
theorem e_orM {l k : List (Int × List (BitVec 64))} (h : ∀ x ∈ l, ∃ y ∈ k, ∀ i j, bit x.2 i j = true → bit y.2 (f i) (f j) = true) {i j : Nat} (hb : bit (orM n l) i j = true) : bit (orM m k) (f i) (f j) = true := by
 have _hV := hV
 have _hU := hU
 rw [bit_orM] at hb ⊢
 obtain ⟨hi, x, hx, hb⟩ := hb
 obtain ⟨y, hy, h2⟩ := h x hx
 exact ⟨E.lt i hi, y, hy, h2 i j hb⟩
theorem e_hb {i j : Nat} (h : bit (hbF V n) i j = true) : bit (hbF U m) (f i) (f j) = true := by
 have hf := fits_or2 (fits_poF U hU.small) (fits_swF U hU.small)
 refine e_plus hf (fun i j h => ?_) h
 refine e_orM E hV hU (fun x hx => ?_) h
 simp only [List.mem_cons, List.not_mem_nil, or_false] at hx
 rcases hx with rfl | rfl
 ·exact ⟨((m : Int), poF U m), by simp, fun i j h => e_rel E hV hU (p := poM V) (q := poM U) (fun i hi j hj h => by rw [e_po E hi hj]; exact h) h⟩
 ·exact ⟨((m : Int), swF U m), by simp, fun i j h => e_sw E hV hU h⟩
omit E hV in
end
end Go.AL.Rl

namespace Go.AL.Rl
open Go Go.AL Go.Proofs
set_option maxRecDepth 100000
set_option maxHeartbeats 3200000

theorem numOf_sub {L : List EId} (hn : L.Nodup) {x y : EId} (hx : x ∈ L) (hy : y ∈ L) : numOf L x < numOf L y ↔ [x, y].Sublist L := by
 have hp : L.Pairwise fun x y => numOf L x < numOf L y := by
  rw [List.pairwise_iff_getElem]
  intro i j hi hj hij
  have h1 := numOf_at hn hi
  have h2 := numOf_at hn hj
  rw [show L.getD i id0 = L[i] by simp [hi]] at h1
  rw [show L.getD j id0 = L[j] by simp [hj]] at h2
  omega
 have hs : ∀ {a b : EId}, [a, b].Sublist L → numOf L a < numOf L b := fun h => List.pairwise_iff_forall_sublist.1 hp h
 constructor
 ·intro h
  rcases sub_or hx hy (fun e => by rw [e] at h; omega) with h1 | h1
  ·exact h1
  ·have := hs h1; omega
 ·exact fun h => hs h
theorem numOf_filter {L : List EId} (hn : L.Nodup) (p : EId → Bool) {x y : EId} (hx : x ∈ L.filter p) (hy : y ∈ L.filter p) (h : numOf (L.filter p) x < numOf (L.filter p) y) : numOf L x < numOf L y :=
 (numOf_sub hn (List.mem_filter.1 hx).1 (List.mem_filter.1 hy).1).2 (((numOf_sub (hn.filter p) hx hy).1 h).trans List.filter_sublist)
/-- the place of a write, by its location's order -/
theorem pl_in {g : Gr} {d : EId} (h0 : d.t ≠ 0) (h : 0 ≤ plOf g d) : d ∈ g.ord.getD ((eventM g d).getD ev0).loc.toNat [] ∧ plOf g d = (numOf (g.ord.getD ((eventM g d).getD ev0).loc.toNat []) d : Nat) + 1 := by
 unfold plOf at *
 rw [if_neg h0] at *
 cases e : (g.ord.getD ((eventM g d).getD ev0).loc.toNat []).findIdx? fun x => decide (x = d) with
 | none => rw [e] at h; simp at h
 | some k =>
  have hm : d ∈ g.ord.getD ((eventM g d).getD ev0).loc.toNat [] := by
   rw [List.findIdx?_eq_some_iff_getElem] at e
   obtain ⟨h1, h2, _⟩ := e
   rw [decide_eq_true_eq] at h2
   have := List.getElem_mem h1
   rwa [h2] at this
  refine ⟨hm, ?_⟩
  unfold numOf
  rw [e]; rfl
theorem pl_has {g : Gr} {d : EId} (h0 : d.t ≠ 0) (h : d ∈ g.ord.getD ((eventM g d).getD ev0).loc.toNat []) : plOf g d = (numOf (g.ord.getD ((eventM g d).getD ev0).loc.toNat []) d : Nat) + 1 := by
 unfold plOf
 rw [if_neg h0, numOf_find h]
theorem ord_nodup {g : Gr} (hg : GOk g) (x : Nat) : (g.ord.getD x []).Nodup := by
 rcases Nat.lt_or_ge x g.init.length with h | h
 ·exact ((ordered_iff g x).1 (hg.orders x h)).1
 ·have : g.ord.getD x [] = [] := by
   rw [List.getD_eq_getElem?_getD, List.getElem?_eq_none (by have := hg.lord; omega)]; rfl
  rw [this]; exact List.nodup_nil
theorem adj_split {L : List EId} {k : Nat} (hk : k < L.length) : L = L.take k ++ L.getD k id0 :: L.drop (k + 1) := by
 rw [show L.getD k id0 = L[k] by simp [hk], ← List.drop_eq_getElem_cons hk, List.take_append_drop]
theorem adj_at {L : List EId} (hn : L.Nodup) {A B : List EId} {x : EId} (e : L = A ++ x :: B) : numOf L x = A.length := by
 have h1 : A.length < L.length := by rw [e]; simp
 have h2 : L.getD A.length id0 = x := by rw [e]; simp
 have := numOf_at hn h1
 rwa [h2] at this
theorem adj_first {L : List EId} (hn : L.Nodup) (l : List EId) {x : EId} (hx : x ∈ L) (hl : x ∈ l) (h0 : numOf L x = 0) : numOf (keepO l L) x = 0 := by
 have hk := numOf_lt hx
 have e := adj_split hk
 rw [numOf_get hx, h0, List.take_zero, List.nil_append] at e
 have e2 : keepO l L = [] ++ x :: keepO l (L.drop (0 + 1)) := by
  conv => lhs; rw [e]
  unfold keepO
  rw [List.filter_cons_of_pos (by simpa using hl)]; rfl
 exact adj_at (hn.filter _) e2
theorem adj_next {L : List EId} (hn : L.Nodup) (l : List EId) {s d : EId} (hs : s ∈ L) (hd : d ∈ L) (hsl : s ∈ l) (hdl : d ∈ l) (h : numOf L d = numOf L s + 1) : numOf (keepO l L) d = numOf (keepO l L) s + 1 := by
 have hk := numOf_lt hd
 have e := adj_split hk
 rw [numOf_get hd] at e
 have e1 : L.take (numOf L d) = L.take (numOf L s) ++ [s] := by
  rw [h, take_succ' _ _ id0 (numOf_lt hs), numOf_get hs]
 rw [e1] at e
 generalize L.take (numOf L s) = A at e
 generalize L.drop (numOf L d + 1) = B at e
 have f1 : keepO l L = keepO l A ++ s :: (d :: keepO l B) := by
  conv => lhs; rw [e]
  unfold keepO
  rw [List.filter_append, List.filter_append, List.filter_cons_of_pos (by simpa using hsl), List.filter_cons_of_pos (by simpa using hdl), List.filter_nil]
  simp
 have f2 : keepO l L = (keepO l A ++ [s]) ++ d :: keepO l B := by rw [f1]; simp
 rw [adj_at (L := keepO l L) (hn.filter _) f1, adj_at (L := keepO l L) (hn.filter _) f2]
 simp
section
variable {g : Gr} {l : List EId} (hg : GOk g) (hC : ClG g l)
include hg hC
theorem k_idsT (d : EId) : d ∈ idsT (keepM g l) (keepM g l).th.length ↔ d ∈ l := by
 rw [← evT_iff]; exact k_evT hg hC d
theorem k_idsG (d : EId) (h : d ∈ idsG (keepM g l)) : d ∈ idsG g ∧ (d.t = 0 ∨ d ∈ l) := by
 rw [idsG, List.mem_append, idsI_mem] at h
 rw [idsG, List.mem_append, idsI_mem]
 rcases h with h | h
 ·exact ⟨.inl h, .inl h.1⟩
 ·have := (k_idsT hg hC d).1 h
  exact ⟨.inr (evT_iff.1 (hC.2.1 d this)), .inr this⟩
theorem k_ord (x : Nat) : (keepM g l).ord.getD x [] = keepO l (g.ord.getD x []) := by
 have _hg := hg
 have _hC := hC
 unfold keepM
 rcases Nat.lt_or_ge x g.ord.length with h | h
 ·simp [h]
 ·simp [List.getElem?_eq_none h, keepO]
theorem k_ev' (d : EId) (h : d ∈ idsG (keepM g l)) : eventM (keepM g l) d = eventM g d := by
 rcases (k_idsG hg hC d h).2 with h1 | h1
 ·exact k_event0 _ h1
 ·exact k_event hg hC d h1
theorem k_emb : Emb (viewG (keepM g l)) (viewG g) (nG (keepM g l)) (nG g) fun i => numOf (idsG g) ((idsG (keepM g l)).getD i id0) := by
 have hk := k_ok hg hC
 have hm : ∀ i < nG (keepM g l), (idsG (keepM g l)).getD i id0 ∈ idsG (keepM g l) := fun i hi => getD_mem hi
 have hmg : ∀ i < nG (keepM g l), (idsG (keepM g l)).getD i id0 ∈ idsG g := fun i hi => (k_idsG hg hC _ (hm i hi)).1
 have hlt : ∀ i < nG (keepM g l), numOf (idsG g) ((idsG (keepM g l)).getD i id0) < nG g := fun i hi => numOf_lt (hmg i hi)
 have hev : ∀ i < nG (keepM g l), eventM g ((idsG (keepM g l)).getD i id0) = some ((viewG (keepM g l)).ev.getD i ev0) := fun i hi => by
  rw [← k_ev' hg hC _ (hm i hi)]; exact evsG_get _ i hi
 have hfr : ∀ i < nG (keepM g l), (viewG (keepM g l)).fr.getD i 0 = frOf (keepM g l) ((idsG (keepM g l)).getD i id0) := fun i hi => by
  show (tabI _ _).getD i 0 = _
  rw [tabI_get _ _ _ hi]
 have hpl : ∀ i < nG (keepM g l), (viewG (keepM g l)).pl.getD i 0 = plOf (keepM g l) ((idsG (keepM g l)).getD i id0) := fun i hi => by
  show (tabI _ _).getD i 0 = _
  rw [tabI_get _ _ _ hi]
 have gfr : ∀ i < nG (keepM g l), (viewG g).fr.getD (numOf (idsG g) ((idsG (keepM g l)).getD i id0)) 0 = frOf g ((idsG (keepM g l)).getD i id0) := fun i hi => by
  show (tabI _ _).getD _ 0 = _
  rw [tabI_get _ _ _ (hlt i hi), numOf_get (hmg i hi)]
 have gpl : ∀ i < nG (keepM g l), (viewG g).pl.getD (numOf (idsG g) ((idsG (keepM g l)).getD i id0)) 0 = plOf g ((idsG (keepM g l)).getD i id0) := fun i hi => by
  show (tabI _ _).getD _ 0 = _
  rw [tabI_get _ _ _ (hlt i hi), numOf_get (hmg i hi)]
 have gev : ∀ i < nG (keepM g l), (viewG g).ev.getD (numOf (idsG g) ((idsG (keepM g l)).getD i id0)) ev0 = (viewG (keepM g l)).ev.getD i ev0 := fun i hi => by
  have h1 := evsG_get g _ (hlt i hi)
  rw [numOf_get (hmg i hi), hev i hi] at h1
  exact (Option.some.inj h1).symm
 -- a source, in both
 have hsrc : ∀ i < nG (keepM g l), ∀ j < nG (keepM g l), (viewG (keepM g l)).fr.getD i 0 = (j : Nat) → ((idsG (keepM g l)).getD i id0) ∈ l ∧ readsM ((eventM g ((idsG (keepM g l)).getD i id0)).getD ev0) = true ∧ srcOf g ((idsG (keepM g l)).getD i id0) = (idsG (keepM g l)).getD j id0 := fun i hi j hj h => by
  rw [hfr i hi] at h
  unfold frOf at h
  by_cases h0 : ((idsG (keepM g l)).getD i id0).t = 0
  ·rw [if_pos h0] at h; omega
  ·rw [if_neg h0] at h
   have hin : ((idsG (keepM g l)).getD i id0) ∈ l := (k_idsG hg hC _ (hm i hi)).2.resolve_left h0
   rw [k_event hg hC _ hin] at h
   by_cases hr : readsM ((eventM g ((idsG (keepM g l)).getD i id0)).getD ev0) = true
   ·rw [if_pos hr, k_src hg hC _ hin] at h
    refine ⟨hin, hr, ?_⟩
    obtain ⟨w, hw, _⟩ := source_mem (src_ok hg (hmg i hi) h0) hr
    have hs : srcOf g ((idsG (keepM g l)).getD i id0) ∈ idsG (keepM g l) := by
     rw [idsG_mem, k_source hg hC _ hin hr, hw]; rfl
    rw [← numOf_get hs]
    congr 1; omega
   ·rw [if_neg hr] at h; omega
 have hfr2 : ∀ i < nG (keepM g l), ∀ j < nG (keepM g l), (viewG (keepM g l)).fr.getD i 0 = (j : Nat) → (viewG g).fr.getD (numOf (idsG g) ((idsG (keepM g l)).getD i id0)) 0 = (numOf (idsG g) ((idsG (keepM g l)).getD j id0) : Nat) := fun i hi j hj h => by
  obtain ⟨h1, h2, h3⟩ := hsrc i hi j hj h
  rw [gfr i hi]
  unfold frOf
  rw [if_neg (evT_t (hC.2.1 _ h1)), if_pos h2, h3]
 refine ⟨hlt, fun i hi j hj h => ?_, fun i hi => numOf_get (hmg i hi), gev, hfr2, fun i hi j hj hn h0 h1 => ?_, fun i hi hk3 h => ?_⟩
 ·have e : (idsG (keepM g l)).getD i id0 = (idsG (keepM g l)).getD j id0 := by
   rw [← numOf_get (hmg i hi), ← numOf_get (hmg j hj), h]
  exact getD_inj (idsG_nodup _) hi hj e
 ·rw [gpl i hi, gpl j hj]
  rw [hpl i hi] at h0 h1
  rw [hpl j hj] at h1
  -- the locations are one
  have hloc : ((eventM g ((idsG (keepM g l)).getD i id0)).getD ev0).loc = ((eventM g ((idsG (keepM g l)).getD j id0)).getD ev0).loc := by
   unfold nearM at hn
   simp only [Bool.and_eq_true, decide_eq_true_eq] at hn
   rw [hev i hi, hev j hj]
   exact hn.2
  have hjt : ((idsG (keepM g l)).getD j id0).t ≠ 0 := fun e => by
   unfold plOf at h1
   rw [if_pos e] at h1
   unfold plOf at h0
   omega
  obtain ⟨j1, j2⟩ := pl_in (g := keepM g l) hjt (by omega)
  have hjin : ((idsG (keepM g l)).getD j id0) ∈ l := (k_idsG hg hC _ (hm j hj)).2.resolve_left hjt
  rw [k_event hg hC _ hjin, k_ord hg hC] at j1 j2
  have j1' : ((idsG (keepM g l)).getD j id0) ∈ g.ord.getD ((eventM g ((idsG (keepM g l)).getD j id0)).getD ev0).loc.toNat [] := (List.mem_filter.1 j1).1
  have j3 := pl_has hjt j1'
  by_cases hit : ((idsG (keepM g l)).getD i id0).t = 0
  ·have e : plOf g ((idsG (keepM g l)).getD i id0) = 0 := by unfold plOf; rw [if_pos hit]
   rw [e, j3]
   omega
  ·obtain ⟨i1, i2⟩ := pl_in (g := keepM g l) hit h0
   have hiin : ((idsG (keepM g l)).getD i id0) ∈ l := (k_idsG hg hC _ (hm i hi)).2.resolve_left hit
   rw [k_event hg hC _ hiin, k_ord hg hC] at i1 i2
   have i1' : ((idsG (keepM g l)).getD i id0) ∈ g.ord.getD ((eventM g ((idsG (keepM g l)).getD i id0)).getD ev0).loc.toNat [] := (List.mem_filter.1 i1).1
   have i3 := pl_has hit i1'
   rw [i2, j2, hloc] at h1
   rw [hloc] at i1
   have := numOf_filter (ord_nodup hg _) _ i1 j1 (by unfold keepO at h1; omega)
   rw [i3, j3, hloc]
   omega
 ·have hr3 : readsM ((viewG (keepM g l)).ev.getD i ev0) = true := by unfold readsM; rw [hk3]; rfl
  have hV := viewG_wf hk
  have f1 := hV.frg i hi hr3
  have f2 := hV.frl i hi
  obtain ⟨j, hj⟩ : ∃ j : Nat, (viewG (keepM g l)).fr.getD i 0 = (j : Nat) := ⟨((viewG (keepM g l)).fr.getD i 0).toNat, by omega⟩
  have hjn : j < nG (keepM g l) := by omega
  have e1 := hfr2 i hi j hjn hj
  rw [e1] at h
  have e2 : ((numOf (idsG g) ((idsG (keepM g l)).getD j id0) : Nat) : Int).toNat = numOf (idsG g) ((idsG (keepM g l)).getD j id0) := by omega
  rw [e2, gpl i hi, gpl j hjn] at h
  rw [hj]
  have e3 : ((j : Nat) : Int).toNat = j := by omega
  rw [e3, hpl i hi, hpl j hjn]
  obtain ⟨s1, s2, s3⟩ := hsrc i hi j hjn hj
  have hit := evT_t (hC.2.1 _ s1)
  have hw : writesM ((eventM g ((idsG (keepM g l)).getD i id0)).getD ev0) = true := by
   rw [hev i hi, Option.getD_some]; unfold writesM; rw [hk3]; rfl
  obtain ⟨w, hw1, hw2, hw3, hw4, _⟩ := source_mem (src_ok hg (hmg i hi) hit) s2
  rw [s3] at hw1 hw2
  -- the update is in its location's order
  have hisW : isW g (((eventM g ((idsG (keepM g l)).getD i id0)).getD ev0).loc.toNat : Nat) ((idsG (keepM g l)).getD i id0) = true := by
   unfold isW
   rw [hev i hi] at hw ⊢
   simp only [Option.getD_some] at hw ⊢
   have hfine := (hg.events (((idsG (keepM g l)).getD i id0).t - 1).toNat (by have := (hC.2.1 _ s1).2.1; have := (hC.2.1 _ s1).1; omega)).2 ((idsG (keepM g l)).getD i id0).i.toNat (by have := (hC.2.1 _ s1).2.2; omega)
   have hT := event_T (hC.2.1 _ s1)
   rw [hev i hi] at hT
   rw [← Option.some.inj hT] at hfine
   have hl0 : 0 ≤ ((viewG (keepM g l)).ev.getD i ev0).loc := by
    unfold fineM at hfine
    simp only [Bool.and_eq_true] at hfine
    have := hfine.2
    rw [if_neg (by rw [hk3]; omega), decide_eq_true_eq] at this
    exact this.1
   rw [hw, decide_eq_true hit]
   simp only [Bool.and_true, Bool.true_and, decide_eq_true_eq]
   omega
  have hin := ord_has hg hisW
  have p1 := pl_has hit hin
  have p1k : plOf (keepM g l) ((idsG (keepM g l)).getD i id0) = (numOf (keepO l (g.ord.getD ((eventM g ((idsG (keepM g l)).getD i id0)).getD ev0).loc.toNat [])) ((idsG (keepM g l)).getD i id0) : Nat) + 1 := by
   have := pl_has (g := keepM g l) hit (by rw [k_event hg hC _ s1, k_ord hg hC]; exact List.mem_filter.2 ⟨hin, by simpa using s1⟩)
   rw [k_event hg hC _ s1, k_ord hg hC] at this
   exact this
  have hno := ord_nodup hg ((eventM g ((idsG (keepM g l)).getD i id0)).getD ev0).loc.toNat
  by_cases hjt : ((idsG (keepM g l)).getD j id0).t = 0
  ·have e4 : plOf g ((idsG (keepM g l)).getD j id0) = 0 := by unfold plOf; rw [if_pos hjt]
   have e5 : plOf (keepM g l) ((idsG (keepM g l)).getD j id0) = 0 := by unfold plOf; rw [if_pos hjt]
   rw [e4, p1] at h
   rw [e5, p1k]
   -- the first of all is the first of the kept
   have hz : numOf (g.ord.getD ((eventM g ((idsG (keepM g l)).getD i id0)).getD ev0).loc.toNat []) ((idsG (keepM g l)).getD i id0) = 0 := by omega
   have := adj_first hno l hin s1 hz
   rw [this]; rfl
  ·have sjin : ((idsG (keepM g l)).getD j id0) ∈ l := (k_idsG hg hC _ (hm j hjn)).2.resolve_left hjt
   have hlocs : ((eventM g ((idsG (keepM g l)).getD j id0)).getD ev0).loc = ((eventM g ((idsG (keepM g l)).getD i id0)).getD ev0).loc := by
    rw [hw1, Option.getD_some]; exact hw4
   have hge : 0 ≤ plOf g ((idsG (keepM g l)).getD j id0) := by omega
   obtain ⟨q1, q2⟩ := pl_in hjt hge
   rw [hlocs] at q1 q2
   have q2k : plOf (keepM g l) ((idsG (keepM g l)).getD j id0) = (numOf (keepO l (g.ord.getD ((eventM g ((idsG (keepM g l)).getD i id0)).getD ev0).loc.toNat [])) ((idsG (keepM g l)).getD j id0) : Nat) + 1 := by
    have := pl_has (g := keepM g l) hjt (by rw [k_event hg hC _ sjin, k_ord hg hC, hlocs]; exact List.mem_filter.2 ⟨q1, by simpa using sjin⟩)
    rw [k_event hg hC _ sjin, k_ord hg hC, hlocs] at this
    exact this
   rw [p1, q2] at h
   rw [p1k, q2k]
   have := adj_next hno l q1 hin sjin s1 (by omega)
   omega
end
end Go.AL.Rl

namespace Go.AL.Rl
open Go Go.AL Go.Proofs
set_option maxRecDepth 100000
set_option maxHeartbeats 1600000

structure Tail (V U : Vw) (n m : Nat) (f : Nat → Nat) (N : Nat) : Prop where
 cov : ∀ a < m, (∃ i < n, a = f i) ∨ a = N
 nim : ∀ i < n, f i ≠ N
 po : ∀ b < m, poM U N b = false
 rf : ∀ b < m, U.fr.getD b 0 ≠ (N : Nat)
 frn : ∀ i < n, V.fr.getD i 0 < 0 → U.fr.getD (f i) 0 < 0
 pln : ∀ i < n, 0 ≤ U.pl.getD (f i) 0 → 0 ≤ V.pl.getD i 0
 plu : ∀ i < n, ∀ j < n, nearM V i j = true → 0 ≤ V.pl.getD i 0 → V.pl.getD i 0 = V.pl.getD j 0 → i = j
 plh : ∀ i < n, ∀ j < n, nearM V i j = true → 0 ≤ V.pl.getD i 0 → 0 ≤ U.pl.getD (f j) 0 → 0 ≤ V.pl.getD j 0
section
variable {V U : Vw} {n m : Nat} {f : Nat → Nat} {N : Nat} (E : Emb V U n m f) (Y : Tail V U n m f N) (hV : Wf V n) (hU : Wf U m)
include E Y
theorem t_fr {j k : Nat} (hj : j < n) (hV : Wf V n) (h : U.fr.getD (f j) 0 = (k : Nat)) : ∃ i < n, k = f i ∧ V.fr.getD j 0 = (i : Nat) := by
 have hl := hV.frl j hj
 by_cases h0 : 0 ≤ V.fr.getD j 0
 ·have e := E.fr j hj (V.fr.getD j 0).toNat (by omega) (by omega)
  rw [e] at h
  exact ⟨(V.fr.getD j 0).toNat, by omega, by omega, by omega⟩
 ·have := Y.frn j hj (by omega)
  omega
theorem t_rf {i j : Nat} (hi : i < n) (hj : j < n) (hV : Wf V n) : rfM U (f i) (f j) = rfM V i j := by
 rw [Bool.eq_iff_iff]
 constructor
 ·intro h
  unfold rfM at *
  rw [decide_eq_true_eq] at *
  obtain ⟨k, hk, e1, e2⟩ := t_fr E Y hj hV h
  rw [E.inj i hi k hk e1, e2]
 ·exact e_rf E hi hj
theorem t_co {i j : Nat} (hi : i < n) (hj : j < n) : coM U (f i) (f j) = coM V i j := by
 rw [Bool.eq_iff_iff]
 constructor
 ·intro h
  unfold coM at h ⊢
  simp only [Bool.and_eq_true, decide_eq_true_eq] at h ⊢
  obtain ⟨⟨h1, h2⟩, h3⟩ := h
  rw [e_near E hi hj] at h2
  have p1 := Y.pln i hi h1
  have p2 := Y.plh i hi j hj h2 p1 (by omega)
  refine ⟨⟨p1, h2⟩, ?_⟩
  rcases Int.lt_trichotomy (V.pl.getD i 0) (V.pl.getD j 0) with q | q | q
  ·exact q
  ·have := Y.plu i hi j hj h2 p1 q
   subst this; omega
  ·have h4 : nearM V j i = true := by
    unfold nearM at h2 ⊢
    simp only [Bool.and_eq_true, decide_eq_true_eq] at h2 ⊢
    exact ⟨⟨h2.1.2, h2.1.1⟩, h2.2.symm⟩
   have := E.pl j hj i hi h4 p2 q
   omega
 ·exact e_co E hi hj
theorem t_img {a b : Nat} (ha : a < m) (hb : b < m) (h : poM U a b = true) : ∃ i < n, a = f i := by
 have _hE := E
 rcases Y.cov a ha with h1 | h1
 ·exact h1
 ·subst h1; rw [Y.po b hb] at h; cases h
include hV
theorem t_seq {w : Nat} {x : Nat} (h : InSeq U m (f w) x) (hw : w < n) : (∃ s < n, x = f s ∧ InSeq V n w s) ∨ x = N := by
 induction h with
 | base => exact .inl ⟨w, hw, rfl, .base⟩
 | @step i hi hk hs ih =>
  rcases Y.cov i hi with ⟨s, hs1, rfl⟩ | h1
  ·left
   refine ⟨s, hs1, rfl, ?_⟩
   rw [E.ev s hs1] at hk
   have hr : readsM (V.ev.getD s ev0) = true := by unfold readsM; rw [hk]; rfl
   have h1 := hV.frg s hs1 hr
   have h2 := hV.frl s hs1
   have e := E.fr s hs1 (V.fr.getD s 0).toNat (by omega) (by omega)
   refine .step hs1 hk ?_
   rw [e] at ih
   have e3 : ((f (V.fr.getD s 0).toNat : Nat) : Int).toNat = f (V.fr.getD s 0).toNat := by omega
   rw [e3] at ih
   rcases ih with ⟨s', k1, k2, k3⟩ | k
   ·rw [E.inj _ (by omega) s' k1 k2]; exact k3
   ·exact absurd k (Y.nim _ (by omega))
  ·exact .inr h1
include hU
theorem t_sw {i j : Nat} (hi : i < n) (hj : j < n) (h : bit (swF U m) (f i) (f j) = true) : bit (swF V n) i j = true := by
 rw [sw_iffE hU.small] at h
 obtain ⟨_, _, w, hw, h1, b, hb, h2, h3⟩ := h
 rw [sw_iffE hV.small]
 -- who reads
 have hbi : ∃ b' < n, b = f b' := by
  unfold caM at h3
  simp only [Bool.and_eq_true, Bool.or_eq_true, decide_eq_true_eq] at h3
  rcases h3.2 with h4 | h4
  ·exact ⟨j, hj, h4.symm⟩
  ·exact t_img E Y hb (E.lt j hj) h4.2
 obtain ⟨b', hb', rfl⟩ := hbi
 unfold rdrM at h2
 rw [E.ev b' hb'] at h2
 simp only [Bool.and_eq_true, decide_eq_true_eq] at h2
 have h0 := hV.frg b' hb' h2.1.1
 have hl := hV.frl b' hb'
 have e := E.fr b' hb' (V.fr.getD b' 0).toNat (by omega) (by omega)
 rw [e] at h2
 have e3 : ((f (V.fr.getD b' 0).toNat : Nat) : Int).toNat = f (V.fr.getD b' 0).toNat := by omega
 rw [e3] at h2
 have hs := (seq_bit (by have := hU.small; omega) hw _).1 h2.2
 -- who writes first
 have hwi : ∃ w' < n, w = f w' := by
  rcases Y.cov w hw with h4 | h4
  ·exact h4
  ·exfalso
   subst h4
   -- nobody reads from it
   have key : ∀ x, InSeq U m w x → x = w := fun x hx => by
    induction hx with
    | base => rfl
    | @step i hi hk hs ih =>
     have hr : readsM (U.ev.getD i ev0) = true := by unfold readsM; rw [hk]; rfl
     have := hU.frg i hi hr
     have := Y.rf i hi
     omega
   have := key _ hs
   exact Y.nim _ (by omega) this
 obtain ⟨w', hw', rfl⟩ := hwi
 refine ⟨hi, hj, w', hw', ?_, b', hb', ?_, ?_⟩
 ·unfold swR at h1 ⊢
  rw [E.ev w' hw', E.ev i hi, e_po E hi hw'] at h1
  simp only [Bool.and_eq_true, Bool.or_eq_true, decide_eq_true_eq] at h1 ⊢
  exact ⟨h1.1, h1.2.imp (fun h => E.inj i hi w' hw' h) id⟩
 ·unfold rdrM
  simp only [Bool.and_eq_true, decide_eq_true_eq]
  refine ⟨h2.1, (seq_bit (by have := hV.small; omega) hw' _).2 ?_⟩
  rcases t_seq E Y hV hs hw' with ⟨s, k1, k2, k3⟩ | k
  ·rw [E.inj _ (by omega) s k1 k2]; exact k3
  ·exact absurd k (Y.nim _ (by omega))
 ·unfold caM at h3 ⊢
  rw [E.ev j hj, e_po E hb' hj] at h3
  simp only [Bool.and_eq_true, Bool.or_eq_true, decide_eq_true_eq] at h3 ⊢
  exact ⟨h3.1, h3.2.imp (fun h => E.inj j hj b' hb' h) id⟩
/-- nothing leads on from it -/
theorem t_swN {b : Nat} (h : bit (swF U m) N b = true) : False := by
 have _hE := E
 have _hV := hV
 rw [sw_iffE hU.small] at h
 obtain ⟨_, hbm, w, hw, h1, b', hb', h2, h3⟩ := h
 unfold swR at h1
 simp only [Bool.and_eq_true, Bool.or_eq_true, decide_eq_true_eq] at h1
 have hw2 : N = w := by
  rcases h1.2 with h4 | h4
  ·exact h4
  ·rw [Y.po w hw] at h4; cases h4.2
 subst hw2
 unfold rdrM at h2
 simp only [Bool.and_eq_true, decide_eq_true_eq] at h2
 have hs := (seq_bit (by have := hU.small; omega) hw _).1 h2.2
 have key : ∀ x, InSeq U m N x → x = N := fun x hx => by
  induction hx with
  | base => rfl
  | @step i hi hk hs ih =>
   have hr : readsM (U.ev.getD i ev0) = true := by unfold readsM; rw [hk]; rfl
   have := hU.frg i hi hr
   have := Y.rf i hi
   omega
 have h5 := key _ hs
 have h6 := hU.frg b' hb' h2.1.1
 have h7 := Y.rf b' hb'
 omega
theorem t_hb {i j : Nat} (hi : i < n) (hj : j < n) (h : bit (hbF U m) (f i) (f j) = true) : bit (hbF V n) i j = true := by
 have hfV := fits_or2 (fits_poF V hV.small) (fits_swF V hV.small)
 have hfU := fits_or2 (fits_poF U hU.small) (fits_swF U hU.small)
 have key : bit (hbF U m) (f i) (f j) = true → ∀ j' < n, f j = f j' → ∃ i' < n, f i = f i' ∧ bit (hbF V n) i' j' = true := fun h =>
  plus_least (fun a b => ∀ j' < n, b = f j' → ∃ i' < n, a = f i' ∧ bit (hbF V n) i' j' = true) (fun a b hab j' hj' e => by
   subst e
   rw [bit_or2 (fits_poF U hU.small) (fits_swF U hU.small)] at hab
   rcases hab with hab | hab
   ·unfold poF at hab
    rw [bit_relI hU.small] at hab
    obtain ⟨i', hi', rfl⟩ := t_img E Y hab.1 hab.2.1 hab.2.2
    refine ⟨i', hi', rfl, plus_edge ?_⟩
    rw [bit_or2 (fits_poF V hV.small) (fits_swF V hV.small)]
    left
    unfold poF
    rw [bit_relI hV.small]
    exact ⟨hi', hj', by rw [← e_po E hi' hj']; exact hab.2.2⟩
   ·have ha : a < m := ((sw_iffE hU.small).1 hab).1
    rcases Y.cov a ha with ⟨i', hi', rfl⟩ | h1
    ·refine ⟨i', hi', rfl, plus_edge ?_⟩
     rw [bit_or2 (fits_poF V hV.small) (fits_swF V hV.small)]
     exact .inr (t_sw E Y hV hU hi' hj' hab)
    ·subst h1
     exact (t_swN E Y hV hU hab).elim) (fun a k b h1 h2 j' hj' e => by
   obtain ⟨k', hk', e1, q1⟩ := h2 j' hj' e
   obtain ⟨i', hi', e2, q2⟩ := h1 k' hk' e1
   exact ⟨i', hi', e2, plus_trans hfV q2 q1⟩) h
 obtain ⟨i', hi', e1, e2⟩ := key h j hj rfl
 rw [E.inj i hi i' hi' e1]
 exact e2
end
end Go.AL.Rl

namespace Go.AL.Rl
open Go Go.AL Go.Proofs
set_option maxRecDepth 100000
set_option maxHeartbeats 1600000

theorem gr_ext {a b : Gr} (h1 : a.init = b.init) (h2 : a.th = b.th) (h3 : a.fr = b.fr) (h4 : a.ord = b.ord) : a = b := by cases a; cases b; simp_all
theorem getD_set' {α : Type} (l : List α) (i j : Nat) (x d : α) (hi : i < l.length) : (l.set i x).getD j d = if j = i then x else l.getD j d := by
 rw [List.getD_eq_getElem?_getD, List.getElem?_set, List.getD_eq_getElem?_getD]
 by_cases e : i = j
 ·subst e; simp [hi]
 ·rw [if_neg e, if_neg fun h => e h.symm]
theorem getD_app1 {α : Type} (l : List α) (x d : α) {j : Nat} (hj : j < l.length) : (l ++ [x]).getD j d = l.getD j d := by
 rw [List.getD_eq_getElem?_getD, List.getElem?_append_left hj, List.getD_eq_getElem?_getD]
theorem gD' {α : Type} {l : List α} {i : Nat} {d : α} (h : i < l.length) : l.getD i d = l[i] := by simp [h]
abbrev newD (g : Gr) (t : Nat) : EId := ⟨(t : Int) + 1, ((g.th.getD t []).length : Int)⟩
section
variable {g : Gr} {t : Nat} {e : Ev} {d : EId} {p : Int} (hg : GOk g) (ht : t < g.th.length) (hh : GOk (addG g t e d p))
theorem add_thl : (addG g t e d p).th.length = g.th.length := by show (g.th.set t _).length = _; simp
include ht
theorem add_th (s : Nat) : (addG g t e d p).th.getD s [] = if s = t then g.th.getD t [] ++ [e] else g.th.getD s [] := getD_set' _ _ _ _ _ ht
theorem add_len_le (s : Nat) : (g.th.getD s []).length ≤ ((addG g t e d p).th.getD s []).length := by
 rw [add_th ht]
 split
 ·rename_i h; subst h; simp
 ·exact Nat.le_refl _
theorem add_get (s j : Nat) (hj : j < (g.th.getD s []).length) : ((addG g t e d p).th.getD s []).getD j ev0 = (g.th.getD s []).getD j ev0 := by
 rw [add_th ht]
 split
 ·rename_i h; subst h; exact getD_app1 _ _ _ hj
 ·rfl
theorem add_evT {x : EId} (h : evT g x) : evT (addG g t e d p) x := by
 obtain ⟨h1, h2, h3, h4⟩ := h
 refine ⟨h1, by rw [add_thl]; exact h2, h3, ?_⟩
 have := add_len_le (g := g) (e := e) (d := d) (p := p) ht (x.t - 1).toNat
 omega
theorem add_event {x : EId} (h : x ∈ idsG g) : eventM (addG g t e d p) x = eventM g x := by
 rw [idsG_mem] at h
 by_cases h0 : x.t = 0
 ·unfold eventM
  rw [if_pos h0, if_pos h0]
  rfl
 ·have hT : evT g x := by
   unfold eventM at h
   rw [if_neg h0] at h
   split at h
   ·rename_i hc; exact ⟨by omega, hc.2.1, hc.2.2.1, hc.2.2.2⟩
   ·cases h
  rw [event_T hT, event_T (add_evT ht hT)]
  obtain ⟨h1, h2, h3, h4⟩ := hT
  rw [add_get ht _ _ (by omega)]
theorem add_cases {x : EId} (h : evT (addG g t e d p) x) : evT g x ∨ x = newD g t := by
 obtain ⟨h1, h2, h3, h4⟩ := h
 rw [add_thl] at h2
 rw [add_th ht] at h4
 split at h4
 ·rename_i e1
  rw [List.length_append] at h4
  simp only [List.length_cons, List.length_nil] at h4
  by_cases h5 : x.i < ((g.th.getD t []).length : Nat)
  ·left; exact ⟨h1, h2, h3, by rw [e1]; exact h5⟩
  ·right; exact EId.ext' (by simp only; omega) (by simp only; omega)
 ·left; exact ⟨h1, h2, h3, h4⟩
theorem new_not : newD g t ∉ idsG g := by
 have _ht := ht
 rw [idsG_mem]
 unfold eventM
 rw [if_neg (by simp only; omega)]
 have e1 : ((t : Int) + 1 - 1).toNat = t := by omega
 rw [if_neg (by simp only [e1]; omega)]
 simp
theorem new_evT : evT (addG g t e d p) (newD g t) := by
 refine ⟨by simp only; omega, by rw [add_thl]; simp only; omega, by simp only; omega, ?_⟩
 have e1 : ((newD g t).t - 1).toNat = t := by simp only; omega
 rw [e1, add_th ht, if_pos rfl, List.length_append]
 simp only [List.length_cons, List.length_nil]
 omega
include hg
theorem add_src {x : EId} (h : evT g x) : srcOf (addG g t e d p) x = srcOf g x := by
 obtain ⟨h1, h2, h3, h4⟩ := h
 have hf := hg.lfr
 unfold srcOf
 have : (addG g t e d p).fr.getD (x.t - 1).toNat [] = if (x.t - 1).toNat = t then g.fr.getD t [] ++ [d] else g.fr.getD (x.t - 1).toNat [] := getD_set' _ _ _ _ _ (by omega)
 rw [this]
 split
 ·rename_i e1
  have h5 := (hg.events t ht).1
  rw [e1] at h4 ⊢
  exact getD_app1 _ _ _ (by omega)
 ·rfl
theorem src_in {x : EId} (h : evT g x) (hr : readsM ((eventM g x).getD ev0) = true) : srcOf g x ∈ idsG g := by
 have _ht := ht
 have hx : x ∈ idsG g := idsG_mem.2 (by rw [event_T h]; rfl)
 obtain ⟨w, hw, _⟩ := source_mem (src_ok hg hx (evT_t h)) hr
 exact idsG_mem.2 (by rw [hw]; rfl)
theorem add_cl : ClG (addG g t e d p) (idsT g g.th.length) := by
 refine ⟨idsT_nodup g _, fun x hx => add_evT ht (evT_iff.2 hx), fun x hx a ha hah => ?_⟩
 have hx := evT_iff.2 hx
 rw [← evT_iff]
 rcases add_cases ht ha with h1 | h1
 ·exact h1
 ·exfalso
  subst h1
  rcases hah with ⟨h2, h3⟩ | ⟨h2, h3⟩
  ·obtain ⟨b1, b2, b3, b4⟩ := hx
   simp only at h2 h3
   have e1 : (x.t - 1).toNat = t := by omega
   rw [e1] at b4
   omega
  ·have hxi : x ∈ idsG g := idsG_mem.2 (by rw [event_T hx]; rfl)
   rw [add_event ht hxi] at h2
   rw [add_src hg ht hx] at h3
   have := src_in hg ht hx h2
   rw [h3] at this
   exact new_not ht this
include hh
theorem add_kQ (s : Nat) (hs : s < g.th.length) : kQ (addG g t e d p) (idsT g g.th.length) s = (g.th.getD s []).length := by
 have hC := add_cl (e := e) (d := d) (p := p) hg ht
 have hs' : s < (addG g t e d p).th.length := by rw [add_thl]; exact hs
 have hle := add_len_le (g := g) (e := e) (d := d) (p := p) ht s
 have hk := kQ_le hh hC s hs'
 have key : ∀ j < ((addG g t e d p).th.getD s []).length, (j < (g.th.getD s []).length ↔ j < kQ (addG g t e d p) (idsT g g.th.length) s) := fun j hj => by
  rw [← k_in hh hC s j hs' hj, ← evT_iff, evT_mk]
  exact ⟨fun h => ⟨hs, h⟩, fun h => h.2⟩
 rcases Nat.lt_trichotomy (kQ (addG g t e d p) (idsT g g.th.length) s) (g.th.getD s []).length with h | h | h
 ·have := (key (kQ (addG g t e d p) (idsT g g.th.length) s) (by omega)).1 h
  omega
 ·exact h
 ·have := (key (g.th.getD s []).length (by omega)).2 h
  omega
theorem add_keep : keepM (addG g t e d p) (idsT g g.th.length) = g := by
 have hC := add_cl (e := e) (d := d) (p := p) hg ht
 have hlf := hg.lfr
 refine gr_ext rfl ?_ ?_ ?_
 ·refine List.ext_getElem (by show ((List.range _).map _).length = _; rw [List.length_map, List.length_range, add_thl]) fun s h1 h2 => ?_
  have h3 := kth hh hC s (by rw [add_thl]; exact h2)
  rw [add_kQ hg ht hh s h2] at h3
  rw [← gD' (d := []) h1, h3, ← gD' (d := []) h2, add_th ht]
  split
  ·rename_i e1; subst e1; simp
  ·simp
 ·refine List.ext_getElem (by show ((List.range _).map _).length = _; rw [List.length_map, List.length_range, add_thl, hlf]) fun s h1 h2 => ?_
  have hs : s < g.th.length := by omega
  have h3 := kfr hh hC s (by rw [add_thl]; exact hs)
  rw [add_kQ hg ht hh s hs] at h3
  have h5 := (hg.events s hs).1
  have h6 : (addG g t e d p).fr.getD s [] = if s = t then g.fr.getD t [] ++ [d] else g.fr.getD s [] := getD_set' _ _ _ _ _ (by omega)
  rw [← gD' (d := []) h1, h3, ← gD' (d := []) h2, h6, ← h5]
  split
  ·rename_i e1; subst e1; simp
  ·simp
 ·have hin : ∀ x < g.ord.length, ∀ y ∈ g.ord.getD x [], y ∈ idsT g g.th.length := fun x hx y hy => by
   have h1 := hg.orders x (by have := hg.lord; omega)
   obtain ⟨i, hi, rfl⟩ := List.getElem_of_mem hy
   unfold orderedM at h1
   simp only [Bool.and_eq_true, decide_eq_true_eq] at h1
   obtain ⟨ev, he, h0, _⟩ := isW_event (h1.1 i hi).1
   rw [gD' hi] at he h0
   rw [← evT_iff]
   unfold eventM at he
   rw [if_neg h0] at he
   split at he
   ·rename_i hc; exact ⟨by omega, hc.2.1, hc.2.2.1, hc.2.2.2⟩
   ·cases he
  have hself : ∀ x < g.ord.length, keepO (idsT g g.th.length) (g.ord.getD x []) = g.ord.getD x [] := fun x hx => by
   unfold keepO
   rw [List.filter_eq_self]
   intro y hy
   exact decide_eq_true (hin x hx y hy)
  have hnew : newD g t ∉ idsT g g.th.length := fun h => new_not ht (idsG_mem.2 (by rw [event_T (evT_iff.2 h)]; rfl))
  show List.map (keepO _) (if writesM e = true then g.ord.set e.loc.toNat (addO g t e p) else g.ord) = g.ord
  by_cases hw : writesM e = true
  ·rw [if_pos hw]
   refine List.ext_getElem (by simp) fun x h1 h2 => ?_
   rw [List.getElem_map, List.getElem_set]
   split
   ·rename_i e1
    rw [← gD' (d := []) h2]
    have hs := hself x h2
    unfold addO
    rw [e1]
    unfold keepO at *
    rw [List.filter_append, List.filter_append, List.filter_cons_of_neg (by simp only [decide_eq_true_eq]; exact hnew), List.filter_nil, List.append_nil, ← List.filter_append, List.take_append_drop]
    exact hs
   ·rw [← gD' (d := []) h2]; exact hself x h2
  ·rw [if_neg hw]
   refine List.ext_getElem (by simp) fun x h1 h2 => ?_
   rw [List.getElem_map, ← gD' (d := []) h2]; exact hself x h2
abbrev addF (g : Gr) (t : Nat) (e : Ev) (d : EId) (p : Int) (i : Nat) : Nat := numOf (idsG (addG g t e d p)) ((idsG g).getD i id0)
theorem add_emb : Emb (viewG g) (viewG (addG g t e d p)) (nG g) (nG (addG g t e d p)) (addF g t e d p) := by
 have := k_emb hh (add_cl (e := e) (d := d) (p := p) hg ht)
 rw [add_keep hg ht hh] at this
 exact this
theorem add_tail : Tail (viewG g) (viewG (addG g t e d p)) (nG g) (nG (addG g t e d p)) (addF g t e d p) (numOf (idsG (addG g t e d p)) (newD g t)) := by
 have E := add_emb hg ht hh
 have hN : newD g t ∈ idsG (addG g t e d p) := idsG_mem.2 (by rw [event_T (new_evT ht)]; rfl)
 have hsub : ∀ x ∈ idsG g, x ∈ idsG (addG g t e d p) := fun x hx => idsG_mem.2 (by rw [add_event ht hx]; exact idsG_mem.1 hx)
 have hids : ∀ a < nG (addG g t e d p), (idsG (addG g t e d p)).getD a id0 ∈ idsG g ∨ (idsG (addG g t e d p)).getD a id0 = newD g t := fun a ha => by
  have hm := getD_mem (d := id0) ha
  by_cases h0 : ((idsG (addG g t e d p)).getD a id0).t = 0
  ·left
   rw [idsG_mem] at hm ⊢
   unfold eventM at hm ⊢
   rw [if_pos h0] at hm ⊢
   exact hm
  ·have hT : evT (addG g t e d p) ((idsG (addG g t e d p)).getD a id0) := by
    have h := idsG_mem.1 hm
    unfold eventM at h
    rw [if_neg h0] at h
    split at h
    ·rename_i hc; exact ⟨by omega, hc.2.1, hc.2.2.1, hc.2.2.2⟩
    ·cases h
   rcases add_cases ht hT with h1 | h1
   ·exact .inl (idsG_mem.2 (by rw [event_T h1]; rfl))
   ·exact .inr h1
 refine ⟨fun a ha => ?_, fun i hi h => ?_, fun b hb => ?_, fun b hb h => ?_, fun i hi h => ?_, fun i hi h => ?_, fun i hi j hj h1 h2 h3 => ?_, fun i hi j hj h1 h2 h3 => ?_⟩
 ·rcases hids a ha with h1 | h1
  ·left
   refine ⟨numOf (idsG g) ((idsG (addG g t e d p)).getD a id0), numOf_lt h1, ?_⟩
   show a = numOf _ _
   rw [numOf_get h1, numOf_at (idsG_nodup _) ha]
  ·right
   rw [← h1, numOf_at (idsG_nodup _) ha]
 ·have hm := getD_mem (d := id0) hi
  have h1 := numOf_get (hsub _ hm)
  have h2 := numOf_get hN
  rw [show numOf (idsG (addG g t e d p)) ((idsG g).getD i id0) = _ from h, h2] at h1
  exact new_not ht (h1 ▸ hm)
 ·unfold poM
  show (decide (((idsG (addG g t e d p)).getD b id0).t ≠ 0) && (decide (((idsG (addG g t e d p)).getD (numOf (idsG (addG g t e d p)) (newD g t)) id0).t = 0) || decide (((idsG (addG g t e d p)).getD (numOf (idsG (addG g t e d p)) (newD g t)) id0).t = ((idsG (addG g t e d p)).getD b id0).t) && decide (((idsG (addG g t e d p)).getD (numOf (idsG (addG g t e d p)) (newD g t)) id0).i < ((idsG (addG g t e d p)).getD b id0).i))) = false
  rw [numOf_get hN]
  generalize hx : (idsG (addG g t e d p)).getD b id0 = x
  have hm := getD_mem (d := id0) hb
  have hb' := hids b hb
  rw [hx] at hb'
  rw [Bool.eq_false_iff]
  intro h
  simp only [Bool.and_eq_true, Bool.or_eq_true, decide_eq_true_eq] at h
  obtain ⟨h1, h2⟩ := h
  rcases h2 with h2 | ⟨h2, h3⟩
  ·omega
  ·rcases hb' with h4 | h4
   ·rw [idsG_mem] at h4
    unfold eventM at h4
    rw [if_neg h1] at h4
    split at h4
    ·rename_i hc
     have e1 : (x.t - 1).toNat = t := by omega
     rw [e1] at hc
     omega
    ·cases h4
   ·rw [h4] at h3; simp only at h3; omega
 ·have hr : readsM ((viewG (addG g t e d p)).ev.getD b ev0) = true := (fr_iff hh b hb).1 (by rw [h]; omega)
  obtain ⟨w, e1, hw, hne, _⟩ := src_of hh b hb hr
  have hev := vev hh b hb
  have h0 : ((idsG (addG g t e d p)).getD b id0).t ≠ 0 := fun h0 => by rw [init_reads hev h0] at hr; cases hr
  rw [vfr hh b hb] at h
  unfold frOf at h
  rw [if_neg h0, hev, Option.getD_some, if_pos hr] at h
  have hT : evT (addG g t e d p) ((idsG (addG g t e d p)).getD b id0) := by
   unfold eventM at hev
   rw [if_neg h0] at hev
   split at hev
   ·rename_i hc; exact ⟨by omega, hc.2.1, hc.2.2.1, hc.2.2.2⟩
   ·cases hev
  have hsm : srcOf (addG g t e d p) ((idsG (addG g t e d p)).getD b id0) ∈ idsG (addG g t e d p) := by
   obtain ⟨w', hw', _⟩ := source_mem (src_ok hh (getD_mem hb) h0) (by rw [hev]; exact hr)
   exact idsG_mem.2 (by rw [hw']; rfl)
  have hsn : srcOf (addG g t e d p) ((idsG (addG g t e d p)).getD b id0) = newD g t := by
   rw [← numOf_get hsm, ← numOf_get hN]
   congr 1
   omega
  rcases add_cases ht hT with h1 | h1
  ·rw [add_src hg ht h1] at hsn
   have hxi : (idsG (addG g t e d p)).getD b id0 ∈ idsG g := idsG_mem.2 (by rw [event_T h1]; rfl)
   have := src_in hg ht h1 (by rw [← add_event (e := e) (d := d) (p := p) ht hxi, hev]; exact hr)
   rw [hsn] at this
   exact new_not ht this
  ·rw [vfr hh b hb] at e1
   unfold frOf at e1
   rw [if_neg h0, hev, Option.getD_some, if_pos hr, hsn, ← h1, numOf_at (idsG_nodup _) hb] at e1
   omega
 ·have h1 : ¬ readsM ((viewG g).ev.getD i ev0) = true := fun h2 => by have := (fr_iff hg i hi).2 h2; omega
  rw [← E.ev i hi] at h1
  have h3 : ¬ 0 ≤ (viewG (addG g t e d p)).fr.getD (addF g t e d p i) 0 := fun h2 => h1 ((fr_iff hh _ (E.lt i hi)).1 h2)
  omega
 ·have h1 := (pl_iff hh _ (E.lt i hi)).1 h
  rw [E.ev i hi] at h1
  exact (pl_iff hg i hi).2 h1
 ·have hwi := (pl_iff hg i hi).1 h2
  have hwj := (pl_iff hg j hj).1 (by omega)
  unfold nearM at h1
  simp only [Bool.and_eq_true, decide_eq_true_eq] at h1
  exact pl_inj hg i j hi hj hwi hwj h1.2 h3
 ·have hwj := (pl_iff hh _ (E.lt j hj)).1 h3
  rw [E.ev j hj] at hwj
  exact (pl_iff hg j hj).2 hwj
end
end Go.AL.Rl

namespace Go.AL.Rl
open Go Go.AL Go.Proofs
set_option maxRecDepth 100000
set_option maxHeartbeats 3200000
variable {γ : Nat → Option AV}

theorem idsT_splitA (g : Gr) (a b : Nat) : ∃ r, idsT g (a + b) = idsT g a ++ r := by
 unfold idsT
 rw [List.range_add, List.flatMap_append]
 exact ⟨_, rfl⟩
theorem num_atA {g : Gr} {t i : Nat} (ht : t < g.th.length) (hi : i < (g.th.getD t []).length) : numOf (idsG g) ⟨(t : Int) + 1, (i : Int)⟩ = g.init.length + (evsT g t).length + i := by
 obtain ⟨r, hr⟩ := idsT_splitA g (t + 1) (g.th.length - (t + 1))
 rw [show t + 1 + (g.th.length - (t + 1)) = g.th.length by omega, idsT_succ] at hr
 have hl : (idsI g.init.length ++ idsT g t).length = g.init.length + (evsT g t).length := by rw [List.length_append, idsI_len, idsT_len]
 have e : idsG g = (idsI g.init.length ++ idsT g t) ++ (idsE t (g.th.getD t []).length ++ r) := by
  unfold idsG
  rw [hr]
  simp only [List.append_assoc]
 have hlen : g.init.length + (evsT g t).length + i < (idsG g).length := by
  rw [e, List.length_append, hl, List.length_append, idsE_len]; omega
 have h := numOf_at (idsG_nodup g) hlen
 have e2 : (idsG g).getD (g.init.length + (evsT g t).length + i) id0 = ⟨(t : Int) + 1, (i : Int)⟩ := by
  rw [e, List.getD_eq_getElem?_getD, List.getElem?_append_right (by omega), hl, Nat.add_sub_cancel_left, List.getElem?_append_left (by rw [idsE_len]; exact hi)]
  simp only [idsE, List.getElem?_map, List.getElem?_range hi, Option.map_some, Option.getD_some]
 rw [e2] at h
 exact h
theorem rnumT_ok (g : Gr) (hg : Rd g) (h : GOk g) (d : EId) (hd : d ∈ idsT g g.th.length) : Pure Try.prog γ false 9 [aGr g, aId d] (.i fun _ => (numOf (idsG g) d : Nat)) := by
 have ke := revent_ok (γ := γ) g hg d
 have kc := check14_ok (γ := γ) g hg
 rw [gcheck0 h] at kc
 have hs := h.short
 have hin := hs.init
 have hth := hs.th
 obtain ⟨h1, h2, h3, h4⟩ := idsT_mem.1 hd
 obtain ⟨t, ht⟩ : ∃ t : Nat, d.t = (t : Int) + 1 := ⟨(d.t - 1).toNat, by omega⟩
 obtain ⟨i, hi⟩ : ∃ i : Nat, d.i = (i : Int) := ⟨d.i.toNat, by omega⟩
 obtain rfl : d = ⟨(t : Int) + 1, (i : Int)⟩ := EId.ext' ht hi
 clear ht hi h1 h3
 have ht : t < g.th.length := by simp only at h2; omega
 have hi : i < (g.th.getD t []).length := by
  simp only at h4
  rw [show ((t : Int) + 1 - 1).toNat = t by omega] at h4
  omega
 clear h2 h4 hd
 have hq : (eventM g ⟨(t : Int) + 1, (i : Int)⟩).isSome = true := by rw [event_thread ht hi]; rfl
 rw [hq] at ke
 rw [num_atA ht hi]
 have hle := hs.at
 obtain ⟨V, hV⟩ : ∃ V : Nat → Nat, ∀ k, V k = g.init.length + (evsT g k).length := ⟨_, fun _ => rfl⟩
 have hV0 : V 0 = g.init.length := by rw [hV]; simp [evsT]
 have hVS : ∀ k, V (k + 1) = V k + (g.th.getD k []).length := fun k => by rw [hV, hV, evsT_succ, List.length_append]; omega
 have hVl : ∀ k, V k ≤ 6 + 14 * k := fun k => by have := evsT_len hs k; rw [hV]; omega
 rw [← hV t]
 clear hV
 generalize (eventM g ⟨(t : Int) + 1, (i : Int)⟩).getD ev0 = e at *
 refine Pure.go (ty := ty) ty_eq mo Try.func9 rfl Try.ntmps9 Try.results9 Try.call9 (by simp) fun P C CQ D W F E hF => ?_
 cbv
 repeat' (first
  |(refine E.c (SCalls.of_le (kc) ?_ ?_);(· (cbv;(try simp only [nc] at *);first|done|(simp;done)|(simp (disch:=(first|omega|(simp only [lnS];omega))) only [rdT,rdS,anT];first|done|omega|(refine ⟨?_,?_⟩<;>omega))|(simp (disch:=(first|omega|(simp only [lnS];omega))) [rdT,rdS];done)));cbv)
  |(refine E.c (SCalls.of_le (ke) ?_ ?_);(· (cbv;(try simp only [nc] at *);first|done|(simp;done)|(simp (disch:=(first|omega|(simp only [lnS];omega))) only [rdT,rdS,anT];first|done|omega|(refine ⟨?_,?_⟩<;>omega))|(simp (disch:=(first|omega|(simp only [lnS];omega))) [rdT,rdS];done)));cbv)
  |(refine ⟨fun _ h_s=>?_,fun _ h_s=>?_⟩<;>(cbv;(try simp only [nc] at *);try simp (disch:=(first|omega|(simp only [lnS];omega))) only [rdT,rdS,reduceCtorEq,trT] at h_s))
  |(refine hF ?_;intro _;clear hF)
  |(refine hF ?_;cbv;clear hF)
  |(refine ⟨fun _=>?_,?_⟩;(· ((try simp only [nc] at *);first|done|omega|exact ⟨by omega,rfl⟩|(simp (disch:=(first|omega|(simp only [lnS];omega))) only [rdT,rdS];first|done|omega|rfl|exact ⟨by omega,rfl⟩|(simp;done)|(simp;omega))|(intros;trivial)));(try (simp only [nc] at *));(try simp (disch:=(first|omega|(simp only [lnS];omega))) only [rdT,rdS]);(try cbv))
  | fail
 )
 ·exact absurd h_s (by simp)
 ·exfalso; ((try simp only [nc] at *); omega)
 refine E.loopS (ι:=Nat) (fun k=>k≤t) (fun k=>t - k) (fun k=>[(7,.i fun _=>((V k : Nat) : Int)),(8,.i fun _=>((k : Nat) : Int) + 1)]) (fun k h=>h) 0 (fun _=>by first|rfl|simp) (Nat.zero_le _) ?_ fun k hk I hI=>?_
 ·cbv; simp [hV0]
 cbv
 have e1 := hVS k
 have e2 := hVl k
 have e3 := hle k
 repeat' (first
  |(refine hI (k + 1) ?_ ?_ ?_;rotate_left 1;(· ((try simp only [nc] at *);omega));(cbv;clear hI;(try clear hF);(try simp only [nc] at *);(try simp (disch:=(first|omega|(simp only [lnS];omega))) only [rdT,rdS,anT]));rotate_left 1;(try ((try simp only [nc] at *);omega)))
  |(refine ⟨fun _ h_s=>?_,fun _ h_s=>?_⟩<;>(cbv;(try simp only [nc] at *);try simp (disch:=(first|omega|(simp only [lnS];omega))) only [rdT,rdS,reduceCtorEq,trT] at h_s))
  |(refine hF ?_;intro _;clear hF)
  |(refine hF ?_;cbv;clear hF)
  |(refine ⟨fun _=>?_,?_⟩;(· ((try simp only [nc] at *);first|done|omega|exact ⟨by omega,rfl⟩|(simp (disch:=(first|omega|(simp only [lnS];omega))) only [rdT,rdS];first|done|omega|rfl|exact ⟨by omega,rfl⟩|(simp;done)|(simp;omega))|(intros;trivial)));(try (simp only [nc] at *));(try simp (disch:=(first|omega|(simp only [lnS];omega))) only [rdT,rdS]);(try cbv))
  | fail
 )
 ·have hx : ((k : Int) + 1 - 1).toNat = k := by omega
  refine ⟨?_, by push_cast; rfl⟩
  rw [hx, w64_of (by omega) (by omega), e1]; push_cast; rfl
 ·have e : k = t := by ((try simp only [nc] at *); omega)
  subst e
  rw [w64_of (by omega) (by omega)]; push_cast; rfl
theorem rnum0_ok (g : Gr) (hg : Rd g) (h : GOk g) (k : Nat) (hk : k < g.init.length) : Pure Try.prog γ false 9 [aGr g, aId ⟨0, k⟩] (.i fun _ => (k : Nat)) := by
 have ke := revent_ok (γ := γ) g hg ⟨0, k⟩
 have kc := check14_ok (γ := γ) g hg
 rw [gcheck0 h] at kc
 have hq : (eventM g ⟨0, k⟩).isSome = true := by
  unfold eventM
  rw [if_pos rfl, if_pos ⟨by simp only; omega, by simp only; omega⟩]; rfl
 rw [hq] at ke
 generalize (eventM g ⟨0, k⟩).getD ev0 = e at *
 refine Pure.go (ty := ty) ty_eq mo Try.func9 rfl Try.ntmps9 Try.results9 Try.call9 (by simp) fun P C CQ D W F E hF => ?_
 cbv
 repeat' (first
  |(refine E.c (SCalls.of_le (kc) ?_ ?_);(· (cbv;(try simp only [nc] at *);first|done|(simp;done)|(simp (disch:=(first|omega|(simp only [lnS];omega))) only [rdT,rdS,anT];first|done|omega|(refine ⟨?_,?_⟩<;>omega))|(simp (disch:=(first|omega|(simp only [lnS];omega))) [rdT,rdS];done)));cbv)
  |(refine E.c (SCalls.of_le (ke) ?_ ?_);(· (cbv;(try simp only [nc] at *);first|done|(simp;done)|(simp (disch:=(first|omega|(simp only [lnS];omega))) only [rdT,rdS,anT];first|done|omega|(refine ⟨?_,?_⟩<;>omega))|(simp (disch:=(first|omega|(simp only [lnS];omega))) [rdT,rdS];done)));cbv)
  |(refine ⟨fun _ h_s=>?_,fun _ h_s=>?_⟩<;>(cbv;(try simp only [nc] at *);try simp (disch:=(first|omega|(simp only [lnS];omega))) only [rdT,rdS,reduceCtorEq,trT] at h_s))
  |(refine hF ?_;intro _;clear hF)
  |(refine hF ?_;cbv;clear hF)
  |(refine ⟨fun _=>?_,?_⟩;(· ((try simp only [nc] at *);first|done|omega|exact ⟨by omega,rfl⟩|(simp (disch:=(first|omega|(simp only [lnS];omega))) only [rdT,rdS];first|done|omega|rfl|exact ⟨by omega,rfl⟩|(simp;done)|(simp;omega))|(intros;trivial)));(try (simp only [nc] at *));(try simp (disch:=(first|omega|(simp only [lnS];omega))) only [rdT,rdS]);(try cbv))
  | fail
 )
 all_goals first
  | rfl
  | exact absurd h_s (by simp)
  | (exfalso; ((try simp only [nc] at *); omega))
theorem num0 {g : Gr} {k : Nat} (hk : k < g.init.length) : numOf (idsG g) ⟨0, k⟩ = k := by
 have h := numOf_at (idsG_nodup g) (k := k) (by unfold idsG; rw [List.length_append, idsI_len]; omega)
 rwa [idx_lo hk] at h
theorem rnumA_ok (g : Gr) (h : GOk g) (d : EId) (hd : d ∈ idsG g) : Pure Try.prog γ false 9 [aGr g, aId d] (.i fun _ => (numOf (idsG g) d : Nat)) := by
 unfold idsG at hd
 rw [List.mem_append] at hd
 rcases hd with hd | hd
 ·obtain ⟨h0, h1, h2⟩ := idsI_mem.1 hd
  obtain ⟨k, hk⟩ : ∃ k : Nat, d.i = k := ⟨d.i.toNat, by omega⟩
  obtain rfl : d = ⟨0, k⟩ := EId.ext' h0 hk
  simp only at h2
  rw [num0 (by omega)]
  exact rnum0_ok g (rd_short h) h k (by omega)
 ·exact rnumT_ok g (rd_short h) h d hd
end Go.AL.Rl
