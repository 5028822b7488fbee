import Derived.Test.YtjcioienjlonmaaMo6
import Derived.OpenShut
import Derived.ReadAgain
import Derived.Deep.DeepHandedRow
import Derived.Lib.LaidTab
import Derived.ProofKit
import Derived.Test.YtjcioienjlonmaaRows
set_option linter.unusedVariables false
set_option linter.unusedSimpArgs false
namespace Go.AL
open Go Go.RowKit Go.ChangeShapes Go.WideShapes

section
variable {H : Type} {enc : TypeId × Value → H} {P : Program} {w : World} {spare : Nat → Bool} {held : Bool}

abbrev Old (w : World) : Nat → Prop := fun k => k < w.heap.size

/-- Whatever reads by the type 't' is told by an 'a'. -/
def Dec (P : Program) (t : TypeId) (α : Type) (en : α → List AV) (ok : α → Prop) : Prop :=
 ∀ {H : Type} (enc : TypeId × Value → H) (w : World) (spare : Nat → Bool) (held : Bool) (fuel : Nat) (cs : List Value) (x : DataW H × List MemPlace),
  DataW.trod enc P w 0 spare held fuel t cs = some x → ∃ a, ok a ∧ Rs (Old w) w none (en a) cs

theorem Dec.int {t : TypeId} (ht : P.underlying t = some (.int .i64)) : Dec P t Int (fun n => [.i fun _ => n]) fun n => -9223372036854775808 ≤ n ∧ n ≤ 9223372036854775807 := by
 intro H enc w spare held fuel cs x h
 obtain ⟨n, rfl, _, h2⟩ := DataW.trod_int ht h
 exact ⟨n, bounds_i64 h2, _, _, rfl, rfl, rfl⟩
theorem Dec.u64 {t : TypeId} (ht : P.underlying t = some (.int .u64)) : Dec P t (BitVec 64) (fun n => [.u fun _ => n]) fun _ => True := by
 intro H enc w spare held fuel cs x h
 obtain ⟨n, rfl, _, h2⟩ := DataW.trod_int ht h
 have := bounds_u64 h2
 refine ⟨BitVec.ofInt 64 n, trivial, _, _, rfl, ?_, rfl⟩
 simp only [R]
 congr 1
 simp only [BitVec.toNat_ofInt]
 omega
theorem Dec.bool {t : TypeId} (ht : P.underlying t = some .bool) : Dec P t Bool (fun b => [.b fun _ => b]) fun _ => True := by
 intro H enc w spare held fuel cs x h
 obtain ⟨b, rfl, _⟩ := DataW.trod_bool ht h
 exact ⟨b, trivial, _, _, rfl, rfl, rfl⟩

theorem cells?_get {w : World} {a : Addr} {n : Nat} {cs : List Value} (h : w.cells? 0 a n = some cs) : cs.length = n ∧ ∀ (i : Nat) (c : Value), cs[i]? = some c → w.cell? (a.add i) = some c := by
 simp only [World.cells?, Nat.zero_le, if_true] at h
 have hl : cs.length = n := by have := mapM_some_length h; simpa using this
 refine ⟨hl, fun i c hc => ?_⟩
 have hi : i < n := by have := (List.getElem?_eq_some_iff.1 hc).1; omega
 rw [mapM_some_get h i i (by simp [hi])]; exact hc

theorem list_of_all {α β : Type} {R' : α → β → Prop} : ∀ (l : List β), (∀ b ∈ l, ∃ a, R' a b) → ∃ r : List α, r.length = l.length ∧ ∀ (i : Nat) (a : α) (b : β), r[i]? = some a → l[i]? = some b → R' a b
 | [], _ => ⟨[], rfl, fun i a b h => by simp at h⟩
 | b :: l, h => by
  obtain ⟨a, ha⟩ := h b (by simp)
  obtain ⟨r, h1, h2⟩ := list_of_all l fun b hb => h b (by simp [hb])
  refine ⟨a :: r, by simp [h1], fun i a' b' ha' hb' => ?_⟩
  cases i with
  | zero => simp at ha' hb'; subst ha'; subst hb'; exact ha
  | succ i => exact h2 i a' b' (by simpa using ha') (by simpa using hb')

/-- the elements' values: 'mk' is '.agg' or the one cell -/
structure Elem (mk : List AV → AV) (k : Nat) : Prop where
 val : ∀ {S : Nat → Prop} {w : World} {l : List AV} {cs : List Value}, cs.length = k → l.all AV.one = true → Rs S w none l cs → ∃ v, v.cells.toList = cs ∧ R S w none (mk l) v
theorem Elem.agg (k : Nat) : Elem .agg k := ⟨fun {S w l cs} _ _ h => ⟨.agg cs.toArray, by simp [Value.cells], cs, rfl, h⟩⟩
theorem Elem.one : Elem (fun l => l.headD .any) 1 := ⟨fun {S w l cs} hl h1 h => by
 match cs, hl with
 | [c], _ =>
  match l, h with
  | x :: _, ⟨v, _, e, hx, hr⟩ =>
   cases e
   simp only [List.all_cons, Bool.and_eq_true] at h1
   exact ⟨c, by rw [cells_of_one (R_one hx h1.1)], hx⟩⟩

theorem Dec.slice {t e : TypeId} (ht : P.underlying t = some (.slice e)) {k : Nat} (hk : P.cellsOf e = k) (hk0 : 0 < k) {α : Type} {en : α → List AV} {ok : α → Prop} {mk : List AV → AV} (he : Dec P e α en ok) (hone : ∀ a, (en a).all AV.one = true) (hm : Elem mk k) :
  Dec P t (List α) (fun l => [.vs k fun _ => LV.of (l.map fun a => mk (en a))]) fun l => l.length ≤ maxLen ∧ ∀ a ∈ l, ok a := by
 subst hk
 intro H enc w spare held fuel cs x h
 rcases DataW.trod_slice ht h with ⟨rfl, _⟩ | ⟨a, len, cap, elems, rest, n, rfl, rfl, rfl, _, h2, h3, h4, h5, _⟩
 ·exact ⟨[], ⟨by simp, by simp⟩, _, _, rfl, ⟨none, 0, [], rfl, Nat.le_refl _, rfl, .inl rfl⟩, rfl⟩
 ·have key : ∀ i : Nat, i < len → ∃ (c : List Value) (a' : α), w.cells? 0 (a.add (i * P.cellsOf e)) (P.cellsOf e) = some c ∧ ok a' ∧ Rs (Old w) w none (en a') c := by
   intro i hi
   have := h5 i hi
   rw [List.getElem?_eq_getElem (by omega)] at this
   simp only [Option.bind_eq_some_iff] at this
   obtain ⟨c, hc, hd⟩ := this
   obtain ⟨a', ha, hr⟩ := he _ _ _ _ _ _ _ hd
   exact ⟨c, a', hc, ha, hr⟩
  have hlist := list_of_all (R' := fun (q : α × Value) (i : Nat) => ok q.1 ∧ q.2.cells.size = P.cellsOf e ∧ (∀ (j : Nat) (c : Value), q.2.cells[j]? = some c → w.cell? ((a.add (i * P.cellsOf e)).add j) = some c) ∧ R (Old w) w none (mk (en q.1)) q.2) (List.range len) fun i hi => by
   obtain ⟨c, a', hc, ha, hr⟩ := key i (by simpa using hi)
   obtain ⟨hl, hg⟩ := cells?_get hc
   obtain ⟨v, hv, hr'⟩ := hm.val hl (hone a') hr
   refine ⟨(a', v), ha, by rw [← Array.length_toList, hv]; exact hl, fun j c' hj => hg j c' ?_, hr'⟩
   rw [← hv]; simpa using hj
  obtain ⟨qs, hq1, hq2⟩ := hlist
  rw [List.length_range] at hq1
  have hq : ∀ (i : Nat) (q : α × Value), qs[i]? = some q → ok q.1 ∧ q.2.cells.size = P.cellsOf e ∧ (∀ (j : Nat) (c : Value), q.2.cells[j]? = some c → w.cell? ((a.add (i * P.cellsOf e)).add j) = some c) ∧ R (Old w) w none (mk (en q.1)) q.2 := fun i q hi =>
   hq2 i q i hi (by
    have := (List.getElem?_eq_some_iff.1 hi).1
    rw [List.getElem?_range (by omega)])
  refine ⟨qs.map (·.1), ⟨by simp; omega, fun a' ha' => ?_⟩, _, _, rfl, ⟨some a, cap, qs.map (·.2), by simp [hq1], by simp; omega, ?_, ?_⟩, rfl⟩
  ·obtain ⟨q, hqm, rfl⟩ := List.mem_map.1 ha'
   obtain ⟨i, hi, rfl⟩ := List.mem_iff_getElem.1 hqm
   exact (hq i _ (List.getElem?_eq_getElem hi)).1
  ·rw [RL_iff, LV.l_of, Rs_iff]
   refine ⟨by simp, fun i c v hc hv => ?_⟩
   simp only [List.map_map, List.getElem?_map, Option.map_eq_some_iff] at hc hv
   obtain ⟨q, hq', rfl⟩ := hc
   obtain ⟨q', hq'', rfl⟩ := hv
   rw [hq'] at hq''; cases hq''
   exact (hq i q hq').2.2.2
  ·cases hqs : qs with
   | nil => exact .inl rfl
   | cons q0 qr =>
    right
    have hlen : 0 < len := by rw [← hq1, hqs]; simp
    obtain ⟨_, hsz, hcell, _⟩ := hq 0 q0 (by rw [hqs]; rfl)
    have hc0 : ∃ c, q0.2.cells[0]? = some c := ⟨_, Array.getElem?_eq_getElem (by omega)⟩
    obtain ⟨c, hc⟩ := hc0
    have hw := hcell 0 c hc
    have ha0 : a.spot = none ∧ a.block < w.heap.size := by
     simp only [Nat.zero_mul, Addr.add, if_true] at hw
     unfold World.cell? at hw
     split at hw
     ·rename_i hb
      split at hw
      ·cases hw
      ·rename_i hs
       exact ⟨by simpa using hs, (Array.getElem?_eq_some_iff.1 hb).1⟩
     ·cases hw
    refine ⟨a, rfl, ha0.1, ha0.2, fun i ev hi => ?_⟩
    rw [← hqs] at hi
    simp only [List.getElem?_map, Option.map_eq_some_iff] at hi
    obtain ⟨q, hq', rfl⟩ := hi
    obtain ⟨_, h1, h2, _⟩ := hq i q hq'
    refine ⟨h1, fun j c hj => ?_⟩
    have := h2 j c hj
    have ea : (a.add (i * P.cellsOf e)).add j = ⟨a.block, a.off + (i * P.cellsOf e + j), none⟩ := by
     obtain ⟨b, o, s⟩ := a
     simp only at ha0
     obtain ⟨rfl, _⟩ := ha0
     simp only [Addr.add]
     by_cases h0 : i * P.cellsOf e = 0 <;> by_cases h1 : j = 0 <;> simp [h0, h1] <;> omega
    rw [← ea]; exact this

/-- fields, one behind the other -/
theorem Dec.fields {t : TypeId} {fs : List Field} {a : Array Field} (ht : P.underlying t = some (.struct a)) (hfs : a.toList = fs) {α : Type} {en : α → List AV} {ok : α → Prop}
  (h : ∀ {H : Type} (enc : TypeId × Value → H) (w : World) (spare : Nat → Bool) (held : Bool) (n : Nat) (cs : List Value), cs.length = P.cellsOf t →
   (∀ f ∈ fs, ∃ x, DataW.trod enc P w 0 spare held n f.type ((cs.drop f.offset).take (P.cellsOf f.type)) = some x) → ∃ a, ok a ∧ Rs (Old w) w none (en a) cs) : Dec P t α en ok := by
 intro H enc w spare held fuel cs x hx
 obtain ⟨xs, n, rfl, rfl, h1, h2, h3⟩ := DataW.trod_struct ht hx
 refine h enc w spare held n cs h1 fun f hf => ?_
 rw [← hfs] at hf
 obtain ⟨i, hi, rfl⟩ := List.mem_iff_getElem.1 hf
 have hi' : i < a.size := by simpa using hi
 have := h3 i a[i] (Array.getElem?_eq_getElem hi')
 rw [List.getElem?_eq_getElem (by omega)] at this
 exact ⟨_, by simpa using this⟩
theorem cut3 (cs : List Value) (o s n : Nat) (h : cs.length = n) (ho : o + s = n) : cs = cs.take o ++ (cs.drop o).take s := by
 have : (cs.drop o).take s = cs.drop o := List.take_of_length_le (by simp; omega)
 rw [this, List.take_append_drop]

theorem Dec.struct2 {t : TypeId} {a : Array Field} (ht : P.underlying t = some (.struct a)) {t0 t1 : TypeId} {s0 s1 : Nat} (hfs : a.toList.map (fun f => (f.type, f.offset)) = [(t0, 0), (t1, s0)]) (h0 : P.cellsOf t0 = s0) (h1 : P.cellsOf t1 = s1) (hs : P.cellsOf t = s0 + s1)
  {α β : Type} {e0 : α → List AV} {e1 : β → List AV} {k0 : α → Prop} {k1 : β → Prop} (d0 : Dec P t0 α e0 k0) (d1 : Dec P t1 β e1 k1) : Dec P t (α × β) (fun p => e0 p.1 ++ e1 p.2) fun p => k0 p.1 ∧ k1 p.2 := by
 refine Dec.fields ht rfl fun {H} enc w spare held n cs hl hf => ?_
 have get : ∀ t o, (t, o) ∈ a.toList.map (fun f => (f.type, f.offset)) → ∃ x, DataW.trod enc P w 0 spare held n t ((cs.drop o).take (P.cellsOf t)) = some x := fun t o hm => by
  obtain ⟨f, hf1, hf2⟩ := List.mem_map.1 hm
  cases hf2
  exact hf f hf1
 rw [hfs] at get
 obtain ⟨x0, g0⟩ := get t0 0 (by simp)
 obtain ⟨x1, g1⟩ := get t1 s0 (by simp)
 obtain ⟨a0, o0, r0⟩ := d0 _ _ _ _ _ _ _ g0
 obtain ⟨a1, o1, r1⟩ := d1 _ _ _ _ _ _ _ g1
 refine ⟨(a0, a1), ⟨o0, o1⟩, ?_⟩
 rw [cut3 cs s0 s1 _ (hl.trans hs) rfl]
 rw [h0] at r0; rw [h1] at r1
 exact Rs_append (by simpa using r0) r1

theorem trodAll_len {W : World} {b : Nat} : ∀ {ts : List TypeId} {vs : List Value} {ds : List (DataW H)} {p : List MemPlace}, DataW.TrodAll enc P W b spare held ts vs ds p → ds.length = ts.length
 | [], [], [], _, _ => rfl
 | _ :: _, _ :: _, _ :: _, _, ⟨_, _, _, h, _⟩ => by simp [trodAll_len h]
 | [], [], _ :: _, _, h => h.elim
 | [], _ :: _, _, _, h => h.elim
 | _ :: _, [], _, _, h => h.elim
 | _ :: _, _ :: _, [], _, h => h.elim
theorem trodAll_carry {W W' : World} (hq : ∀ k, k < W.heap.size → W'.heap[k]? = W.heap[k]?) : ∀ {ts : List TypeId} {vs : List Value} {ds : List (DataW H)} {p : List MemPlace},
  DataW.TrodAll enc P W 0 spare held ts vs ds p → (∀ p' ∈ p, p'.block < W.heap.size) → DataW.TrodAll enc P W' 0 spare held ts vs ds p
 | [], [], [], _, h, _ => h
 | _ :: _, _ :: _, _ :: _, _, ⟨p0, q0, ⟨n, h1⟩, h2, e⟩, lt => by
  subst e
  refine ⟨p0, q0, ⟨n, DataW.trod_carry _ _ _ _ h1 fun pl hpl => ?_⟩, trodAll_carry hq h2 fun p' hp => lt p' (List.mem_append_right _ hp), rfl⟩
  have hlt := lt pl (List.mem_append_left _ hpl)
  cases pl with
  | cell b off => exact World.cell?_of_block (hq b hlt)
  | map b => exact hq b hlt
 | [], [], _ :: _, _, h, _ => h.elim
 | [], _ :: _, _, _, h, _ => h.elim
 | _ :: _, [], _, _, h, _ => h.elim
 | _ :: _, _ :: _, [], _, h, _ => h.elim
theorem post_true {H : Type} {enc : TypeId × Value → H} {f : Func} {s : ChangeSpec} {W W' : World} {args : Array Value} {ds gs : List (DataW H)} {before : List MemPlace} {tb : TypeId}
  (hW : DataW.Whole enc P f.params.toList s.vars false W args.toList ds gs before) (hv : s.vars = []) (hres : f.resultTypes = #[tb]) (htb : P.underlying tb = some .bool)
  (hs : ∀ ds' : List (DataW H), ds'.length = f.params.size → s.fn H ds' = { results := [.lit (.bool true)], args := ds' })
  (hl : laidOutB P = true) (hm : mapsRowed P = true) (hz : ((List.range P.types.size).all fun t => match P.underlying t with | some (.slice e) => decide (0 < P.cellsOf e) | _ => true) = true) (hT : ∀ t ∈ f.params.toList, t < P.types.size)
  (hq : ∀ k, k < W.heap.size → W'.heap[k]? = W.heap[k]?) (fr : Fr W W') : s.post enc P f false true false false W args (.bool true) W' := by
 have hW' := hW
 obtain ⟨p, q, hA, hV, rfl, hfz, hnd⟩ := hW
 rw [hv] at hV
 obtain ⟨rfl, rfl⟩ := trodVars_none hV
 have hlen : ds.length = f.params.size := by have := trodAll_len hA; simpa using this
 have hsd := hs (ds ++ []) (by simpa using hlen)
 have hall : ∀ (b : Nat) (sp : Nat → Bool) (hd : Bool), DataW.TrodAll enc P W' b sp hd [tb] [.bool true] [.lit (.bool true)] [] := fun b sp hd => ⟨[], [], ⟨1, by simp [DataW.trod, htb, Value.cells]⟩, rfl, rfl⟩
 have carry : DataW.TrodAll enc P W' 0 (fun _ => true) true f.params.toList args.toList ds p := trodAll_carry hq hA fun p' hp => hW'.lt p' (by simpa using hp)
 have hargs : ∀ sp : Nat → Bool, (∀ x ∈ p, sp x.block = true) → DataW.TrodAll enc P W' 0 sp true f.params.toList args.toList (s.fn H (ds ++ [])).args p := fun sp hsp => by
  rw [hsd]
  simp only [List.append_nil]
  exact carry.respare (kids_rows hl hm) (fun t e ht hu => slices_full_of P hz t e ht hu) hT hsp
 have hvars : ∀ sp : Nat → Bool, DataW.TrodVars enc P W' sp s.vars (s.fn H (ds ++ [])).vars [] := fun sp => by rw [hsd, hv]; rfl
 have hlt : ∀ x ∈ p, x.block < W.heap.size := fun x hx => hW'.lt x (by simpa using hx)
 have hkept : W.keptBut W' (· ∈ p) := by
  refine ⟨fr.os, fr.output, fun i hi => ?_⟩
  rw [hq i hi]
  cases h : W.heap[i]? with
  | none => trivial
  | some o => cases o <;> simp
 have hres' : ∀ (b : Nat) (sp : Nat → Bool) (hd : Bool), DataW.TrodAll enc P W' b sp hd f.resultTypes.toList ((Value.bool true).resultList f.resultTypes.size) (s.fn H (ds ++ [])).results [] := fun b sp hd => by rw [hsd, hres]; exact hall b sp hd
 have h2 := hargs (fun _ => true) fun _ _ => rfl
 have hW3 : DataW.Whole enc P f.params.toList s.vars false W args.toList ds [] p := by simpa using hW'
 refine ⟨ds, [], p, [], p, [], hW3, hres' _ _ _, hargs (fun b => decide (b < W.heap.size)) fun x hx => decide_eq_true (hlt x hx), hvars _, World.keptBut_mono (fun x hx => ⟨hx, .inr (.inl hx)⟩) hkept, fun _ => ?_⟩
 obtain ⟨_, _, _, _, _, z, n⟩ := hW3
 refine ⟨ok_one hres rfl (okWide_bool_mk htb _), _, _, p, ⟨p, [], trodAll_append h2 (hres' _ _ _), hvars (fun _ => true), (List.append_nil p).symm, fun b off hp => (fr.frozen ⟨b, off, none⟩ (hlt _ hp)).trans (z b off hp), fun h => absurd h (by simp)⟩, fun x hx _ => by simpa using hx⟩

def Arg (P : Program) (t : TypeId) (α : Type) (en : α → AV) (ok : α → Prop) : Prop :=
 ∀ {H : Type} (enc : TypeId × Value → H) (W : World) (base : Nat) (v : Value) (d : DataW H) (p : List MemPlace), Value.okWide P W .any base t v → DataW.Trod enc P W 0 (fun _ => true) true t v d p → ∃ a, ok a ∧ R (Old W) W none (en a) v
theorem Arg.agg {t : TypeId} {a : Array Field} (ht : P.underlying t = some (.struct a)) {α : Type} {en : α → List AV} {ok : α → Prop} (h : Dec P t α en ok) : Arg P t α (fun a => .agg (en a)) ok := by
 intro H enc W base v d p hok ⟨n, hn⟩
 simp only [Value.okWide, ht] at hok
 obtain ⟨cs, rfl, _⟩ := hok
 obtain ⟨x, h1, h2⟩ := h _ _ _ _ _ _ _ hn
 exact ⟨x, h1, cs.toList, by simp, by simpa [Value.cells] using h2⟩
theorem Arg.one {t : TypeId} {k : TypeDesc} (ht : P.underlying t = some k) (hk : match k with | .int _ | .bool | .slice _ => True | _ => False) {α : Type} {en : α → AV} {ok : α → Prop} (h : Dec P t α (fun a => [en a]) ok) : Arg P t α en ok := by
 intro H enc W base v d p hok ⟨n, hn⟩
 obtain ⟨x, h1, y, ys, h2, h3, h4⟩ := h _ _ _ _ _ _ _ hn
 have h4 : ys = [] := h4
 subst h4
 have hv : v = y := by
  cases v
  case agg cs => cases k <;> first | exact hk.elim | simp [Value.okWide, ht, Cell.okWide, Cell.ok] at hok
  all_goals (simp [Value.cells] at h2; exact h2)
 subst hv
 exact ⟨x, h1, h3⟩

/-- A LAW, from its contract. -/
theorem law_true {γ : Nat → Option AV} {f : FuncId} {fn : Func} {s : ChangeSpec} {W : World} {args : Array Value} {ds gs : List (DataW H)} {before : List MemPlace} {tb : TypeId} {avs : List AV} (hp : Pure P γ false f avs (.b fun _ => true)) (hr : Rs (Old W) W none avs args.toList)
  (hγ : ∀ g x, γ g = some x → R (Old W) W none (.vp (fun _ => x) 0) (.pointer (some ⟨g, 0, none⟩)))
  (hW : DataW.Whole enc P fn.params.toList s.vars false W args.toList ds gs before) (hv : s.vars = []) (hres : fn.resultTypes = #[tb]) (htb : P.underlying tb = some .bool)
  (hs : ∀ ds' : List (DataW H), ds'.length = fn.params.size → s.fn H ds' = { results := [.lit (.bool true)], args := ds' })
  (hl : laidOutB P = true) (hm : mapsRowed P = true) (hz : ((List.range P.types.size).all fun t => match P.underlying t with | some (.slice e) => decide (0 < P.cellsOf e) | _ => true) = true) (hT : ∀ t ∈ fn.params.toList, t < P.types.size) :
  Calls P f args W fun e W' => ∃ v, e = .returned v ∧ s.post enc P fn false true false false W args v W' := by
 have := hp.2 (Old W) W args.toList (fun k hk => hk) hγ hr
 refine (this.mono fun e w' ⟨v', S', h1, h2, h3⟩ => ?_)
 have h2 : v' = .bool true := h2
 subst h2
 exact ⟨_, h1, post_true hW hv hres htb hs hl hm hz hT h3.same h3.fr⟩
end
end Go.AL

namespace Go.AL
open Go Go.RowKit Go.ChangeShapes Go.WideShapes
section
variable {P : Program}
theorem Dec.imap {t : TypeId} {α β : Type} {en : α → List AV} {ok : α → Prop} {en' : β → List AV} {ok' : β → Prop} (d : Dec P t α en ok) (f : α → β) (he : ∀ a, en a = en' (f a)) (hk : ∀ a, ok a → ok' (f a)) : Dec P t β en' ok' := by
 intro H enc w spare held fuel cs x h
 obtain ⟨a, h1, h2⟩ := d _ _ _ _ _ _ _ h
 exact ⟨f a, hk a h1, by rw [← he]; exact h2⟩
theorem Dec.struct4 {t : TypeId} {a : Array Field} (ht : P.underlying t = some (.struct a)) {t0 t1 t2 t3 : TypeId} (hfs : a.toList.map (fun f => (f.type, f.offset)) = [(t0, 0), (t1, 1), (t2, 2), (t3, 3)])
  (h0 : P.cellsOf t0 = 1) (h1 : P.cellsOf t1 = 1) (h2 : P.cellsOf t2 = 1) (h3 : P.cellsOf t3 = 1) (hs : P.cellsOf t = 4)
  {A0 A1 A2 A3 : Type} {e0 : A0 → List AV} {e1 : A1 → List AV} {e2 : A2 → List AV} {e3 : A3 → List AV} {k0 : A0 → Prop} {k1 : A1 → Prop} {k2 : A2 → Prop} {k3 : A3 → Prop}
  (d0 : Dec P t0 A0 e0 k0) (d1 : Dec P t1 A1 e1 k1) (d2 : Dec P t2 A2 e2 k2) (d3 : Dec P t3 A3 e3 k3) :
  Dec P t (A0 × A1 × A2 × A3) (fun p => e0 p.1 ++ (e1 p.2.1 ++ (e2 p.2.2.1 ++ e3 p.2.2.2))) fun p => k0 p.1 ∧ k1 p.2.1 ∧ k2 p.2.2.1 ∧ k3 p.2.2.2 := by
 refine Dec.fields ht rfl fun {H} enc w spare held n cs hl hf => ?_
 have get : ∀ t o, (t, o) ∈ a.toList.map (fun f => (f.type, f.offset)) → ∃ x, DataW.trod enc P w 0 spare held n t ((cs.drop o).take (P.cellsOf t)) = some x := fun t o hm => by
  obtain ⟨f, hf1, hf2⟩ := List.mem_map.1 hm
  cases hf2
  exact hf f hf1
 rw [hfs] at get
 rw [hs] at hl
 match cs, hl with
 | [c0, c1, c2, c3], _ =>
  obtain ⟨x0, g0⟩ := get t0 0 (by simp)
  obtain ⟨x1, g1⟩ := get t1 1 (by simp)
  obtain ⟨x2, g2⟩ := get t2 2 (by simp)
  obtain ⟨x3, g3⟩ := get t3 3 (by simp)
  obtain ⟨a0, o0, r0⟩ := d0 _ _ _ _ _ _ _ g0
  obtain ⟨a1, o1, r1⟩ := d1 _ _ _ _ _ _ _ g1
  obtain ⟨a2, o2, r2⟩ := d2 _ _ _ _ _ _ _ g2
  obtain ⟨a3, o3, r3⟩ := d3 _ _ _ _ _ _ _ g3
  rw [h0] at r0; rw [h1] at r1; rw [h2] at r2; rw [h3] at r3
  exact ⟨(a0, a1, a2, a3), ⟨o0, o1, o2, o3⟩, Rs_append (vals := [c0]) r0 (Rs_append (vals := [c1]) r1 (Rs_append (vals := [c2]) r2 r3))⟩
theorem Dec.struct5 {t : TypeId} {a : Array Field} (ht : P.underlying t = some (.struct a)) {e f : TypeId} (hfs : a.toList.map (fun f => (f.type, f.offset)) = [(e, 0), (e, 1), (e, 2), (f, 3), (f, 4)])
  (h0 : P.cellsOf e = 1) (h1 : P.cellsOf f = 1) (hs : P.cellsOf t = 5) {A0 : Type} {e0 : A0 → List AV} {k0 : A0 → Prop} (d0 : Dec P e A0 e0 k0) (d1 : Dec P f A0 e0 k0) :
  Dec P t (A0 × A0 × A0 × A0 × A0) (fun p => e0 p.1 ++ (e0 p.2.1 ++ (e0 p.2.2.1 ++ (e0 p.2.2.2.1 ++ e0 p.2.2.2.2)))) fun p => k0 p.1 ∧ k0 p.2.1 ∧ k0 p.2.2.1 ∧ k0 p.2.2.2.1 ∧ k0 p.2.2.2.2 := by
 refine Dec.fields ht rfl fun {H} enc w spare held n cs hl hf => ?_
 have get : ∀ t o, (t, o) ∈ a.toList.map (fun f => (f.type, f.offset)) → ∃ x, DataW.trod enc P w 0 spare held n t ((cs.drop o).take (P.cellsOf t)) = some x := fun t o hm => by
  obtain ⟨f, hf1, hf2⟩ := List.mem_map.1 hm
  cases hf2
  exact hf f hf1
 rw [hfs] at get
 rw [hs] at hl
 match cs, hl with
 | [c0, c1, c2, c3, c4], _ =>
  obtain ⟨x0, g0⟩ := get e 0 (by simp)
  obtain ⟨x1, g1⟩ := get e 1 (by simp)
  obtain ⟨x2, g2⟩ := get e 2 (by simp)
  obtain ⟨x3, g3⟩ := get f 3 (by simp)
  obtain ⟨x4, g4⟩ := get f 4 (by simp)
  obtain ⟨a0, o0, r0⟩ := d0 _ _ _ _ _ _ _ g0
  obtain ⟨a1, o1, r1⟩ := d0 _ _ _ _ _ _ _ g1
  obtain ⟨a2, o2, r2⟩ := d0 _ _ _ _ _ _ _ g2
  obtain ⟨a3, o3, r3⟩ := d1 _ _ _ _ _ _ _ g3
  obtain ⟨a4, o4, r4⟩ := d1 _ _ _ _ _ _ _ g4
  rw [h0] at r0 r1 r2; rw [h1] at r3 r4
  exact ⟨(a0, a1, a2, a3, a4), ⟨o0, o1, o2, o3, o4⟩, Rs_append (vals := [c0]) r0 (Rs_append (vals := [c1]) r1 (Rs_append (vals := [c2]) r2 (Rs_append (vals := [c3]) r3 r4)))⟩
end
end Go.AL

namespace Go.AL.Rl
open Go Go.AL Go.Proofs Go.RowKit Go.ChangeShapes Go.WideShapes Go.ChangeAt Go.Proofs.Ytjcioienjlonmaa
set_option maxRecDepth 100000

theorem laidOut : laidOutB Try.prog = true := by kernel_rfl
theorem mapsOk : mapsRowed Try.prog = true := by kernel_rfl
theorem slicesOk : ((List.range Try.prog.types.size).all fun t => match Try.prog.underlying t with | some (.slice e) => decide (0 < Try.prog.cellsOf e) | _ => true) = true := by kernel_rfl
theorem own : ownKnob Try.prog.godebug = none := by kernel_rfl
def γ0 : Nat → Option AV := fun _ => none
theorem gok0 {W : World} : ∀ g x, γ0 g = some x → R (Old W) W none (.vp (fun _ => x) 0) (.pointer (some ⟨g, 0, none⟩)) := fun g x h => by cases h
theorem dInts : Dec Try.prog 22 (List Int) (fun l => [.vs 1 fun _ => is l]) fun l => l.length ≤ maxLen :=
 Dec.imap (Dec.slice Try.underlying22 (k := 1) (by kernel_rfl) (by omega) (Dec.int Try.underlying2) (fun _ => rfl) Elem.one) id (fun _ => rfl) fun _ h => h.1
theorem dEv : Dec Try.prog 40 Ev (fun e => [.i fun _ => e.kind, .i fun _ => e.loc, .i fun _ => e.order, .i fun _ => e.rd, .i fun _ => e.wr]) fun _ => True :=
 Dec.imap (Dec.struct5 Try.underlying40 (e := 3) (f := 2) (by kernel_rfl) (by kernel_rfl) (by kernel_rfl) (by kernel_rfl) (Dec.int Try.underlying3) (Dec.int Try.underlying2)) (fun p => ⟨p.1, p.2.1, p.2.2.1, p.2.2.2.1, p.2.2.2.2⟩) (fun _ => rfl) fun _ _ => trivial
theorem dId : Dec Try.prog 35 EId (fun e => [.i fun _ => e.t, .i fun _ => e.i]) fun _ => True :=
 Dec.imap (Dec.struct2 Try.underlying35 (t0 := 3) (t1 := 3) (s0 := 1) (s1 := 1) (by kernel_rfl) (by kernel_rfl) (by kernel_rfl) (by kernel_rfl) (Dec.int Try.underlying3) (Dec.int Try.underlying3)) (fun p => ⟨p.1, p.2⟩) (fun _ => rfl) fun _ _ => trivial
theorem dEvs : Dec Try.prog 41 (List Ev) (fun l => [.vs 5 fun _ => evs l]) fun l => l.length ≤ maxLen :=
 Dec.imap (Dec.slice Try.underlying41 (k := 5) (by kernel_rfl) (by omega) dEv (fun _ => rfl) (Elem.agg 5)) id (fun _ => rfl) fun _ h => h.1
theorem dIds : Dec Try.prog 47 (List EId) (fun l => [.vs 2 fun _ => ids l]) fun l => l.length ≤ maxLen :=
 Dec.imap (Dec.slice Try.underlying47 (k := 2) (by kernel_rfl) (by omega) dId (fun _ => rfl) (Elem.agg 2)) id (fun _ => rfl) fun _ h => h.1
theorem dEvss : Dec Try.prog 23 (List (List Ev)) (fun l => [.vs 1 fun _ => evss l]) fun l => l.length ≤ maxLen ∧ ∀ a ∈ l, a.length ≤ maxLen :=
 Dec.imap (Dec.slice Try.underlying23 (k := 1) (by kernel_rfl) (by omega) dEvs (fun _ => rfl) Elem.one) id (fun _ => rfl) fun _ h => h
theorem dIdss : Dec Try.prog 24 (List (List EId)) (fun l => [.vs 1 fun _ => idss l]) fun l => l.length ≤ maxLen ∧ ∀ a ∈ l, a.length ≤ maxLen :=
 Dec.imap (Dec.slice Try.underlying24 (k := 1) (by kernel_rfl) (by omega) dIds (fun _ => rfl) Elem.one) id (fun _ => rfl) fun _ h => h
theorem dGr : Dec Try.prog 26 Gr (fun g => [.vs 1 fun _ => is g.init, .vs 1 fun _ => evss g.th, .vs 1 fun _ => idss g.fr, .vs 1 fun _ => idss g.ord]) Rd :=
 Dec.imap (Dec.struct4 Try.underlying26 (t0 := 22) (t1 := 23) (t2 := 24) (t3 := 24) (by kernel_rfl) (by kernel_rfl) (by kernel_rfl) (by kernel_rfl) (by kernel_rfl) (by kernel_rfl) dInts dEvss dIdss dIdss)
  (fun p => ⟨p.1, p.2.1, p.2.2.1, p.2.2.2⟩) (fun _ => rfl) fun p h => by
   have e : maxLen = 9223372036854775807 := by decide +kernel
   obtain ⟨h0, ⟨h1, h1'⟩, ⟨h2, h2'⟩, h3, h3'⟩ := h
   rw [e] at *
   exact ⟨by dsimp only; omega, by dsimp only; omega, by dsimp only; omega, by dsimp only; omega, fun l hl => by have := h1' l hl; omega, fun l hl => by have := h2' l hl; omega, fun l hl => by have := h3' l hl; omega⟩
theorem aGraph : Arg Try.prog 26 Gr aGr Rd := Arg.agg Try.underlying26 dGr
end Go.AL.Rl

namespace Go.AL.Rl
open Go Go.AL Go.Proofs Go.RowKit Go.ChangeShapes Go.WideShapes Go.ChangeAt Go.Proofs.Ytjcioienjlonmaa
set_option maxRecDepth 100000
theorem dIntl : Dec Try.prog 27 (List Int) (fun l => [.vs 1 fun _ => is l]) fun l => (l.length : Int) ≤ 9223372036854775807 :=
 Dec.imap (Dec.slice Try.underlying27 (k := 1) (by kernel_rfl) (by omega) (Dec.int Try.underlying3) (fun _ => rfl) Elem.one) id (fun _ => rfl) fun l h => by
  have e : maxLen = 9223372036854775807 := by decide +kernel
  have h1 : (l.length : Int) ≤ maxLen := by have := h.1; omega
  rw [e] at h1
  exact h1
theorem aIntl : Arg Try.prog 27 (List Int) (fun l => .vs 1 fun _ => is l) fun l => (l.length : Int) ≤ 9223372036854775807 := Arg.one Try.underlying27 trivial dIntl
end Go.AL.Rl

namespace Go.AL.Rl
open Go Go.AL Go.Proofs
set_option maxRecDepth 100000
open Go.RowKit Go.ChangeShapes Go.WideShapes Go.ChangeAt Go.Proofs.Ytjcioienjlonmaa
namespace ModelOrders
theorem contract (H : Type) (enc : TypeId × Value → H) (W : World) (base : Nat) (args : Array Value) (ds gs : List (DataW H)) (before : List MemPlace)
  (hval : ∀ (j : Nat) t v, Try.f3.params[j]? = some t → args[j]? = some v → Value.okWide Try.prog W .any base t v)
  (hW : DataW.Whole enc Try.prog Try.f3.params.toList Rows.modelOrdersSpec.vars false W args.toList ds gs before) (hL : laidMet Try.prog Rows.modelOrdersRow.laid W) :
  Calls Try.prog 3 args W fun e W' => ∃ v, e = .returned v ∧ Rows.modelOrdersSpec.post enc Try.prog Try.f3 false true false false W args v W' := by
 have hW' := hW
 obtain ⟨p, q, hA, hV, rfl, hfz, hnd⟩ := hW
 rw [Try.params3] at hA hval
 obtain ⟨v0, vs0, d0, ds0, p0, q0, hargs, rfl, rfl, h0, r0⟩ := trodAll_cons hA
 obtain ⟨v1, vs1, d1, ds1, p1, q1, rfl, rfl, rfl, h1, r1⟩ := trodAll_cons r0
 obtain ⟨rfl, rfl, rfl⟩ := trodAll_nil r1
 obtain rfl : args = #[v0, v1] := by cases args; simp_all
 obtain ⟨x0, k0, a0⟩ := aGraph enc W base v0 d0 p0 (hval 0 _ v0 rfl rfl) h0
 obtain ⟨x1, k1, a1⟩ := aIntl enc W base v1 d1 p1 (hval 1 _ v1 rfl rfl) h1
 exact law_true (modelOrders_ok (γ := γ0) x0 k0 x1 k1) ⟨_, _, rfl, a0, _, _, rfl, a1, rfl⟩ gok0 hW' rfl (tb := 4) (by kernel_rfl) Try.underlying4
  (fun ds' h => by match ds', h with | [a, b], _ => rfl) laidOut mapsOk slicesOk (by rw [Try.params3]; decide +kernel)
theorem laid_met (os : Os) : laidMet Try.prog Rows.modelOrdersRow.laid ((World.holding Try.prog os ⟨#[], #[], []⟩).forCall (fun _ _ => 0) ⟨#[], #[.agg #[.slice none 0 0, .slice none 0 0, .slice none 0 0, .slice none 0 0], .slice none 0 0], []⟩).memory :=
 laidMet_of_run' 8 (by kernel_rfl) (by kernel_rfl)
theorem reads (os : Os) {H : Type} (enc : TypeId × Value → H) : ∃ places, DataW.whole enc Try.prog ((World.holding Try.prog os ⟨#[], #[], []⟩).forCall (fun _ _ => 0) ⟨#[], #[.agg #[.slice none 0 0, .slice none 0 0, .slice none 0 0, .slice none 0 0], .slice none 0 0], []⟩).memory Try.f3.params.toList Rows.modelOrdersSpec.vars false (#[.agg #[.slice none 0 0, .slice none 0 0, .slice none 0 0, .slice none 0 0], .slice none 0 0] : Array Value).toList 8 = some ([.agg [.nil, .nil, .nil, .nil], .nil], [], places) :=
 ⟨[], by kernel_rfl⟩
theorem lifted (os : Os) (started : os.Started) (H : Type) (enc : TypeId × Value → H) (F : Stop.Interp) :
  ReturnsInHanded {} Try.checked os 3 .any ((OpenSpec.ofChange Rows.modelOrdersSpec).preRow enc Try.prog Try.f3 Rows.modelOrdersRow.domain false Rows.modelOrdersRow.laid) (((OpenSpec.ofChange Rows.modelOrdersSpec).at F).post enc Try.prog Try.f3 false true false false) := by
 obtain ⟨places, hx⟩ := reads os enc
 refine returnsInHanded_of_row (C := Try.checked) (s := OpenSpec.ofChange Rows.modelOrdersSpec) own started (by kernel_rfl) Try.func3
  (witness_row_at (enc := enc) (C := Try.checked) false (World.holding Try.prog os ⟨#[], #[], []⟩) #[.agg #[.slice none 0 0, .slice none 0 0, .slice none 0 0, .slice none 0 0], .slice none 0 0] rfl (by kernel_rfl) (by kernel_rfl) (by kernel_rfl)
   (OpenSpec.preRow_of_cond 8 hx (by kernel_rfl) (fun k hk => by cases hk) (by kernel_rfl) (laid_met os))) ?_
 intro W base args ds gs before hval hW _ _ _ hL _ _
 exact contract H enc W base args ds gs before hval hW hL
theorem said : Rows.ModelOrdersSaid :=
 OpenClaim.holds_of_cond 3 Try.f3 rfl rfl rfl rfl rfl rfl rfl ⟨rfl, rfl, rfl, rfl, rfl⟩ rfl rfl rfl rfl rfl (by kernel_rfl) Try.func3 (by kernel_rfl)
  (of_decide_eq_true (by kernel_rfl)) (by unfold Func.isWrapper; first | (rw [if_pos (by decide +kernel)]; kernel_rfl) | (rw [if_neg (by decide +kernel)]; exact ⟨rfl, rfl⟩))
  (fun os started H enc _ F => by rw [OpenClaim.pre_eq_preRow]; exact lifted os started H enc F)
end ModelOrders
end Go.AL.Rl
