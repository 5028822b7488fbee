import Derived.Test.YtjcioienjlonmaaMg2
import Derived.Scope
import Derived.KernelRfl
import Derived.Test.YtjcioienjlonmaaProg
import Derived.StillTail
set_option linter.unusedVariables false
set_option linter.unusedSimpArgs false
namespace Go.AL
open Go Go.RowKit
def noGoto (Q:Exit→St→Prop):Exit→St→Prop
 | .goto _,_=>False
 | e,A=>Q e A
section
variable {P:Program} {γ:Nat→Option AV}
theorem AWP.scope {c:Code} {Q:Exit→St→Prop} {A:St} (h:AWP P γ c (noGoto Q) A):AWP P γ (.scope c) Q A:=by
 intro B S ρ a w hs
 refine wp_scope_straight (wp_mono (h B S ρ a w hs) fun e a' w' ⟨S',ρ',A',h1,h2,h3⟩=>?_)
 cases e with
 | goto l=>exact h1.elim
 | _=>exact ⟨S',ρ',A',h1,h2,h3⟩
theorem AWP.label {l:Nat} {Q:Exit→St→Prop} {A:St} (h:Q .normal A):AWP P γ (.label l) Q A:=fun B S ρ a w hs=>wp_label ⟨S,ρ,A,h,hs,Ext.refl _ _ _ _⟩
end
def vc (τ:Nat→TI) (γ:Nat→Option AV) (C:EC) (D:Array Oper→(St→Prop)→St→Prop) (W:Code→(Exit→St→Prop)→St→Prop):Code→(Exit→St→Prop)→St→Prop
 | .skip,Q,A=>Q .normal A
 | .seq x y,Q,A=>vc τ γ C D W x (thenE (fun A=>vc τ γ C D W y Q A) Q) A
 | .cond c x y,Q,A=>br (A.ev γ c) (fun _=>vc τ γ C D W x Q A) (fun _=>vc τ γ C D W y Q A)
 | .block id c,Q,A=>vc τ γ C D W c (inBlk id Q) A
 | .exit id,Q,A=>Q (.exit id) A
 | .ret,Q,A=>Q .ret A
 | .region _ ops false,Q,A=>vops τ γ C ops.toList ops.toList A (Q .normal)
 | .region _ ops true,Q,A=>D ops (Q .normal) A
 | .loop c,Q,A=>W c Q A
 | .scope c,Q,A=>vc τ γ C D W c (noGoto Q) A
 | .label _,Q,A=>Q .normal A
 | _,_,_=>False
section
variable {P:Program} {γ:Nat→Option AV} {τ:Nat→TI} {C:EC} {D:Array Oper→(St→Prop)→St→Prop} {W:Code→(Exit→St→Prop)→St→Prop}
theorem vc_sound (hτ:∀ t,τ t=tiOf P t) (hC:∀ f args h Q,C f args h Q→SC P γ f args h Q)
  (hD:∀ id ops K (Q:Exit→St→Prop) A,(∀ A,K A→Q .normal A)→D ops K A→AWP P γ (.region id ops true) Q A) (hW:∀ c Q A,W c Q A→AWP P γ (.loop c) Q A) :
  ∀ (c:Code) (Q:Exit→St→Prop) (A:St),vc τ γ C D W c Q A→AWP P γ c Q A
 | .skip,Q,A,h=>AWP.skip h
 | .seq x y,Q,A,h=>by
  refine AWP.seq ((vc_sound hτ hC hD hW x _ _ h).mono fun e A' h'=>?_)
  cases e with
  | normal=>exact vc_sound hτ hC hD hW y _ _ h'
  | _=>exact h'
 | .cond c x y,Q,A,h=>by
  refine AWP.cond ?_
  simp only [vc] at h
  generalize A.ev γ c=v at *
  cases v
  all_goals first | exact h.elim | skip
  all_goals simp only [br] at h ⊢
  all_goals first | exact vc_sound hτ hC hD hW _ _ _ h | skip
  exact ⟨fun u hu=>vc_sound hτ hC hD hW x _ _ (h.1 u hu),fun u hu=>vc_sound hτ hC hD hW y _ _ (h.2 u hu)⟩
 | .block id c,Q,A,h=>AWP.block (vc_sound hτ hC hD hW c _ _ h)
 | .exit id,Q,A,h=>AWP.exit h
 | .ret,Q,A,h=>AWP.ret h
 | .region id ops false,Q,A,h=>AWP.region hτ hC h
 | .region id ops true,Q,A,h=>hD id ops _ Q A (fun _ h=>h) h
 | .loop c,Q,A,h=>hW c Q A h
 | .scope c,Q,A,h=>AWP.scope (vc_sound hτ hC hD hW c _ _ h)
 | .goto _,_,_,h=>h.elim
 | .label _,Q,A,h=>AWP.label h
 | .refuse _,_,_,h=>h.elim
 | .rangeFunc ..,_,_,h=>h.elim
end
end Go.AL
namespace Go.AL
open Go
def TT.Ok (P:Program) (n:Nat):TT→Nat→Nat→Prop
 | .nil,a,_=>n≤a
 | .node v l r,a,b=>v=tiOf P a∧TT.Ok P n l (a+b) (2 * b)∧TT.Ok P n r (a+2 * b) (2 * b)
theorem TT.Ok.get {P:Program} {n:Nat}:∀ {tt:TT} {a b:Nat},TT.Ok P n tt a b→∀ k,a+b * k<n→tt.get k=tiOf P (a+b * k)
 | .nil,a,b,h,k,hk=>by
  simp only [TT.Ok] at h
  omega
 | .node v l r,a,b,⟨h1,h2,h3⟩,k,hk=>by
  simp only [TT.get]
  by_cases h0:k=0
  ·subst h0;simpa using h1
  ·rw [if_neg h0]
   by_cases ho:k % 2=1
   ·obtain ⟨m,rfl⟩:∃ m,k=2 * m+1:=⟨k / 2,by omega⟩
    have e:a+b+2 * b * m=a+b * (2 * m+1):=by rw [Nat.mul_add,←Nat.mul_assoc,Nat.mul_comm 2 b];simp only [Nat.mul_one];ac_rfl
    rw [if_pos ho,show (2 * m+1) / 2=m by omega,h2.get m (by omega),e]
   ·obtain ⟨m,rfl⟩:∃ m,k=2 * m+2:=⟨k / 2-1,by omega⟩
    have e:a+2 * b+2 * b * m=a+b * (2 * m+2):=by rw [Nat.mul_add,←Nat.mul_assoc,Nat.mul_comm 2 b];ac_rfl
    rw [if_neg ho,show (2 * m+2) / 2-1=m by omega,h3.get m (by omega),e]
def TT.ty (P:Program) (n:Nat) (tt:TT):Nat→Nat→TI
 | 0,t=>tiOf P t
 | f+1,t=>if t<n then tt.get t else TT.ty P n tt f t
theorem TT.ok {P:Program} {tt:TT} {n:Nat} (h:TT.Ok P n tt 0 1) (t:Nat):tt.ty P n 1 t=tiOf P t:=by
 simp only [TT.ty]
 split
 ·rename_i ht;simpa using h.get t (by omega)
 ·rfl
end Go.AL
namespace Go.AL.Rl
open Go Go.AL Go.Proofs
def ty0:TI:=⟨.misc,1,(some (.raw (.tuple #[]))),[],[]⟩
def ty1:TI:=⟨.misc,1,(some (.raw (.nilFunc))),[],[]⟩
def ty2:TI:=⟨.int .i64,1,(some (.lit 0)),[.i],[.i]⟩
def ty3:TI:=⟨.int .i64,1,(some (.lit 0)),[.i],[.i]⟩
def ty4:TI:=⟨.bool,1,(some (.ff)),[.b],[.b]⟩
def ty5:TI:=⟨.int .u8,1,(some (.raw (.int .u8 0))),[],[]⟩
def ty6:TI:=⟨.int .u8,1,(some (.raw (.int .u8 0))),[],[]⟩
def ty7:TI:=⟨.struct [(0,1,some false),(1,1,some false),(2,1,some false),(3,1,some false)],4,(some (.agg [.lit 0,.lit 0,.ff,.raw (.int .u8 0)])),[.i,.i,.b],[]⟩
def ty8:TI:=⟨.struct [(0,1,some false),(1,1,some false),(2,1,some false),(3,1,some false)],4,(some (.agg [.lit 0,.lit 0,.ff,.raw (.int .u8 0)])),[.i,.i,.b],[]⟩
def ty9:TI:=⟨.string,1,(some (.raw (.string ByteArray.empty))),[],[]⟩
def ty10:TI:=⟨.string,1,(some (.raw (.string ByteArray.empty))),[],[]⟩
def ty11:TI:=⟨.string,1,(some (.raw (.string ByteArray.empty))),[],[]⟩
def ty12:TI:=⟨.int .u64,1,(some (.u fun _=>BitVec.ofInt 64 0)),[.u],[.u]⟩
def ty13:TI:=⟨.struct [(0,1,some false),(1,1,some false)],2,(some (.agg [.raw (.string ByteArray.empty),.u fun _=>BitVec.ofInt 64 0])),[.u],[]⟩
def ty14:TI:=⟨.struct [(0,1,some false),(1,1,some false)],2,(some (.agg [.raw (.string ByteArray.empty),.u fun _=>BitVec.ofInt 64 0])),[.u],[]⟩
def ty15:TI:=⟨.ptr 139,1,(some (.np)),[],[]⟩
def ty16:TI:=⟨.ptr 142,1,(some (.np)),[],[]⟩
def ty17:TI:=⟨.ptr 152,1,(some (.np)),[],[]⟩
def ty18:TI:=⟨.struct [(0,1,some false)],1,(some (.agg [.np])),[],[]⟩
def ty19:TI:=⟨.struct [(0,1,some false)],1,(some (.agg [.np])),[],[]⟩
def ty20:TI:=⟨.misc,1,(some (.raw (.nilIface))),[],[]⟩
def ty21:TI:=⟨.int .i32,1,(some (.raw (.int .i32 0))),[],[]⟩
def ty22:TI:=⟨.slice 2 1 8 (some (.lit 0)),1,(some (.nils)),[.sl 1],[]⟩
def ty23:TI:=⟨.slice 41 1 24 (some (.nils)),1,(some (.nils)),[.sl 1],[]⟩
def ty24:TI:=⟨.slice 47 1 24 (some (.nils)),1,(some (.nils)),[.sl 1],[]⟩
def ty25:TI:=⟨.struct [(0,1,some false),(1,1,some false),(2,1,some false),(3,1,some false)],4,(some (.agg [.nils,.nils,.nils,.nils])),[.sl 1,.sl 1,.sl 1,.sl 1],[]⟩
def ty26:TI:=⟨.struct [(0,1,some false),(1,1,some false),(2,1,some false),(3,1,some false)],4,(some (.agg [.nils,.nils,.nils,.nils])),[.sl 1,.sl 1,.sl 1,.sl 1],[]⟩
def ty27:TI:=⟨.slice 3 1 8 (some (.lit 0)),1,(some (.nils)),[.sl 1],[]⟩
def ty28:TI:=⟨.misc,1,(some (.raw (.nilFunc))),[],[]⟩
def ty29:TI:=⟨.misc,1,(some (.raw (.nilFunc))),[],[]⟩
def ty30:TI:=⟨.int .i64,1,(some (.lit 0)),[.i],[.i]⟩
def ty31:TI:=⟨.misc,1,(some (.raw (.nilFunc))),[],[]⟩
def ty32:TI:=⟨.misc,1,(some (.raw (.nilFunc))),[],[]⟩
def ty33:TI:=⟨.misc,1,(some (.raw (.nilFunc))),[],[]⟩
def ty34:TI:=⟨.struct [(0,1,some false),(1,1,some false)],2,(some (.agg [.lit 0,.lit 0])),[.i,.i],[.i,.i]⟩
def ty35:TI:=⟨.struct [(0,1,some false),(1,1,some false)],2,(some (.agg [.lit 0,.lit 0])),[.i,.i],[.i,.i]⟩
def ty36:TI:=⟨.misc,1,(some (.raw (.tuple #[.agg #[.int .i64 0,.int .i64 0],.bool false]))),[],[]⟩
def ty37:TI:=⟨.misc,1,(some (.raw (.nilFunc))),[],[]⟩
def ty38:TI:=⟨.misc,1,(some (.raw (.nilFunc))),[],[]⟩
def ty39:TI:=⟨.struct [(0,1,some false),(1,1,some false),(2,1,some false),(3,1,some false),(4,1,some false)],5,(some (.agg [.lit 0,.lit 0,.lit 0,.lit 0,.lit 0])),[.i,.i,.i,.i,.i],[.i,.i,.i,.i,.i]⟩
def ty40:TI:=⟨.struct [(0,1,some false),(1,1,some false),(2,1,some false),(3,1,some false),(4,1,some false)],5,(some (.agg [.lit 0,.lit 0,.lit 0,.lit 0,.lit 0])),[.i,.i,.i,.i,.i],[.i,.i,.i,.i,.i]⟩
def ty41:TI:=⟨.slice 40 5 40 (some (.agg [.lit 0,.lit 0,.lit 0,.lit 0,.lit 0])),1,(some (.nils)),[.sl 5],[]⟩
def ty42:TI:=⟨.misc,1,(some (.raw (.tuple #[.bool false,.int .i64 0]))),[],[]⟩
def ty43:TI:=⟨.misc,1,(some (.raw (.nilFunc))),[],[]⟩
def ty44:TI:=⟨.misc,1,(some (.raw (.nilFunc))),[],[]⟩
def ty45:TI:=⟨.struct [(0,1,some false),(1,1,some false),(2,1,some false),(3,1,some false),(4,1,some false)],5,(some (.agg [.lit 0,.lit 0,.lit 0,.lit 0,.lit 0])),[.i,.i,.i,.i,.i],[.i,.i,.i,.i,.i]⟩
def ty46:TI:=⟨.struct [(0,1,some false),(1,1,some false),(2,1,some false),(3,1,some false),(4,1,some false)],5,(some (.agg [.lit 0,.lit 0,.lit 0,.lit 0,.lit 0])),[.i,.i,.i,.i,.i],[.i,.i,.i,.i,.i]⟩
def ty47:TI:=⟨.slice 35 2 16 (some (.agg [.lit 0,.lit 0])),1,(some (.nils)),[.sl 2],[]⟩
def ty48:TI:=⟨.misc,1,(some (.raw (.nilFunc))),[],[]⟩
def ty49:TI:=⟨.misc,1,(some (.raw (.tuple #[.agg #[.int .i64 0,.int .i64 0,.int .i64 0,.int .i64 0,.int .i64 0],.int .i64 0]))),[],[]⟩
def ty50:TI:=⟨.misc,1,(some (.raw (.nilFunc))),[],[]⟩
def ty51:TI:=⟨.misc,1,(some (.raw (.tuple #[.slice none 0 0,.int .i64 0]))),[],[]⟩
def ty52:TI:=⟨.misc,1,(some (.raw (.nilFunc))),[],[]⟩
def ty53:TI:=⟨.misc,1,(some (.raw (.tuple #[.slice none 0 0,.int .i64 0]))),[],[]⟩
def ty54:TI:=⟨.misc,1,(some (.raw (.nilFunc))),[],[]⟩
def ty55:TI:=⟨.misc,1,(some (.raw (.nilFunc))),[],[]⟩
def ty56:TI:=⟨.misc,1,(some (.raw (.nilFunc))),[],[]⟩
def ty57:TI:=⟨.struct [(0,1,some false),(1,1,some false),(2,1,some false)],3,(some (.agg [.lit 0,.lit 0,.lit 0])),[.i,.i,.i],[.i,.i,.i]⟩
def ty58:TI:=⟨.struct [(0,1,some false),(1,1,some false),(2,1,some false)],3,(some (.agg [.lit 0,.lit 0,.lit 0])),[.i,.i,.i],[.i,.i,.i]⟩
def ty59:TI:=⟨.misc,1,(some (.raw (.tuple #[.agg #[.int .i64 0,.int .i64 0,.int .i64 0],.bool false]))),[],[]⟩
def ty60:TI:=⟨.misc,1,(some (.raw (.nilFunc))),[],[]⟩
def ty61:TI:=⟨.misc,1,(some (.raw (.nilFunc))),[],[]⟩
def ty62:TI:=⟨.misc,1,(some (.raw (.nilFunc))),[],[]⟩
def ty63:TI:=⟨.misc,1,(some (.raw (.nilFunc))),[],[]⟩
def ty64:TI:=⟨.misc,1,(some (.raw (.nilFunc))),[],[]⟩
def ty65:TI:=⟨.misc,1,(some (.raw (.nilFunc))),[],[]⟩
def ty66:TI:=⟨.misc,1,(some (.raw (.tuple #[.slice none 0 0,.bool false]))),[],[]⟩
def ty67:TI:=⟨.misc,1,(some (.raw (.nilFunc))),[],[]⟩
def ty68:TI:=⟨.misc,1,(some (.raw (.nilFunc))),[],[]⟩
def ty69:TI:=⟨.slice 91 1 8 (some (.u fun _=>BitVec.ofInt 64 0)),1,(some (.nils)),[.sl 1],[]⟩
def ty70:TI:=⟨.struct [(0,1,some false),(1,1,some false)],2,(some (.agg [.lit 0,.nils])),[.i,.sl 1],[]⟩
def ty71:TI:=⟨.struct [(0,1,some false),(1,1,some false)],2,(some (.agg [.lit 0,.nils])),[.i,.sl 1],[]⟩
def ty72:TI:=⟨.struct [(0,2,some true),(2,2,some true),(4,2,some true),(6,2,some true)],8,(some (.agg [.lit 0,.nils,.lit 0,.nils,.lit 0,.nils,.lit 0,.nils])),[.i,.sl 1,.i,.sl 1,.i,.sl 1,.i,.sl 1],[]⟩
def ty73:TI:=⟨.struct [(0,2,some true),(2,2,some true),(4,2,some true),(6,2,some true)],8,(some (.agg [.lit 0,.nils,.lit 0,.nils,.lit 0,.nils,.lit 0,.nils])),[.i,.sl 1,.i,.sl 1,.i,.sl 1,.i,.sl 1],[]⟩
def ty74:TI:=⟨.struct [(0,2,some true),(2,2,some true),(4,2,some true),(6,2,some true),(8,2,some true)],10,(some (.agg [.lit 0,.nils,.lit 0,.nils,.lit 0,.nils,.lit 0,.nils,.lit 0,.nils])),[.i,.sl 1,.i,.sl 1,.i,.sl 1,.i,.sl 1,.i,.sl 1],[]⟩
def ty75:TI:=⟨.struct [(0,2,some true),(2,2,some true),(4,2,some true),(6,2,some true),(8,2,some true)],10,(some (.agg [.lit 0,.nils,.lit 0,.nils,.lit 0,.nils,.lit 0,.nils,.lit 0,.nils])),[.i,.sl 1,.i,.sl 1,.i,.sl 1,.i,.sl 1,.i,.sl 1],[]⟩
def ty76:TI:=⟨.struct [(0,8,some true),(8,10,some true)],18,(some (.agg [.lit 0,.nils,.lit 0,.nils,.lit 0,.nils,.lit 0,.nils,.lit 0,.nils,.lit 0,.nils,.lit 0,.nils,.lit 0,.nils,.lit 0,.nils])),[.i,.sl 1,.i,.sl 1,.i,.sl 1,.i,.sl 1,.i,.sl 1,.i,.sl 1,.i,.sl 1,.i,.sl 1,.i,.sl 1],[]⟩
def ty77:TI:=⟨.struct [(0,8,some true),(8,10,some true)],18,(some (.agg [.lit 0,.nils,.lit 0,.nils,.lit 0,.nils,.lit 0,.nils,.lit 0,.nils,.lit 0,.nils,.lit 0,.nils,.lit 0,.nils,.lit 0,.nils])),[.i,.sl 1,.i,.sl 1,.i,.sl 1,.i,.sl 1,.i,.sl 1,.i,.sl 1,.i,.sl 1,.i,.sl 1,.i,.sl 1],[]⟩
def ty78:TI:=⟨.struct [(0,4,some true),(4,18,some true)],22,(some (.agg [.nils,.nils,.nils,.nils,.lit 0,.nils,.lit 0,.nils,.lit 0,.nils,.lit 0,.nils,.lit 0,.nils,.lit 0,.nils,.lit 0,.nils,.lit 0,.nils,.lit 0,.nils])),[.sl 1,.sl 1,.sl 1,.sl 1,.i,.sl 1,.i,.sl 1,.i,.sl 1,.i,.sl 1,.i,.sl 1,.i,.sl 1,.i,.sl 1,.i,.sl 1,.i,.sl 1],[]⟩
def ty79:TI:=⟨.struct [(0,4,some true),(4,18,some true)],22,(some (.agg [.nils,.nils,.nils,.nils,.lit 0,.nils,.lit 0,.nils,.lit 0,.nils,.lit 0,.nils,.lit 0,.nils,.lit 0,.nils,.lit 0,.nils,.lit 0,.nils,.lit 0,.nils])),[.sl 1,.sl 1,.sl 1,.sl 1,.i,.sl 1,.i,.sl 1,.i,.sl 1,.i,.sl 1,.i,.sl 1,.i,.sl 1,.i,.sl 1,.i,.sl 1,.i,.sl 1],[]⟩
def ty80:TI:=⟨.misc,1,(some (.raw (.tuple #[.agg #[.slice none 0 0,.slice none 0 0,.slice none 0 0,.slice none 0 0,.int .i64 0,.slice none 0 0,.int .i64 0,.slice none 0 0,.int .i64 0,.slice none 0 0,.int .i64 0,.slice none 0 0,.int .i64 0,.slice none 0 0,.int .i64 0,.slice none 0 0,.int .i64 0,.slice none 0 0,.int .i64 0,.slice none 0 0,.int .i64 0,.slice none 0 0],.bool false]))),[],[]⟩
def ty81:TI:=⟨.misc,1,(some (.raw (.nilFunc))),[],[]⟩
def ty82:TI:=⟨.misc,1,(some (.raw (.nilFunc))),[],[]⟩
def ty83:TI:=⟨.array 7 82 1,7,(some (.agg [.raw (.nilFunc),.raw (.nilFunc),.raw (.nilFunc),.raw (.nilFunc),.raw (.nilFunc),.raw (.nilFunc),.raw (.nilFunc)])),[],[]⟩
def ty84:TI:=⟨.misc,1,(some (.raw (.nilFunc))),[],[]⟩
def ty85:TI:=⟨.misc,1,(some (.raw (.nilFunc))),[],[]⟩
def ty86:TI:=⟨.struct [(0,1,some false),(1,1,some false),(2,1,some false)],3,(some (.agg [.lit 0,.lit 0,.ff])),[.i,.i,.b],[.i,.i,.b]⟩
def ty87:TI:=⟨.struct [(0,1,some false),(1,1,some false),(2,1,some false)],3,(some (.agg [.lit 0,.lit 0,.ff])),[.i,.i,.b],[.i,.i,.b]⟩
def ty88:TI:=⟨.misc,1,(some (.raw (.nilFunc))),[],[]⟩
def ty89:TI:=⟨.misc,1,(some (.raw (.tuple #[.agg #[.int .i64 0,.int .i64 0,.int .i64 0,.int .i64 0,.int .i64 0],.bool false]))),[],[]⟩
def ty90:TI:=⟨.misc,1,(some (.raw (.nilFunc))),[],[]⟩
def ty91:TI:=⟨.int .u64,1,(some (.u fun _=>BitVec.ofInt 64 0)),[.u],[.u]⟩
def ty92:TI:=⟨.misc,1,(some (.raw (.tuple #[.agg #[.slice none 0 0,.slice none 0 0,.slice none 0 0,.slice none 0 0],.int .i64 0]))),[],[]⟩
def ty93:TI:=⟨.misc,1,(some (.raw (.nilFunc))),[],[]⟩
def ty94:TI:=⟨.misc,1,(some (.raw (.tuple #[.agg #[.int .i64 0,.slice none 0 0,.int .i64 0,.slice none 0 0,.int .i64 0,.slice none 0 0,.int .i64 0,.slice none 0 0,.int .i64 0,.slice none 0 0,.int .i64 0,.slice none 0 0,.int .i64 0,.slice none 0 0,.int .i64 0,.slice none 0 0,.int .i64 0,.slice none 0 0],.int .i64 0]))),[],[]⟩
def ty95:TI:=⟨.misc,1,(some (.raw (.nilFunc))),[],[]⟩
def ty96:TI:=⟨.misc,1,(some (.raw (.nilFunc))),[],[]⟩
def ty97:TI:=⟨.misc,1,(some (.raw (.nilFunc))),[],[]⟩
def ty98:TI:=⟨.misc,1,(some (.raw (.nilFunc))),[],[]⟩
def ty99:TI:=⟨.misc,1,(some (.raw (.nilFunc))),[],[]⟩
def ty100:TI:=⟨.misc,1,(some (.raw (.nilFunc))),[],[]⟩
def ty101:TI:=⟨.misc,1,(some (.raw (.nilFunc))),[],[]⟩
def ty102:TI:=⟨.ptr 121,1,(some (.np)),[],[]⟩
def ty103:TI:=⟨.misc,1,(some (.raw (.tuple #[.pointer none,.bool false]))),[],[]⟩
def ty104:TI:=⟨.misc,1,(some (.raw (.nilFunc))),[],[]⟩
def ty105:TI:=⟨.misc,1,(some (.raw (.nilFunc))),[],[]⟩
def ty106:TI:=⟨.misc,1,(some (.raw (.nilFunc))),[],[]⟩
def ty107:TI:=⟨.misc,1,(some (.raw (.nilFunc))),[],[]⟩
def ty108:TI:=⟨.misc,1,(some (.raw (.nilFunc))),[],[]⟩
def ty109:TI:=⟨.misc,1,(some (.raw (.nilFunc))),[],[]⟩
def ty110:TI:=⟨.int .u64,1,(some (.u fun _=>BitVec.ofInt 64 0)),[.u],[.u]⟩
def ty111:TI:=⟨.misc,1,(some (.raw (.nilFunc))),[],[]⟩
def ty112:TI:=⟨.misc,1,(some (.raw (.nilFunc))),[],[]⟩
def ty113:TI:=⟨.map 35 3,1,(some (.raw (.map none))),[],[]⟩
def ty114:TI:=⟨.misc,1,(some (.raw (.tuple #[.int .i64 0,.bool false]))),[],[]⟩
def ty115:TI:=⟨.misc,1,(some (.raw (.nilFunc))),[],[]⟩
def ty116:TI:=⟨.misc,1,(some (.raw (.nilFunc))),[],[]⟩
def ty117:TI:=⟨.misc,1,(some (.raw (.nilFunc))),[],[]⟩
def ty118:TI:=⟨.misc,1,(some (.raw (.nilFunc))),[],[]⟩
def ty119:TI:=⟨.misc,1,(some (.raw (.nilFunc))),[],[]⟩
def ty120:TI:=⟨.struct [(0,1,some false),(1,1,some false),(2,1,some false),(3,1,some false)],4,(some (.agg [.nils,.nils,.nils,.nils])),[.sl 2,.sl 5,.sl 1,.sl 1],[]⟩
def ty121:TI:=⟨.struct [(0,1,some false),(1,1,some false),(2,1,some false),(3,1,some false)],4,(some (.agg [.nils,.nils,.nils,.nils])),[.sl 2,.sl 5,.sl 1,.sl 1],[]⟩
def ty122:TI:=⟨.misc,1,(some (.raw (.nilFunc))),[],[]⟩
def ty123:TI:=⟨.slice 124 2 16 (some (.agg [.lit 0,.lit 0])),1,(some (.nils)),[.sl 2],[]⟩
def ty124:TI:=⟨.array 2 3 1,2,(some (.agg [.lit 0,.lit 0])),[.i,.i],[.i,.i]⟩
def ty125:TI:=⟨.misc,1,(some (.raw (.nilFunc))),[],[]⟩
def ty126:TI:=⟨.slice 71 2 32 (some (.agg [.lit 0,.nils])),1,(some (.nils)),[.sl 2],[]⟩
def ty127:TI:=⟨.misc,1,(some (.raw (.nilFunc))),[],[]⟩
def ty128:TI:=⟨.misc,1,(some (.raw (.nilFunc))),[],[]⟩
def ty129:TI:=⟨.misc,1,(some (.raw (.nilFunc))),[],[]⟩
def ty130:TI:=⟨.misc,1,(some (.raw (.nilFunc))),[],[]⟩
def ty131:TI:=⟨.misc,1,(some (.raw (.nilFunc))),[],[]⟩
def ty132:TI:=⟨.misc,1,(some (.raw (.nilFunc))),[],[]⟩
def ty133:TI:=⟨.misc,1,(some (.raw (.nilFunc))),[],[]⟩
def ty134:TI:=⟨.misc,1,(some (.raw (.nilFunc))),[],[]⟩
def ty135:TI:=⟨.misc,1,(some (.raw (.nilFunc))),[],[]⟩
def ty136:TI:=⟨.misc,1,(some (.raw (.nilFunc))),[],[]⟩
def ty137:TI:=⟨.misc,1,(some (.raw (.nilFunc))),[],[]⟩
def ty138:TI:=⟨.struct [(0,1,some false),(1,1,some false),(2,1,some false),(3,1,some false)],4,(some (.agg [.np,.np,.np,.raw (.string ByteArray.empty)])),[],[]⟩
def ty139:TI:=⟨.struct [(0,1,some false),(1,1,some false),(2,1,some false),(3,1,some false)],4,(some (.agg [.np,.np,.np,.raw (.string ByteArray.empty)])),[],[]⟩
def ty140:TI:=⟨.array 0 16 1,0,(some (.agg [])),[],[]⟩
def ty141:TI:=⟨.struct [(0,0,some true)],0,(some (.agg [])),[],[]⟩
def ty142:TI:=⟨.struct [(0,0,some true)],0,(some (.agg [])),[],[]⟩
def ty143:TI:=⟨.misc,1,(some (.raw (.nilFunc))),[],[]⟩
def ty144:TI:=⟨.int .u32,1,(some (.raw (.int .u32 0))),[],[]⟩
def ty145:TI:=⟨.int .u8,1,(some (.raw (.int .u8 0))),[],[]⟩
def ty146:TI:=⟨.int .u8,1,(some (.raw (.int .u8 0))),[],[]⟩
def ty147:TI:=⟨.misc,1,(some (.raw (.nilFunc))),[],[]⟩
def ty148:TI:=⟨.ptr 5,1,(some (.np)),[],[]⟩
def ty149:TI:=⟨.int .i32,1,(some (.raw (.int .i32 0))),[],[]⟩
def ty150:TI:=⟨.int .i32,1,(some (.raw (.int .i32 0))),[],[]⟩
def ty151:TI:=⟨.struct [(0,1,some false),(1,1,some false),(2,1,some false),(3,1,some false),(4,1,some false),(5,1,some false),(6,1,some false),(7,1,some false),(8,1,some false),(9,1,some false),(10,1,some false)],11,(some (.agg [.u fun _=>BitVec.ofInt 64 0,.u fun _=>BitVec.ofInt 64 0,.raw (.int .u32 0),.raw (.int .u8 0),.raw (.int .u8 0),.raw (.int .u8 0),.raw (.int .u8 0),.raw (.nilFunc),.np,.raw (.int .i32 0),.raw (.int .i32 0)])),[.u,.u],[]⟩
def ty152:TI:=⟨.struct [(0,1,some false),(1,1,some false),(2,1,some false),(3,1,some false),(4,1,some false),(5,1,some false),(6,1,some false),(7,1,some false),(8,1,some false),(9,1,some false),(10,1,some false)],11,(some (.agg [.u fun _=>BitVec.ofInt 64 0,.u fun _=>BitVec.ofInt 64 0,.raw (.int .u32 0),.raw (.int .u8 0),.raw (.int .u8 0),.raw (.int .u8 0),.raw (.int .u8 0),.raw (.nilFunc),.np,.raw (.int .i32 0),.raw (.int .i32 0)])),[.u,.u],[]⟩
def ty153:TI:=⟨.misc,1,(some (.np)),[],[]⟩
def tt:TT:=(.node ty0 (.node ty1 (.node ty3 (.node ty7 (.node ty15 (.node ty31 (.node ty63 (.node ty127 .nil .nil) .nil) (.node ty95 .nil .nil)) (.node ty47 (.node ty79 (.node ty143 .nil .nil) .nil) (.node ty111 .nil .nil))) (.node ty23 (.node ty39 (.node ty71 (.node ty135 .nil .nil) .nil) (.node ty103 .nil .nil)) (.node ty55 (.node ty87 (.node ty151 .nil .nil) .nil) (.node ty119 .nil .nil)))) (.node ty11 (.node ty19 (.node ty35 (.node ty67 (.node ty131 .nil .nil) .nil) (.node ty99 .nil .nil)) (.node ty51 (.node ty83 (.node ty147 .nil .nil) .nil) (.node ty115 .nil .nil))) (.node ty27 (.node ty43 (.node ty75 (.node ty139 .nil .nil) .nil) (.node ty107 .nil .nil)) (.node ty59 (.node ty91 .nil .nil) (.node ty123 .nil .nil))))) (.node ty5 (.node ty9 (.node ty17 (.node ty33 (.node ty65 (.node ty129 .nil .nil) .nil) (.node ty97 .nil .nil)) (.node ty49 (.node ty81 (.node ty145 .nil .nil) .nil) (.node ty113 .nil .nil))) (.node ty25 (.node ty41 (.node ty73 (.node ty137 .nil .nil) .nil) (.node ty105 .nil .nil)) (.node ty57 (.node ty89 (.node ty153 .nil .nil) .nil) (.node ty121 .nil .nil)))) (.node ty13 (.node ty21 (.node ty37 (.node ty69 (.node ty133 .nil .nil) .nil) (.node ty101 .nil .nil)) (.node ty53 (.node ty85 (.node ty149 .nil .nil) .nil) (.node ty117 .nil .nil))) (.node ty29 (.node ty45 (.node ty77 (.node ty141 .nil .nil) .nil) (.node ty109 .nil .nil)) (.node ty61 (.node ty93 .nil .nil) (.node ty125 .nil .nil)))))) (.node ty2 (.node ty4 (.node ty8 (.node ty16 (.node ty32 (.node ty64 (.node ty128 .nil .nil) .nil) (.node ty96 .nil .nil)) (.node ty48 (.node ty80 (.node ty144 .nil .nil) .nil) (.node ty112 .nil .nil))) (.node ty24 (.node ty40 (.node ty72 (.node ty136 .nil .nil) .nil) (.node ty104 .nil .nil)) (.node ty56 (.node ty88 (.node ty152 .nil .nil) .nil) (.node ty120 .nil .nil)))) (.node ty12 (.node ty20 (.node ty36 (.node ty68 (.node ty132 .nil .nil) .nil) (.node ty100 .nil .nil)) (.node ty52 (.node ty84 (.node ty148 .nil .nil) .nil) (.node ty116 .nil .nil))) (.node ty28 (.node ty44 (.node ty76 (.node ty140 .nil .nil) .nil) (.node ty108 .nil .nil)) (.node ty60 (.node ty92 .nil .nil) (.node ty124 .nil .nil))))) (.node ty6 (.node ty10 (.node ty18 (.node ty34 (.node ty66 (.node ty130 .nil .nil) .nil) (.node ty98 .nil .nil)) (.node ty50 (.node ty82 (.node ty146 .nil .nil) .nil) (.node ty114 .nil .nil))) (.node ty26 (.node ty42 (.node ty74 (.node ty138 .nil .nil) .nil) (.node ty106 .nil .nil)) (.node ty58 (.node ty90 .nil .nil) (.node ty122 .nil .nil)))) (.node ty14 (.node ty22 (.node ty38 (.node ty70 (.node ty134 .nil .nil) .nil) (.node ty102 .nil .nil)) (.node ty54 (.node ty86 (.node ty150 .nil .nil) .nil) (.node ty118 .nil .nil))) (.node ty30 (.node ty46 (.node ty78 (.node ty142 .nil .nil) .nil) (.node ty110 .nil .nil)) (.node ty62 (.node ty94 .nil .nil) (.node ty126 .nil .nil)))))))
def ty (P:Program) (t:Nat):TI:=tt.ty P 154 1 t
theorem ty_0:ty0=tiOf Try.prog 0:=by kernel_rfl
theorem ty_1:ty1=tiOf Try.prog 1:=by kernel_rfl
theorem ty_2:ty2=tiOf Try.prog 2:=by kernel_rfl
theorem ty_3:ty3=tiOf Try.prog 3:=by kernel_rfl
theorem ty_4:ty4=tiOf Try.prog 4:=by kernel_rfl
theorem ty_5:ty5=tiOf Try.prog 5:=by kernel_rfl
theorem ty_6:ty6=tiOf Try.prog 6:=by kernel_rfl
theorem ty_7:ty7=tiOf Try.prog 7:=by kernel_rfl
theorem ty_8:ty8=tiOf Try.prog 8:=by kernel_rfl
theorem ty_9:ty9=tiOf Try.prog 9:=by kernel_rfl
theorem ty_10:ty10=tiOf Try.prog 10:=by kernel_rfl
theorem ty_11:ty11=tiOf Try.prog 11:=by kernel_rfl
theorem ty_12:ty12=tiOf Try.prog 12:=by kernel_rfl
theorem ty_13:ty13=tiOf Try.prog 13:=by kernel_rfl
theorem ty_14:ty14=tiOf Try.prog 14:=by kernel_rfl
theorem ty_15:ty15=tiOf Try.prog 15:=by kernel_rfl
theorem ty_16:ty16=tiOf Try.prog 16:=by kernel_rfl
theorem ty_17:ty17=tiOf Try.prog 17:=by kernel_rfl
theorem ty_18:ty18=tiOf Try.prog 18:=by kernel_rfl
theorem ty_19:ty19=tiOf Try.prog 19:=by kernel_rfl
theorem ty_20:ty20=tiOf Try.prog 20:=by kernel_rfl
theorem ty_21:ty21=tiOf Try.prog 21:=by kernel_rfl
theorem ty_22:ty22=tiOf Try.prog 22:=by kernel_rfl
theorem ty_23:ty23=tiOf Try.prog 23:=by kernel_rfl
theorem ty_24:ty24=tiOf Try.prog 24:=by kernel_rfl
theorem ty_25:ty25=tiOf Try.prog 25:=by kernel_rfl
theorem ty_26:ty26=tiOf Try.prog 26:=by kernel_rfl
theorem ty_27:ty27=tiOf Try.prog 27:=by kernel_rfl
theorem ty_28:ty28=tiOf Try.prog 28:=by kernel_rfl
theorem ty_29:ty29=tiOf Try.prog 29:=by kernel_rfl
theorem ty_30:ty30=tiOf Try.prog 30:=by kernel_rfl
theorem ty_31:ty31=tiOf Try.prog 31:=by kernel_rfl
theorem ty_32:ty32=tiOf Try.prog 32:=by kernel_rfl
theorem ty_33:ty33=tiOf Try.prog 33:=by kernel_rfl
theorem ty_34:ty34=tiOf Try.prog 34:=by kernel_rfl
theorem ty_35:ty35=tiOf Try.prog 35:=by kernel_rfl
theorem ty_36:ty36=tiOf Try.prog 36:=by kernel_rfl
theorem ty_37:ty37=tiOf Try.prog 37:=by kernel_rfl
theorem ty_38:ty38=tiOf Try.prog 38:=by kernel_rfl
theorem ty_39:ty39=tiOf Try.prog 39:=by kernel_rfl
theorem ty_40:ty40=tiOf Try.prog 40:=by kernel_rfl
theorem ty_41:ty41=tiOf Try.prog 41:=by kernel_rfl
theorem ty_42:ty42=tiOf Try.prog 42:=by kernel_rfl
theorem ty_43:ty43=tiOf Try.prog 43:=by kernel_rfl
theorem ty_44:ty44=tiOf Try.prog 44:=by kernel_rfl
theorem ty_45:ty45=tiOf Try.prog 45:=by kernel_rfl
theorem ty_46:ty46=tiOf Try.prog 46:=by kernel_rfl
theorem ty_47:ty47=tiOf Try.prog 47:=by kernel_rfl
theorem ty_48:ty48=tiOf Try.prog 48:=by kernel_rfl
theorem ty_49:ty49=tiOf Try.prog 49:=by kernel_rfl
theorem ty_50:ty50=tiOf Try.prog 50:=by kernel_rfl
theorem ty_51:ty51=tiOf Try.prog 51:=by kernel_rfl
theorem ty_52:ty52=tiOf Try.prog 52:=by kernel_rfl
theorem ty_53:ty53=tiOf Try.prog 53:=by kernel_rfl
theorem ty_54:ty54=tiOf Try.prog 54:=by kernel_rfl
theorem ty_55:ty55=tiOf Try.prog 55:=by kernel_rfl
theorem ty_56:ty56=tiOf Try.prog 56:=by kernel_rfl
theorem ty_57:ty57=tiOf Try.prog 57:=by kernel_rfl
theorem ty_58:ty58=tiOf Try.prog 58:=by kernel_rfl
theorem ty_59:ty59=tiOf Try.prog 59:=by kernel_rfl
theorem ty_60:ty60=tiOf Try.prog 60:=by kernel_rfl
theorem ty_61:ty61=tiOf Try.prog 61:=by kernel_rfl
theorem ty_62:ty62=tiOf Try.prog 62:=by kernel_rfl
theorem ty_63:ty63=tiOf Try.prog 63:=by kernel_rfl
theorem ty_64:ty64=tiOf Try.prog 64:=by kernel_rfl
theorem ty_65:ty65=tiOf Try.prog 65:=by kernel_rfl
theorem ty_66:ty66=tiOf Try.prog 66:=by kernel_rfl
theorem ty_67:ty67=tiOf Try.prog 67:=by kernel_rfl
theorem ty_68:ty68=tiOf Try.prog 68:=by kernel_rfl
theorem ty_69:ty69=tiOf Try.prog 69:=by kernel_rfl
theorem ty_70:ty70=tiOf Try.prog 70:=by kernel_rfl
theorem ty_71:ty71=tiOf Try.prog 71:=by kernel_rfl
theorem ty_72:ty72=tiOf Try.prog 72:=by kernel_rfl
theorem ty_73:ty73=tiOf Try.prog 73:=by kernel_rfl
theorem ty_74:ty74=tiOf Try.prog 74:=by kernel_rfl
theorem ty_75:ty75=tiOf Try.prog 75:=by kernel_rfl
theorem ty_76:ty76=tiOf Try.prog 76:=by kernel_rfl
theorem ty_77:ty77=tiOf Try.prog 77:=by kernel_rfl
theorem ty_78:ty78=tiOf Try.prog 78:=by kernel_rfl
theorem ty_79:ty79=tiOf Try.prog 79:=by kernel_rfl
theorem ty_80:ty80=tiOf Try.prog 80:=by kernel_rfl
theorem ty_81:ty81=tiOf Try.prog 81:=by kernel_rfl
theorem ty_82:ty82=tiOf Try.prog 82:=by kernel_rfl
theorem ty_83:ty83=tiOf Try.prog 83:=by kernel_rfl
theorem ty_84:ty84=tiOf Try.prog 84:=by kernel_rfl
theorem ty_85:ty85=tiOf Try.prog 85:=by kernel_rfl
theorem ty_86:ty86=tiOf Try.prog 86:=by kernel_rfl
theorem ty_87:ty87=tiOf Try.prog 87:=by kernel_rfl
theorem ty_88:ty88=tiOf Try.prog 88:=by kernel_rfl
theorem ty_89:ty89=tiOf Try.prog 89:=by kernel_rfl
theorem ty_90:ty90=tiOf Try.prog 90:=by kernel_rfl
theorem ty_91:ty91=tiOf Try.prog 91:=by kernel_rfl
theorem ty_92:ty92=tiOf Try.prog 92:=by kernel_rfl
theorem ty_93:ty93=tiOf Try.prog 93:=by kernel_rfl
theorem ty_94:ty94=tiOf Try.prog 94:=by kernel_rfl
theorem ty_95:ty95=tiOf Try.prog 95:=by kernel_rfl
theorem ty_96:ty96=tiOf Try.prog 96:=by kernel_rfl
theorem ty_97:ty97=tiOf Try.prog 97:=by kernel_rfl
theorem ty_98:ty98=tiOf Try.prog 98:=by kernel_rfl
theorem ty_99:ty99=tiOf Try.prog 99:=by kernel_rfl
theorem ty_100:ty100=tiOf Try.prog 100:=by kernel_rfl
theorem ty_101:ty101=tiOf Try.prog 101:=by kernel_rfl
theorem ty_102:ty102=tiOf Try.prog 102:=by kernel_rfl
theorem ty_103:ty103=tiOf Try.prog 103:=by kernel_rfl
theorem ty_104:ty104=tiOf Try.prog 104:=by kernel_rfl
theorem ty_105:ty105=tiOf Try.prog 105:=by kernel_rfl
theorem ty_106:ty106=tiOf Try.prog 106:=by kernel_rfl
theorem ty_107:ty107=tiOf Try.prog 107:=by kernel_rfl
theorem ty_108:ty108=tiOf Try.prog 108:=by kernel_rfl
theorem ty_109:ty109=tiOf Try.prog 109:=by kernel_rfl
theorem ty_110:ty110=tiOf Try.prog 110:=by kernel_rfl
theorem ty_111:ty111=tiOf Try.prog 111:=by kernel_rfl
theorem ty_112:ty112=tiOf Try.prog 112:=by kernel_rfl
theorem ty_113:ty113=tiOf Try.prog 113:=by kernel_rfl
theorem ty_114:ty114=tiOf Try.prog 114:=by kernel_rfl
theorem ty_115:ty115=tiOf Try.prog 115:=by kernel_rfl
theorem ty_116:ty116=tiOf Try.prog 116:=by kernel_rfl
theorem ty_117:ty117=tiOf Try.prog 117:=by kernel_rfl
theorem ty_118:ty118=tiOf Try.prog 118:=by kernel_rfl
theorem ty_119:ty119=tiOf Try.prog 119:=by kernel_rfl
theorem ty_120:ty120=tiOf Try.prog 120:=by kernel_rfl
theorem ty_121:ty121=tiOf Try.prog 121:=by kernel_rfl
theorem ty_122:ty122=tiOf Try.prog 122:=by kernel_rfl
theorem ty_123:ty123=tiOf Try.prog 123:=by kernel_rfl
theorem ty_124:ty124=tiOf Try.prog 124:=by kernel_rfl
theorem ty_125:ty125=tiOf Try.prog 125:=by kernel_rfl
theorem ty_126:ty126=tiOf Try.prog 126:=by kernel_rfl
theorem ty_127:ty127=tiOf Try.prog 127:=by kernel_rfl
theorem ty_128:ty128=tiOf Try.prog 128:=by kernel_rfl
theorem ty_129:ty129=tiOf Try.prog 129:=by kernel_rfl
theorem ty_130:ty130=tiOf Try.prog 130:=by kernel_rfl
theorem ty_131:ty131=tiOf Try.prog 131:=by kernel_rfl
theorem ty_132:ty132=tiOf Try.prog 132:=by kernel_rfl
theorem ty_133:ty133=tiOf Try.prog 133:=by kernel_rfl
theorem ty_134:ty134=tiOf Try.prog 134:=by kernel_rfl
theorem ty_135:ty135=tiOf Try.prog 135:=by kernel_rfl
theorem ty_136:ty136=tiOf Try.prog 136:=by kernel_rfl
theorem ty_137:ty137=tiOf Try.prog 137:=by kernel_rfl
theorem ty_138:ty138=tiOf Try.prog 138:=by kernel_rfl
theorem ty_139:ty139=tiOf Try.prog 139:=by kernel_rfl
theorem ty_140:ty140=tiOf Try.prog 140:=by kernel_rfl
theorem ty_141:ty141=tiOf Try.prog 141:=by kernel_rfl
theorem ty_142:ty142=tiOf Try.prog 142:=by kernel_rfl
theorem ty_143:ty143=tiOf Try.prog 143:=by kernel_rfl
theorem ty_144:ty144=tiOf Try.prog 144:=by kernel_rfl
theorem ty_145:ty145=tiOf Try.prog 145:=by kernel_rfl
theorem ty_146:ty146=tiOf Try.prog 146:=by kernel_rfl
theorem ty_147:ty147=tiOf Try.prog 147:=by kernel_rfl
theorem ty_148:ty148=tiOf Try.prog 148:=by kernel_rfl
theorem ty_149:ty149=tiOf Try.prog 149:=by kernel_rfl
theorem ty_150:ty150=tiOf Try.prog 150:=by kernel_rfl
theorem ty_151:ty151=tiOf Try.prog 151:=by kernel_rfl
theorem ty_152:ty152=tiOf Try.prog 152:=by kernel_rfl
theorem ty_153:ty153=tiOf Try.prog 153:=by kernel_rfl
theorem ty_eq (t:Nat):ty Try.prog t=tiOf Try.prog t:=TT.ok (tt:=tt) (And.intro ty_0 (And.intro (And.intro ty_1 (And.intro (And.intro ty_3 (And.intro (And.intro ty_7 (And.intro (And.intro ty_15 (And.intro (And.intro ty_31 (And.intro (And.intro ty_63 (And.intro (And.intro ty_127 (And.intro (Nat.le_of_ble_eq_true rfl) (Nat.le_of_ble_eq_true rfl))) (Nat.le_of_ble_eq_true rfl))) (And.intro ty_95 (And.intro (Nat.le_of_ble_eq_true rfl) (Nat.le_of_ble_eq_true rfl))))) (And.intro ty_47 (And.intro (And.intro ty_79 (And.intro (And.intro ty_143 (And.intro (Nat.le_of_ble_eq_true rfl) (Nat.le_of_ble_eq_true rfl))) (Nat.le_of_ble_eq_true rfl))) (And.intro ty_111 (And.intro (Nat.le_of_ble_eq_true rfl) (Nat.le_of_ble_eq_true rfl))))))) (And.intro ty_23 (And.intro (And.intro ty_39 (And.intro (And.intro ty_71 (And.intro (And.intro ty_135 (And.intro (Nat.le_of_ble_eq_true rfl) (Nat.le_of_ble_eq_true rfl))) (Nat.le_of_ble_eq_true rfl))) (And.intro ty_103 (And.intro (Nat.le_of_ble_eq_true rfl) (Nat.le_of_ble_eq_true rfl))))) (And.intro ty_55 (And.intro (And.intro ty_87 (And.intro (And.intro ty_151 (And.intro (Nat.le_of_ble_eq_true rfl) (Nat.le_of_ble_eq_true rfl))) (Nat.le_of_ble_eq_true rfl))) (And.intro ty_119 (And.intro (Nat.le_of_ble_eq_true rfl) (Nat.le_of_ble_eq_true rfl))))))))) (And.intro ty_11 (And.intro (And.intro ty_19 (And.intro (And.intro ty_35 (And.intro (And.intro ty_67 (And.intro (And.intro ty_131 (And.intro (Nat.le_of_ble_eq_true rfl) (Nat.le_of_ble_eq_true rfl))) (Nat.le_of_ble_eq_true rfl))) (And.intro ty_99 (And.intro (Nat.le_of_ble_eq_true rfl) (Nat.le_of_ble_eq_true rfl))))) (And.intro ty_51 (And.intro (And.intro ty_83 (And.intro (And.intro ty_147 (And.intro (Nat.le_of_ble_eq_true rfl) (Nat.le_of_ble_eq_true rfl))) (Nat.le_of_ble_eq_true rfl))) (And.intro ty_115 (And.intro (Nat.le_of_ble_eq_true rfl) (Nat.le_of_ble_eq_true rfl))))))) (And.intro ty_27 (And.intro (And.intro ty_43 (And.intro (And.intro ty_75 (And.intro (And.intro ty_139 (And.intro (Nat.le_of_ble_eq_true rfl) (Nat.le_of_ble_eq_true rfl))) (Nat.le_of_ble_eq_true rfl))) (And.intro ty_107 (And.intro (Nat.le_of_ble_eq_true rfl) (Nat.le_of_ble_eq_true rfl))))) (And.intro ty_59 (And.intro (And.intro ty_91 (And.intro (Nat.le_of_ble_eq_true rfl) (Nat.le_of_ble_eq_true rfl))) (And.intro ty_123 (And.intro (Nat.le_of_ble_eq_true rfl) (Nat.le_of_ble_eq_true rfl))))))))))) (And.intro ty_5 (And.intro (And.intro ty_9 (And.intro (And.intro ty_17 (And.intro (And.intro ty_33 (And.intro (And.intro ty_65 (And.intro (And.intro ty_129 (And.intro (Nat.le_of_ble_eq_true rfl) (Nat.le_of_ble_eq_true rfl))) (Nat.le_of_ble_eq_true rfl))) (And.intro ty_97 (And.intro (Nat.le_of_ble_eq_true rfl) (Nat.le_of_ble_eq_true rfl))))) (And.intro ty_49 (And.intro (And.intro ty_81 (And.intro (And.intro ty_145 (And.intro (Nat.le_of_ble_eq_true rfl) (Nat.le_of_ble_eq_true rfl))) (Nat.le_of_ble_eq_true rfl))) (And.intro ty_113 (And.intro (Nat.le_of_ble_eq_true rfl) (Nat.le_of_ble_eq_true rfl))))))) (And.intro ty_25 (And.intro (And.intro ty_41 (And.intro (And.intro ty_73 (And.intro (And.intro ty_137 (And.intro (Nat.le_of_ble_eq_true rfl) (Nat.le_of_ble_eq_true rfl))) (Nat.le_of_ble_eq_true rfl))) (And.intro ty_105 (And.intro (Nat.le_of_ble_eq_true rfl) (Nat.le_of_ble_eq_true rfl))))) (And.intro ty_57 (And.intro (And.intro ty_89 (And.intro (And.intro ty_153 (And.intro (Nat.le_of_ble_eq_true rfl) (Nat.le_of_ble_eq_true rfl))) (Nat.le_of_ble_eq_true rfl))) (And.intro ty_121 (And.intro (Nat.le_of_ble_eq_true rfl) (Nat.le_of_ble_eq_true rfl))))))))) (And.intro ty_13 (And.intro (And.intro ty_21 (And.intro (And.intro ty_37 (And.intro (And.intro ty_69 (And.intro (And.intro ty_133 (And.intro (Nat.le_of_ble_eq_true rfl) (Nat.le_of_ble_eq_true rfl))) (Nat.le_of_ble_eq_true rfl))) (And.intro ty_101 (And.intro (Nat.le_of_ble_eq_true rfl) (Nat.le_of_ble_eq_true rfl))))) (And.intro ty_53 (And.intro (And.intro ty_85 (And.intro (And.intro ty_149 (And.intro (Nat.le_of_ble_eq_true rfl) (Nat.le_of_ble_eq_true rfl))) (Nat.le_of_ble_eq_true rfl))) (And.intro ty_117 (And.intro (Nat.le_of_ble_eq_true rfl) (Nat.le_of_ble_eq_true rfl))))))) (And.intro ty_29 (And.intro (And.intro ty_45 (And.intro (And.intro ty_77 (And.intro (And.intro ty_141 (And.intro (Nat.le_of_ble_eq_true rfl) (Nat.le_of_ble_eq_true rfl))) (Nat.le_of_ble_eq_true rfl))) (And.intro ty_109 (And.intro (Nat.le_of_ble_eq_true rfl) (Nat.le_of_ble_eq_true rfl))))) (And.intro ty_61 (And.intro (And.intro ty_93 (And.intro (Nat.le_of_ble_eq_true rfl) (Nat.le_of_ble_eq_true rfl))) (And.intro ty_125 (And.intro (Nat.le_of_ble_eq_true rfl) (Nat.le_of_ble_eq_true rfl))))))))))))) (And.intro ty_2 (And.intro (And.intro ty_4 (And.intro (And.intro ty_8 (And.intro (And.intro ty_16 (And.intro (And.intro ty_32 (And.intro (And.intro ty_64 (And.intro (And.intro ty_128 (And.intro (Nat.le_of_ble_eq_true rfl) (Nat.le_of_ble_eq_true rfl))) (Nat.le_of_ble_eq_true rfl))) (And.intro ty_96 (And.intro (Nat.le_of_ble_eq_true rfl) (Nat.le_of_ble_eq_true rfl))))) (And.intro ty_48 (And.intro (And.intro ty_80 (And.intro (And.intro ty_144 (And.intro (Nat.le_of_ble_eq_true rfl) (Nat.le_of_ble_eq_true rfl))) (Nat.le_of_ble_eq_true rfl))) (And.intro ty_112 (And.intro (Nat.le_of_ble_eq_true rfl) (Nat.le_of_ble_eq_true rfl))))))) (And.intro ty_24 (And.intro (And.intro ty_40 (And.intro (And.intro ty_72 (And.intro (And.intro ty_136 (And.intro (Nat.le_of_ble_eq_true rfl) (Nat.le_of_ble_eq_true rfl))) (Nat.le_of_ble_eq_true rfl))) (And.intro ty_104 (And.intro (Nat.le_of_ble_eq_true rfl) (Nat.le_of_ble_eq_true rfl))))) (And.intro ty_56 (And.intro (And.intro ty_88 (And.intro (And.intro ty_152 (And.intro (Nat.le_of_ble_eq_true rfl) (Nat.le_of_ble_eq_true rfl))) (Nat.le_of_ble_eq_true rfl))) (And.intro ty_120 (And.intro (Nat.le_of_ble_eq_true rfl) (Nat.le_of_ble_eq_true rfl))))))))) (And.intro ty_12 (And.intro (And.intro ty_20 (And.intro (And.intro ty_36 (And.intro (And.intro ty_68 (And.intro (And.intro ty_132 (And.intro (Nat.le_of_ble_eq_true rfl) (Nat.le_of_ble_eq_true rfl))) (Nat.le_of_ble_eq_true rfl))) (And.intro ty_100 (And.intro (Nat.le_of_ble_eq_true rfl) (Nat.le_of_ble_eq_true rfl))))) (And.intro ty_52 (And.intro (And.intro ty_84 (And.intro (And.intro ty_148 (And.intro (Nat.le_of_ble_eq_true rfl) (Nat.le_of_ble_eq_true rfl))) (Nat.le_of_ble_eq_true rfl))) (And.intro ty_116 (And.intro (Nat.le_of_ble_eq_true rfl) (Nat.le_of_ble_eq_true rfl))))))) (And.intro ty_28 (And.intro (And.intro ty_44 (And.intro (And.intro ty_76 (And.intro (And.intro ty_140 (And.intro (Nat.le_of_ble_eq_true rfl) (Nat.le_of_ble_eq_true rfl))) (Nat.le_of_ble_eq_true rfl))) (And.intro ty_108 (And.intro (Nat.le_of_ble_eq_true rfl) (Nat.le_of_ble_eq_true rfl))))) (And.intro ty_60 (And.intro (And.intro ty_92 (And.intro (Nat.le_of_ble_eq_true rfl) (Nat.le_of_ble_eq_true rfl))) (And.intro ty_124 (And.intro (Nat.le_of_ble_eq_true rfl) (Nat.le_of_ble_eq_true rfl))))))))))) (And.intro ty_6 (And.intro (And.intro ty_10 (And.intro (And.intro ty_18 (And.intro (And.intro ty_34 (And.intro (And.intro ty_66 (And.intro (And.intro ty_130 (And.intro (Nat.le_of_ble_eq_true rfl) (Nat.le_of_ble_eq_true rfl))) (Nat.le_of_ble_eq_true rfl))) (And.intro ty_98 (And.intro (Nat.le_of_ble_eq_true rfl) (Nat.le_of_ble_eq_true rfl))))) (And.intro ty_50 (And.intro (And.intro ty_82 (And.intro (And.intro ty_146 (And.intro (Nat.le_of_ble_eq_true rfl) (Nat.le_of_ble_eq_true rfl))) (Nat.le_of_ble_eq_true rfl))) (And.intro ty_114 (And.intro (Nat.le_of_ble_eq_true rfl) (Nat.le_of_ble_eq_true rfl))))))) (And.intro ty_26 (And.intro (And.intro ty_42 (And.intro (And.intro ty_74 (And.intro (And.intro ty_138 (And.intro (Nat.le_of_ble_eq_true rfl) (Nat.le_of_ble_eq_true rfl))) (Nat.le_of_ble_eq_true rfl))) (And.intro ty_106 (And.intro (Nat.le_of_ble_eq_true rfl) (Nat.le_of_ble_eq_true rfl))))) (And.intro ty_58 (And.intro (And.intro ty_90 (And.intro (Nat.le_of_ble_eq_true rfl) (Nat.le_of_ble_eq_true rfl))) (And.intro ty_122 (And.intro (Nat.le_of_ble_eq_true rfl) (Nat.le_of_ble_eq_true rfl))))))))) (And.intro ty_14 (And.intro (And.intro ty_22 (And.intro (And.intro ty_38 (And.intro (And.intro ty_70 (And.intro (And.intro ty_134 (And.intro (Nat.le_of_ble_eq_true rfl) (Nat.le_of_ble_eq_true rfl))) (Nat.le_of_ble_eq_true rfl))) (And.intro ty_102 (And.intro (Nat.le_of_ble_eq_true rfl) (Nat.le_of_ble_eq_true rfl))))) (And.intro ty_54 (And.intro (And.intro ty_86 (And.intro (And.intro ty_150 (And.intro (Nat.le_of_ble_eq_true rfl) (Nat.le_of_ble_eq_true rfl))) (Nat.le_of_ble_eq_true rfl))) (And.intro ty_118 (And.intro (Nat.le_of_ble_eq_true rfl) (Nat.le_of_ble_eq_true rfl))))))) (And.intro ty_30 (And.intro (And.intro ty_46 (And.intro (And.intro ty_78 (And.intro (And.intro ty_142 (And.intro (Nat.le_of_ble_eq_true rfl) (Nat.le_of_ble_eq_true rfl))) (Nat.le_of_ble_eq_true rfl))) (And.intro ty_110 (And.intro (Nat.le_of_ble_eq_true rfl) (Nat.le_of_ble_eq_true rfl))))) (And.intro ty_62 (And.intro (And.intro ty_94 (And.intro (Nat.le_of_ble_eq_true rfl) (Nat.le_of_ble_eq_true rfl))) (And.intro ty_126 (And.intro (Nat.le_of_ble_eq_true rfl) (Nat.le_of_ble_eq_true rfl))))))))))))))) t
end Go.AL.Rl
namespace Go.AL
open Go Go.RowKit
def Tr.top:Tr→AV | .nil=>.undef | .node v _ _=>v
def Tr.lf:Tr→Tr | .nil=>.nil | .node _ l _=>l
def Tr.rt:Tr→Tr | .nil=>.nil | .node _ _ r=>r
theorem Tr.set'_succ (t:Tr) (f n:Nat) (v:AV):t.set' (f+1) n v=if n=0 then .node v t.lf t.rt else if n % 2=1 then .node t.top (t.lf.set' f (n / 2) v) t.rt else .node t.top t.lf (t.rt.set' f (n / 2-1) v):=by
 cases t<;>simp only [Tr.set',Tr.top,Tr.lf,Tr.rt]
theorem Tr.set'_comm:∀ (f:Nat) (t:Tr) (n m:Nat) (v u:AV),n≠m→(t.set' f n v).set' f m u=(t.set' f m u).set' f n v
 | 0,t,n,m,v,u,_=>by cases t<;>rfl
 | f+1,t,n,m,v,u,h=>by
  by_cases n0:n=0
  ·by_cases m0:m=0
   ·omega
   ·by_cases m1:m % 2=1<;>simp [Tr.set'_succ,n0,m0,m1,Tr.top,Tr.lf,Tr.rt]
  ·by_cases m0:m=0
   ·by_cases n1:n % 2=1<;>simp [Tr.set'_succ,n0,m0,n1,Tr.top,Tr.lf,Tr.rt]
   ·by_cases n1:n % 2=1<;>by_cases m1:m % 2=1<;>simp only [Tr.set'_succ,n0,m0,n1,m1,if_true,if_false,Tr.top,Tr.lf,Tr.rt]
    ·rw [Tr.set'_comm f _ _ _ _ _ (by omega)]
    ·rw [Tr.set'_comm f _ _ _ _ _ (by omega)]
theorem St.put_comm (A:St) {x y:Option Tmp} (v u:AV) (h:∀ d,x=some d→y≠some d):(A.put x v).put y u=(A.put y u).put x v:=by
 cases x with
 | none=>rfl
 | some d=>
  cases y with
  | none=>rfl
  | some e=>
   have hne:d≠e:=fun he=>h d rfl (he ▸ rfl)
   simp only [St.put]
   by_cases h1:d<A.n<;>by_cases h2:e<A.n<;>simp only [h1,h2,if_true,if_false]
   rw [Tr.set'_comm 10 _ _ _ _ _ hne]
theorem St.put_n (A:St) (x:Option Tmp) (v:AV):(A.put x v).n=A.n:=by cases x<;>simp only [St.put];split<;>rfl
theorem St.put_h (A:St) (x:Option Tmp) (v:AV):(A.put x v).h=A.h:=by cases x<;>simp only [St.put];split<;>rfl
theorem St.put_get {A:St} (hn:A.n≤1000) {x:Option Tmp} {m:Nat} (v:AV) (h:x≠some m):(A.put x v).s.get m=A.s.get m:=by
 cases x with
 | none=>rfl
 | some d=>
  simp only [St.put]
  split
  ·rename_i hd
   have hd:@LT.lt Nat _ d A.n:=hd
   show (A.s.set' 10 d v).get m=_
   rw [Tr.get_set' 10 _ _ _ _ (by omega),if_neg (fun e=>h (by rw [e]))]
  ·rfl
theorem St.put_ev {γ:Nat→Option AV} {A:St} (hn:A.n≤1000) {x:Option Tmp} (v:AV) {o:Operand} (h:∀ d,x=some d→o≠.tmp d):(A.put x v).ev γ o=A.ev γ o:=by
 cases o with
 | tmp t=>exact St.put_get hn v (fun e=>h t e rfl)
 | _=>rfl
def wantA (ops:Array Oper) (o:Oper) (A:St):Option Bool:=
 match o.guard with
 | none=>some true
 | some (j,want)=>match (ops[j]?).bind (·.dst) with
  | some d=>match A.s.get d with
   | .tt=>some want
   | .ff=>some (!want)
   | .undef=>some false
   | _=>none
  | none=>none
section
variable {P:Program} {γ:Nat→Option AV} {ops:Array Oper} {md:Region.Mode} {al:Option AV}
theorem wantA_sound {B:Nat} {S:Nat→Prop} {ρ:List Loc} {A:St} {a:Act} {w:World} (hs:Sim B S γ ρ A a w) {o:Oper} {b:Bool} (h:wantA ops o A=some b):Region.wanted o (yielded ops a.tmps)=b:=by
 unfold wantA at h
 unfold Region.wanted
 cases hg:o.guard with
 | none=>rw [hg] at h;cases h;rfl
 | some g=>
  obtain ⟨j,want⟩:=g
  rw [hg] at h
  simp only at h ⊢
  cases hd:(ops[j]?).bind (·.dst) with
  | none=>rw [hd] at h;cases h
  | some d=>
   rw [hd] at h
   simp only at h
   have hslot:=hs.slot d
   obtain ⟨oj,hj,hd'⟩:∃ oj,ops[j]?=some oj∧oj.dst=some d:=by
    cases hj:ops[j]? with
    | none=>rw [hj] at hd;cases hd
    | some oj=>rw [hj] at hd;exact ⟨oj,rfl,hd⟩
   have hy:yielded ops a.tmps j=match a.tmps.getD d Go.undef with | .bool b=>some b | _=>none:=yielded_eq (ops:=ops) (by simpa using hj) hd' a.tmps
   rw [hy]
   split at h
   ·rename_i e;rw [e] at hslot
    have e2:a.tmps.getD d Go.undef=.bool true:=hslot
    rw [e2];have h:=Option.some.inj h;subst h;cases want<;>rfl
   ·rename_i e;rw [e] at hslot
    have e2:a.tmps.getD d Go.undef=.bool false:=hslot
    rw [e2];have h:=Option.some.inj h;subst h;cases want<;>rfl
   ·rename_i e;rw [e] at hslot
    have e2:a.tmps.getD d Go.undef=Go.undef:=hslot
    rw [e2];cases h;simp [Go.undef]
   ·cases h
theorem wantA_put {o:Oper} {A:St} (hn:A.n≤1000) {dst:Option Tmp} {v:AV} (h:∀ d,dst=some d→d∉o.looksAt ops):wantA ops o (A.put dst v)=wantA ops o A:=by
 unfold wantA
 cases hg:o.guard with
 | none=>rfl
 | some g=>
  obtain ⟨j,want⟩:=g
  simp only
  cases hd:(ops[j]?).bind (·.dst) with
  | none=>rfl
  | some d=>
   simp only
   rw [St.put_get hn v (fun e=>h d e (by unfold Oper.looksAt;rw [hg];simp [hd]))]
theorem QOp.congr {o:Oper} {e e':Operand→AV} {h:List Blk} {v:AV} (hq:QOp P γ o e h v) (he:∀ x∈o.op.operands,e' x=e x):QOp P γ o e' h v:=
 fun B S ρ w re a next Q' hh hx hn=>hq B S ρ w re a next Q' hh (fun x hm=>he x hm ▸ hx x hm) hn
def YieldsA (P:Program) (γ:Nat→Option AV) (al:Option AV) (ops:Array Oper) (o:Oper) (v:AV) (A:St):Prop:=
 (((∀ t,o.op≠.alloc t)∧wantA ops o A=some true∧QOp P γ o (A.ev γ) A.h v)∨(wantA ops o A=some false∧v=.undef)) ∨
  ∃ t z h0,o.op=.alloc t∧o.guard=none∧al=some z∧(tiOf P t).k.isOther=false∧(tiOf P t).zero=some z∧z.flat=true∧A.h=h0++[Blk.any]∧v=.ptr h0.length 0
def aOp (P:Program) (γ:Nat→Option AV) (al:Option AV) (ops:Array Oper) (i:Nat) (K:St→Prop) (A:St):Prop:=
 match ops[i]? with
 | none=>K A
 | some o=>∃ v,YieldsA P γ al ops o v A∧K (A.put o.dst v)
theorem aOp_mono {i:Nat} {A:St} {K K':St→Prop} (hn:A.n≤1000) (h:∀ A,A.n≤1000→K A→K' A) (hh:aOp P γ al ops i K A):aOp P γ al ops i K' A:=by
 unfold aOp at *
 split
 ·rename_i ho;simp only [ho] at hh;exact h _ hn hh
 ·rename_i o ho
  simp only [ho] at hh
  obtain ⟨v,h1,h2⟩:=hh
  exact ⟨v,h1,h _ (by rw [St.put_n];exact hn) h2⟩
theorem YieldsA.put {o:Oper} {v:AV} {A:St} (hn:A.n≤1000) (hy:YieldsA P γ al ops o v A) {dst:Option Tmp} {u:AV} (h:∀ d,dst=some d→d∉o.looksAt ops):YieldsA P γ al ops o v (A.put dst u):=by
 unfold YieldsA at *
 rw [wantA_put hn h,St.put_h]
 refine hy.imp (fun hy=>hy.imp (fun ⟨h0,h1,h2⟩=>⟨h0,h1,h2.congr fun x hx=>St.put_ev hn u fun d hd e=>?_⟩) id) id
 subst e
 exact h d hd (List.mem_append_left _ (List.mem_filterMap.2 ⟨.tmp d,by simpa using hx,rfl⟩))
theorem YieldsA.unput {o:Oper} {v:AV} {A:St} (hn:A.n≤1000) {dst:Option Tmp} {u:AV} (hy:YieldsA P γ al ops o v (A.put dst u)) (h:∀ d,dst=some d→d∉o.looksAt ops):YieldsA P γ al ops o v A:=by
 unfold YieldsA at *
 rw [wantA_put hn h,St.put_h] at hy
 refine hy.imp (fun hy=>hy.imp (fun ⟨h0,h1,h2⟩=>⟨h0,h1,h2.congr fun x hx=>(St.put_ev hn u fun d hd e=>?_).symm⟩) id) id
 subst e
 exact h d hd (List.mem_append_left _ (List.mem_filterMap.2 ⟨.tmp d,by simpa using hx,rfl⟩))
theorem aOp_put {j:Nat} {oi oj:Oper} {v:AV} (hj:ops[j]?=some oj) (hap:oi.apart ops oj=true) {K:St→Prop} {A:St} (hn:A.n≤1000)
  (hy:YieldsA P γ al ops oi v A) (h:aOp P γ al ops j K (A.put oi.dst v)):aOp P γ al ops j (fun A'=>YieldsA P γ al ops oi v A'∧K (A'.put oi.dst v)) A:=by
 obtain ⟨h1,h2,h3⟩:=Oper.apart_spec hap
 unfold aOp at *
 simp only [hj] at *
 obtain ⟨u,hu,hK⟩:=h
 exact ⟨u,hu.unput hn h1,hy.put hn h3,by rw [←St.put_comm A v u h2];exact hK⟩
def wpAnyA (P:Program) (γ:Nat→Option AV) (al:Option AV) (md:Region.Mode) (ops:Array Oper) (n:Nat) (L:Array Bool→St→Prop):Nat→Array Bool→St→Prop
 | 0,listed,A=>L listed A
 | f+1,listed,A=>Region.ready md ops listed≠[]∧∀ i∈Region.ready md ops listed,i<n∧aOp P γ al ops i (wpAnyA P γ al md ops n L f (listed.setIfInBounds i true)) A
theorem wpOp_of_aOp {B:Nat} {S:Nat→Prop} {ρ:List Loc} {A:St} {a:Act} {w:World} (hs:Sim B S γ ρ A a w) {i:Nat} {K:St→Prop} {K':Act→World→Prop} {Q':Exit→Act→World→Prop}
  (h:aOp P γ none ops i K A) (hK:∀ S' A' a' w',K A'→Sim B S' γ ρ A' a' w'→ExtQ S w S' w'→K' a' w'):wpOp P ops Q' i K' a w:=by
 unfold aOp at h
 unfold wpOp
 split
 ·rename_i ho;simp only [ho] at h;exact hK S A a w h hs (ExtQ.refl S w)
 ·rename_i o ho
  simp only [ho] at h
  obtain ⟨v,hy,hk⟩:=h
  rcases hy with (⟨_,h1,h2⟩ | ⟨h1,h2⟩) | ⟨_,_,_,_,_,h,_⟩
  ·rw [if_pos (wantA_sound hs h1)]
   refine .inl (h2 B S ρ w a.eval a _ _ hs.heap (fun x _=>hs.ev x) fun S' w' v' hq hv=>?_)
   exact hK S' _ _ w' hk ((hs.q hq).put o.dst hv) hq
  ·rw [if_neg (by rw [wantA_sound hs h1];simp)]
   subst h2
   exact hK S _ _ w hk (hs.put o.dst (v:=.undef) (v':=Go.undef) rfl) (ExtQ.refl S w)
  ·cases h
theorem wpAny_of_A {n g:Nat} {L:Array Bool→St→Prop} {Q':Exit→Act→World→Prop} {B:Nat} {S:Nat→Prop} {ρ:List Loc} {w:World}
  (hL:∀ listed S' A a w',L listed A→Sim B S' γ ρ A a w'→ExtQ S w S' w'→wpAny P md ops Q' g listed a w') :
  ∀ (f:Nat) (listed:Array Bool) (S':Nat→Prop) (A:St) (a:Act) (w':World),Sim B S' γ ρ A a w'→ExtQ S w S' w'→wpAnyA P γ none md ops n L f listed A→wpAny P md ops Q' (f+g) listed a w'
 | 0,listed,S',A,a,w',hs,hx,h=>by rw [Nat.zero_add];exact hL _ _ _ _ _ h hs hx
 | f+1,listed,S',A,a,w',hs,hx,h=>by
  rw [show f+1+g=(f+g)+1 by omega]
  exact ⟨fun h0=>absurd h0 h.1,fun i hi=>wpOp_of_aOp hs (h.2 i hi).2 fun S'' A'' a'' w'' hk hs' hq=>wpAny_of_A hL f _ S'' A'' a'' w'' hs' (hx.trans hq) hk⟩
theorem wpAnyA_first {n i:Nat} {oi:Oper} {v:AV} {L:Array Bool→St→Prop} (hi:ops[i]?=some oi) (hin:i<n)
  (hhead:∀ (listed:Array Bool),HeadInv md ops n listed→listed.getD i true=false→∀ j∈Region.ready md ops listed,j<n)
  (hdone:∀ listed A,L listed A→∀ j∈Region.ready md ops listed,n≤j) :
  ∀ (f:Nat) (listed:Array Bool) (A:St),A.n≤1000→HeadInv md ops n listed →
   (∀ j oj,ops[j]?=some oj→j≠i→listed.getD j true=false→(∀ e∈oj.after,Region.binds md e=true→e.on≠i)→oi.apart ops oj=true) →
   i∈Region.ready md ops listed→YieldsA P γ al ops oi v A →
   wpAnyA P γ al md ops n L f (listed.setIfInBounds i true) (A.put oi.dst v)→wpAnyA P γ al md ops n L (f+1) listed A:=by
 intro f
 induction f with
 | zero=>
  intro listed A hn inv _ hr hy H
  have hun:=(mem_ready.1 hr).1
  refine ⟨fun h=>(by rw [h] at hr;cases hr),fun j hj=>?_⟩
  have hjn:j<n:=hhead listed inv hun j hj
  refine ⟨hjn,?_⟩
  by_cases hji:j=i
  ·subst hji;unfold aOp;simp only [hi];exact ⟨v,hy,H⟩
  ·have:=hdone _ _ H j (ready_mono hj hji)
   omega
 | succ f ih=>
  intro listed A hn inv hfree hr hy H
  have hun:=(mem_ready.1 hr).1
  refine ⟨fun h=>(by rw [h] at hr;cases hr),fun j hj=>?_⟩
  have hjn:j<n:=hhead listed inv hun j hj
  refine ⟨hjn,?_⟩
  by_cases hji:j=i
  ·subst hji;unfold aOp;simp only [hi];exact ⟨v,hy,H⟩
  ·have h1:=(H.2 j (ready_mono hj hji)).2
   obtain ⟨hjun,oj,hoj,hall⟩:=mem_ready.1 hj
   have hnot:∀ e∈oj.after,Region.binds md e=true→e.on≠i:=fun e he hb heq=>by
    have h1:=hall e he hb
    rw [heq,getD_both hun] at h1
    cases h1
   have h2:=aOp_put hoj (hfree j oj hoj hji hjun hnot) hn hy h1
   have hfree':∀ k ok,ops[k]?=some ok→k≠i→(listed.setIfInBounds j true).getD k true=false →
     (∀ e∈ok.after,Region.binds md e=true→e.on≠i)→oi.apart ops ok=true:=fun k ok hk hki hun hno=>by
    refine hfree k ok hk hki ?_ hno
    by_cases hjk:j=k
    ·subst hjk;exact hjun
    ·rw [getD_set_ne true hjk] at hun;exact hun
   refine aOp_mono hn (fun A' hn' h3=>ih (listed.setIfInBounds j true) A' hn' (inv.set hj hjn) hfree' (ready_mono hr (Ne.symm hji)) h3.1 ?_) h2
   rw [Array.setIfInBounds_comm _ _ hji]
   exact h3.2
end
end Go.AL
namespace Go.AL
open Go Go.RowKit
def isGuard (ops:Array Oper) (d:Option Tmp):Bool:=
 ops.any fun o=>match o.guard with | some (j,_)=>(match ops[j]? with | some oj=>oj.dst == d | none=>false) | none=>false
def splitG (g:Bool) (v:AV) (k:AV→Prop):Prop:=
 match g with
 | false=>k v
 | true=>match v with
  | .b x=>(∀ _:Unit,x ()=true→k .tt)∧(∀ _:Unit,x ()=false→k .ff)
  | v=>k v
def vhd (τ:Nat→TI) (γ:Nat→Option AV) (C:List Blk→QC) (ops:Array Oper):List Oper→St→(St→Prop)→Prop
 | [],A,K=>K A
 | o :: r,A,K=>match wantA ops o A with
  | some true=>vq τ (C A.h) o.op (A.ev γ) A.h fun v=>splitG (isGuard ops o.dst) v fun v=>vhd τ γ C ops r (A.put o.dst v) K
  | some false=>vhd τ γ C ops r (A.put o.dst .undef) K
  | none=>False
def drawB (ops:Array Oper) (n:Nat):Bool:=
 if n<ops.size then Region.lexTailB .any ops n else Region.noSelect ops && decide (n=ops.size) && Region.lexHead .any ops 0 n 0 (Array.replicate ops.size false)
section
variable {P:Program} {γ:Nat→Option AV} {τ:Nat→TI} {C:EC} {CQ:List Blk→QC}
def wpLexA (P:Program) (γ:Nat→Option AV) (al:Option AV) (ops:Array Oper) (K:St→Prop):List Oper→St→Prop
 | [],A=>K A
 | o :: r,A=>∃ v,YieldsA P γ al ops o v A∧wpLexA P γ al ops K r (A.put o.dst v)
theorem QOp.b {o:Oper} {e:Operand→AV} {h:List Blk} {x:Unit→Bool} (hq:QOp P γ o e h (.b x)) {v:AV} (hv:∀ S w m u,R S w m (.b x) u→R S w m v u):QOp P γ o e h v:=
 fun B S ρ w re a next Q' hh hx hn=>hq B S ρ w re a next Q' hh hx fun S' w' v' h1 h2=>hn S' w' v' h1 (hv S' w' _ v' h2)
theorem vhd_sound (hτ:∀ t,τ t=tiOf P t) (hC:∀ h f args k,CQ h f args k→QCalls P γ h f args k) {ops:Array Oper} {K:St→Prop}:∀ (l:List Oper) (A:St),vhd τ γ CQ ops l A K→wpLexA P γ none ops K l A
 | [],A,h=>h
 | o :: r,A,h=>by
  simp only [vhd] at h
  cases hw:wantA ops o A with
  | none=>rw [hw] at h;exact h.elim
  | some b=>
   rw [hw] at h
   cases b with
   | false=>exact ⟨.undef,.inl (.inr ⟨hw,rfl⟩),vhd_sound hτ hC r _ h⟩
   | true=>
    simp only at h
    have hna:∀ t,o.op≠.alloc t:=fun t e=>by rw [e] at h;exact h
    obtain ⟨v,h1,h2⟩:=vq_sound (γ:=γ) hτ (hC A.h) h
    cases hg:isGuard ops o.dst with
    | false=>rw [hg] at h1;exact ⟨v,.inl (.inl ⟨hna,hw,h2⟩),vhd_sound hτ hC r _ h1⟩
    | true=>
     rw [hg] at h1
     simp only [splitG] at h1
     split at h1
     ·rename_i x
      cases hx:x () with
      | true=>exact ⟨.tt,.inl (.inl ⟨hna,hw,h2.b fun S w m u hu=>by have hu:u=.bool (x ()):=hu;rw [hx] at hu;exact hu⟩),vhd_sound hτ hC r _ (h1.1 () hx)⟩
      | false=>exact ⟨.ff,.inl (.inl ⟨hna,hw,h2.b fun S w m u hu=>by have hu:u=.bool (x ()):=hu;rw [hx] at hu;exact hu⟩),vhd_sound hτ hC r _ (h1.2 () hx)⟩
     ·exact ⟨v,.inl (.inl ⟨hna,hw,h2⟩),vhd_sound hτ hC r _ h1⟩
theorem wpAnyA_lex {al:Option AV} {md:Region.Mode} {ops:Array Oper} {n g:Nat} {Lq:St→Prop}
  (hhead:∀ (i:Nat),i<n→∀ (listed:Array Bool),HeadInv md ops n listed→listed.getD i true=false→∀ j∈Region.ready md ops listed,j<n) :
  ∀ (l:List Oper) (k:Nat) (listed:Array Bool) (A:St),A.n≤1000→(∀ j,j<l.length→l[j]?=ops[k+j]?)→k+l.length=n→HeadInv md ops n listed →
  Region.lexHead md ops g l.length k listed=true→(∀ j,j<k→listed.getD j true=true)→wpLexA P γ al ops Lq l A →
  wpAnyA P γ al md ops n (fun listed' A'=>(Region.seqB md ops g n listed'=true∧∀ j,j<n→listed'.getD j true=true)∧Lq A') l.length listed A
 | [],k,listed,A,hn,_,hk,_,hB,hd,h=>by
  have:k=n:=by simpa using hk
  subst this
  exact ⟨⟨by simpa [Region.lexHead] using hB,hd⟩,h⟩
 | o :: l,k,listed,A,hn,hl,hk,inv,hB,hd,h=>by
  have h0:ops[k]?=some o:=by simpa using (hl 0 (by simp)).symm
  simp only [List.length_cons,Region.lexHead,Bool.and_eq_true] at hB
  obtain ⟨⟨hr,hf⟩,hB'⟩:=hB
  have hkn:k<n:=by simp only [List.length_cons] at hk;omega
  have hr':k∈Region.ready md ops listed:=by simpa using hr
  obtain ⟨v,hy,hK⟩:=h
  exact wpAnyA_first h0 hkn (hhead k hkn) (fun listed' A' hL=>seqB_ready hL.1.1) l.length listed A hn inv (Region.free_spec h0 hf) hr' hy
   (wpAnyA_lex hhead l (k+1) _ _ (by rw [St.put_n];exact hn) (fun j hj=>by have:=hl (j+1) (by simp;omega);simpa [Nat.add_assoc,Nat.add_comm 1 j] using this) (by simp only [List.length_cons] at hk;omega) (inv.set hr' hkn) hB' (fun j hj=>by
    by_cases e:k=j
    ·subst e
     have hlt:k<listed.size:=by
      rcases Nat.lt_or_ge k listed.size with h | h
      ·exact h
      ·have:=(mem_ready.1 hr').1;rw [Array.getD_eq_getD_getElem?,Array.getElem?_eq_none h] at this;cases this
     rw [Array.getD_eq_getD_getElem?,Array.getElem?_setIfInBounds_self_of_lt hlt];rfl
    ·rw [getD_set_ne true e];exact hd j (by omega)) hK)
theorem any_region_A {Q:Exit→Act→World→Prop} {ops:Array Oper} {B:Nat} {S:Nat→Prop} {ρ:List Loc} {A:St} {a:Act} {w:World} {K:St→Prop} (n:Nat) (hB:drawB ops n=true) (hs:Sim B S γ ρ A a w)
  (h:wpLexA P γ none ops K (ops.toList.take n) A) (hK:∀ S' A' a' w',K A'→Sim B S' γ ρ A' a' w'→Ext B S ρ w S' ρ w'→wpList P ops Q (ops.toList.drop n) a' w'):wpAny P .any ops Q ops.size (Array.replicate ops.size false) a { w with drawn:=w.drawn+1 }:=by
 have hs1:Sim B S γ ρ A a { w with drawn:=w.drawn+1 }∧ExtQ S w S { w with drawn:=w.drawn+1 }:=by
  have hq:ExtQ S w S { w with drawn:=w.drawn+1 }:=⟨⟨rfl,rfl,rfl,Nat.le_refl _,fun _ _=>rfl⟩,fun _ _=>rfl,fun _ h=>h,fun _ h=>.inl h⟩
  exact ⟨hs.q hq,hq⟩
 have inv0:HeadInv .any ops n (Array.replicate ops.size false):=
  ⟨by simp,fun j oj _ hl=>(by rw [getD_replicate_false] at hl;cases hl),fun t _ ht=>getD_in (by simpa using ht) (getD_replicate_false _ _)⟩
 have fin:∀ (g:Nat),n+g=ops.size→(∀ (i:Nat),i<n→∀ (listed:Array Bool),HeadInv .any ops n listed→listed.getD i true=false→∀ j∈Region.ready .any ops listed,j<n) →
   Region.lexHead .any ops g n 0 (Array.replicate ops.size false)=true→wpAny P .any ops Q ops.size (Array.replicate ops.size false) a { w with drawn:=w.drawn+1 }:=by
  intro g hg hhead hlex
  have htl:(ops.toList.take n).length=n:=by simp;omega
  have hdl:(ops.toList.drop n).length=g:=by simp;omega
  have H:=wpAnyA_lex (P:=P) (γ:=γ) (md:=.any) (g:=g) hhead (ops.toList.take n) 0 (Array.replicate ops.size false) A hs.small (fun j hj=>by
   have hj':j<n:=by rw [htl] at hj;exact hj
   simp [hj']) (by simpa using htl) inv0 (by rw [htl];exact hlex) (fun j hj=>absurd hj (by omega)) h
  have:=wpAny_of_A (P:=P) (γ:=γ) (Q':=Q) (g:=g) (B:=B) (S:=S) (ρ:=ρ) (w:={ w with drawn:=w.drawn+1 }) (fun listed S' A' a' w' hL hs' hq'=>by
   have:=wpAny_of_seq (md:=.any) (Q':=Q) (ops.toList.drop n) n listed a' w' (fun j=>by simp [List.getElem?_drop]) (by rw [hdl];exact hL.1.1) (hK S' A' a' w' hL.2 hs' (hs.heap.ext (hs1.2.trans hq')))
   rwa [hdl] at this) _ _ S A a _ hs1.1 (ExtQ.refl _ _) H
  rw [htl,show n+g=ops.size by omega] at this
  exact this
 unfold drawB at hB
 split at hB
 ·rename_i hn
  simp only [Region.lexTailB,Bool.and_eq_true,decide_eq_true_eq] at hB
  obtain ⟨⟨⟨⟨hsel,_⟩,hs'⟩,hc⟩,hlex⟩:=hB
  exact fin (ops.size-n) (by omega) (fun i hi listed inv hun j hj=>by
   rcases Nat.lt_or_ge j n with h | h
   ·exact h
   ·exact absurd hj (tail_waits hs' hc hn inv _ i rfl hi hun j h)) hlex
 ·simp only [Bool.and_eq_true,decide_eq_true_eq] at hB
  obtain ⟨⟨hsel,hn⟩,hlex⟩:=hB
  exact fin 0 (by omega) (fun i hi listed inv hun j hj=>by
   obtain ⟨_,oj,hoj,_⟩:=mem_ready.1 hj
   have:=(Array.getElem?_eq_some_iff.1 hoj).1
   omega) hlex
theorem wp_region_A {id:Nat} {Q:Exit→Act→World→Prop} {ops:Array Oper} {B:Nat} {S:Nat→Prop} {ρ:List Loc} {A:St} {a:Act} {w:World} {K:St→Prop} (n:Nat) (hm:P.follows .mixedOrders=true) (hB:drawB ops n=true) (hs:Sim B S γ ρ A a w)
  (h:wpLexA P γ none ops K (ops.toList.take n) A) (hK:∀ S' A' a' w',K A'→Sim B S' γ ρ A' a' w'→Ext B S ρ w S' ρ w'→wpList P ops Q (ops.toList.drop n) a' w'):(Code.region id ops true).wp P Q a w:=
 wp_region_any hm (any_region_A n hB hs h hK)
theorem AWP.draw (hτ:∀ t,τ t=tiOf P t) (hC:∀ f args h Q,C f args h Q→PC P γ f args h Q) (hCQ:∀ h f args k,CQ h f args k→QCalls P γ h f args k) (hm:P.follows .mixedOrders=true)
  {id:Nat} {ops:Array Oper} {Q:Exit→St→Prop} {A:St} (n:Nat) (hB:drawB ops n=true)
  (hv:vhd τ γ CQ ops (ops.toList.take n) A fun A=>vops τ γ C ops.toList (ops.toList.drop n) A (Q .normal)):AWP P γ (.region id ops true) Q A:=by
 intro B S ρ a w hs
 refine wp_region_A n hm hB hs (vhd_sound hτ hCQ _ _ hv) fun S' A' a' w' hv' hs' hx=>?_
 exact vops_sound hτ hC _ A' B S' ρ a' w' hs' hv' fun S'' ρ'' A'' a'' w'' h1 h2 h3=>⟨S'',ρ'',A'',h1,h2,hx.trans h3⟩
end
end Go.AL
namespace Go.AL
open Go Go.RowKit
mutual
def leV (n:Nat):AV→AV→Prop
 | .any,_=>True
 | .i k,x=>match x with | .i m=>∀ _:Unit,m ()=k () | .lit m=>∀ _:Unit,m=k () | _=>False
 | .lit k,x=>match x with | .i m=>∀ _:Unit,m ()=k | .lit m=>∀ _:Unit,m=k | _=>False
 | .u k,x=>match x with | .u m=>∀ _:Unit,m ()=k () | _=>False
 | .b k,x=>match x with | .b m=>∀ _:Unit,m ()=k () | .tt=>∀ _:Unit,k ()=true | .ff=>∀ _:Unit,k ()=false | _=>False
 | .tt,x=>match x with | .b m=>∀ _:Unit,m ()=true | .tt=>True | _=>False
 | .ff,x=>match x with | .b m=>∀ _:Unit,m ()=false | .ff=>True | _=>False
 | .vs k es,x=>match x with | .vs k' es'=>k'=k∧∀ _:Unit,es' ()=es () | .nils=>∀ _:Unit,(es ()).l=[] | _=>False
 | .vp v off,x=>match x with | .vp v' off'=>off'=off∧∀ _:Unit,v' ()=v () | _=>False
 | .vm ks vs,x=>match x with | .vm ks' vs'=>∀ _:Unit,ks' ()=ks ()∧vs' ()=vs () | _=>False
 | .v1 y,x=>match x with | .v1 x'=>leV n y x' | _=>False
 | .agg cs,x=>match x with | .agg ds=>leVs n cs ds | _=>False
 | .tup cs,x=>match x with | .tup ds=>leVs n cs ds | _=>False
 | .fn f a c,x=>match x with | .fn f' a' c'=>f'=f∧leVs n a a'∧leVs n c c' | _=>False
 | .ptr b off,x=>match x with | .ptr b' off'=>b'=b∧off'=off∧b<n | _=>False
 | .hp b g i off,x=>match x with | .hp b' g' i' off'=>b'=b∧off'=off∧b<n∧∀ _:Unit,g'=g∧i' ()=i () | _=>False
 | .sl b g k off len,x=>match x with | .sl b' g' k' off' len'=>b'=b∧k'=k∧b<n∧∀ _:Unit,g'=g∧off' ()=off ()∧len' ()=len () | _=>False
 | .mp b,x=>match x with | .mp b'=>b'=b∧b<n | _=>False
 | .np,x=>match x with | .np=>True | _=>False
 | .nils,x=>match x with | .nils=>True | _=>False
 | .undef,x=>match x with | .undef=>True | _=>False
 | .raw v,x=>∀ _:Unit,x=.raw v
def leVs (n:Nat):List AV→List AV→Prop
 | [],xs=>match xs with | []=>True | _=>False
 | y :: ys,xs=>match xs with | x :: xs=>leV n y x∧leVs n ys xs | []=>False
end
def undefT:Tr→Prop
 | .nil=>True
 | .node v l r=>leV 0 .undef v∧undefT l∧undefT r
def leT (n:Nat):Tr→Tr→Prop
 | .nil,x=>undefT x
 | .node v l r,x=>leV n v x.top∧leT n l x.lf∧leT n r x.rt
def leB (n:Nat):Blk→Blk→Prop
 | .any,_=>True
 | .ghost,x=>match x with | .ghost=>True | _=>False
 | .box v,x=>match x with | .box v'=>leV n v v'∧v.flat=true | _=>False
 | .run g k es,x=>match x with | .run g' k' es'=>k'=k∧∀ _:Unit,g'=g∧es' ()=es () | _=>False
 | .map ks vs,x=>match x with | .map ks' vs'=>∀ _:Unit,ks' ()=ks ()∧vs' ()=vs () | _=>False
 | .obj K o s tmps,x=>match x with | .obj K' o' s' tmps'=>leT n s s'∧∀ _:Unit,K'=K∧o'=o∧tmps'=tmps | _=>False
 | .nest g k ess hole,x=>match hole with
  | none=>match x with
   | .nest g' k' ess' hole'=>match hole' with
    | none=>k'=k∧∀ _:Unit,g'=g∧ess' ()=ess ()
    | some _=>False
   | _=>False
  | some _=>False
def leH (n:Nat):List Blk→List Blk→Prop
 | [],_=>True
 | y :: ys,xs=>match xs with | x :: xs=>leB n y x∧leH n ys xs | []=>False
def leSt0 (n:Nat) (y x:St):Prop:=y.n=x.n∧leT n y.s x.s∧leH n y.h x.h
mutual
def leVF (n:Nat) (h:List Blk) (y x:AV):Prop:=
 match y with
 | .vs k es=>match x with
  | .sl b g k' off len=>match h[b]? with
   | some (.run g' _ es')=>k'=k∧n≤b∧∀ _:Unit,g'=g∧off ()+len ()≤(es' ()).l.length∧(((es' ()).l.drop (off ())).take (len ()))=(es ()).l
   | some (.nest g' q ess hole)=>match hole with
    | none=>k'=k∧k=1∧n≤b∧∀ _:Unit,g'=g∧off ()=0∧len ()=(ess ()).length∧(es ()).l=(ess ()).map fun x=>.vs q fun _=>x
    | some _=>False
   | _=>False
  | x=>leV n (.vs k es) x
 | .vp v off=>match x with
  | .ptr b off'=>match h[b]? with
   | some (.box u)=>n≤b∧off'=off∧(v ()).stable=true∧leVF n h (v ()) u
   | _=>False
  | x=>leV n (.vp v off) x
 | .agg cs=>match x with | .agg ds=>leVFs n h cs ds | _=>False
 | .tup cs=>match x with | .tup ds=>leVFs n h cs ds | _=>False
 | .fn f a c=>match x with | .fn f' a' c'=>f'=f∧leVFs n h a a'∧leVFs n h c c' | _=>False
 | y=>leV n y x
def leVFs (n:Nat) (h:List Blk):List AV→List AV→Prop
 | [],xs=>match xs with | []=>True | _=>False
 | y :: ys,xs=>match xs with | x :: xs=>leVF n h y x∧leVFs n h ys xs | []=>False
end
def leTF (n:Nat) (h:List Blk):Tr→Tr→Prop
 | .nil,x=>undefT x
 | .node v l r,x=>leVF n h v x.top∧leTF n h l x.lf∧leTF n h r x.rt
def leBF (n:Nat) (h:List Blk) (y x:Blk):Prop:=
 match y with
 | .box v=>match x with | .box v'=>leVF n h v v'∧v.flat=true | _=>False
 | y=>leB n y x
def leHF (n:Nat) (h:List Blk):List Blk→List Blk→Prop
 | [],_=>True
 | y :: ys,xs=>match xs with | x :: xs=>leBF n h y x∧leHF n h ys xs | []=>False
def leSt (n:Nat) (y x:St):Prop:=y.n=x.n∧leTF n x.h y.s x.s∧leHF n x.h y.h x.h
section
variable {P:Program} {γ:Nat→Option AV}
theorem take_get {l:List Loc} {n b:Nat} {loc:Loc} (h:l[b]?=some loc) (hb:b<n):(l.take n)[b]?=some loc:=by
 rw [List.getElem?_take,if_pos hb];exact h
theorem get_take {l:List Loc} {n b:Nat} {loc:Loc} (h:(l.take n)[b]?=some loc):b<n∧l[b]?=some loc:=by
 rw [List.getElem?_take] at h
 split at h
 ·exact ⟨by assumption,h⟩
 ·cases h
mutual
theorem R_le {n:Nat} {S:Nat→Prop} {w:World} {ρ:List Loc} (y x:AV) (v:Value) (hl:leV n y x) (h:R S w (some ρ) x v):R S w (some (ρ.take n)) y v:=by
 match y with
 | .any=>trivial
 | .i k=>
  simp only [leV] at hl;split at hl<;>first | exact hl.elim | skip
  all_goals (simp only [R] at h ⊢;rw [h,hl ()])
 | .lit k=>
  simp only [leV] at hl;split at hl<;>first | exact hl.elim | skip
  all_goals (simp only [R] at h ⊢;rw [h,hl ()])
 | .u k=>
  simp only [leV] at hl;split at hl<;>first | exact hl.elim | skip
  all_goals (simp only [R] at h ⊢;rw [h,hl ()])
 | .b k=>
  simp only [leV] at hl;split at hl<;>first | exact hl.elim | skip
  all_goals (simp only [R] at h ⊢;rw [h,hl ()])
 | .tt=>
  simp only [leV] at hl;split at hl<;>first | exact hl.elim | skip
  ·simp only [R] at h ⊢;rw [h,hl ()]
  ·exact h
 | .ff=>
  simp only [leV] at hl;split at hl<;>first | exact hl.elim | skip
  ·simp only [R] at h ⊢;rw [h,hl ()]
  ·exact h
 | .vs k es=>
  simp only [leV] at hl;split at hl<;>first | exact hl.elim | skip
  ·obtain ⟨rfl,e⟩:=hl;have e:=e ()
   obtain ⟨a,cap,evs,h1,h2,h3,h4⟩:=h
   exact ⟨a,cap,evs,h1,h2,e ▸ h3,h4⟩
  ·obtain ⟨a,rfl⟩:=h
   exact ⟨a,0,[],rfl,Nat.le_refl _,by rw [RL_iff,hl ()];rfl,.inl rfl⟩
 | .vp u off=>
  simp only [leV] at hl;split at hl<;>first | exact hl.elim | skip
  obtain ⟨rfl,e⟩:=hl;have e:=e ()
  obtain ⟨a,xv,h1,h2,h3,h4⟩:=h
  exact ⟨a,xv,h1,e ▸ h2,h3,h4⟩
 | .vm ks vs=>
  simp only [leV] at hl;split at hl<;>first | exact hl.elim | skip
  obtain ⟨e1,e2⟩:=hl ()
  obtain ⟨K,kv,vv,ent,clock,h1,h2,h3,h4,h5,h6⟩:=h
  exact ⟨K,kv,vv,ent,clock,h1,h2,h3,e1 ▸ h4,e2 ▸ h5,h6⟩
 | .v1 x=>
  simp only [leV] at hl;split at hl<;>first | exact hl.elim | skip
  obtain ⟨ab,ao,cap,xv,h1,h2,h3,h4,h5,h6⟩:=h
  exact ⟨ab,ao,cap,xv,h1,h2,h3,h4,h5,R_le x _ xv hl h6⟩
 | .agg cs=>
  simp only [leV] at hl;split at hl<;>first | exact hl.elim | skip
  obtain ⟨vals,h1,h2⟩:=h
  exact ⟨vals,h1,Rs_le cs _ vals hl h2⟩
 | .tup cs=>
  simp only [leV] at hl;split at hl<;>first | exact hl.elim | skip
  obtain ⟨vals,h1,h2⟩:=h
  exact ⟨vals,h1,Rs_le cs _ vals hl h2⟩
 | .fn f a c=>
  simp only [leV] at hl;split at hl<;>first | exact hl.elim | skip
  obtain ⟨rfl,e1,e2⟩:=hl
  obtain ⟨fv,cv,h1,h2,h3⟩:=h
  exact ⟨fv,cv,h1,Rs_le a _ fv e1 h2,Rs_le c _ cv e2 h3⟩
 | .ptr b off=>
  simp only [leV] at hl;split at hl<;>first | exact hl.elim | skip
  obtain ⟨rfl,rfl,hb⟩:=hl
  obtain ⟨l,loc,K,hl,k1,k2⟩:=h
  cases hl
  exact ⟨_,loc,K,rfl,take_get k1 hb,k2⟩
 | .hp b g i off=>
  simp only [leV] at hl;split at hl<;>first | exact hl.elim | skip
  obtain ⟨rfl,rfl,hb,e0⟩:=hl;obtain ⟨rfl,e⟩:=e0 ()
  obtain ⟨l,loc,ab,ao,hl,k1,k2,k3,k4,k5⟩:=h
  cases hl
  exact ⟨_,loc,ab,ao,rfl,take_get k1 hb,k2,k3,k4,e ▸ k5⟩
 | .sl b g k off len=>
  simp only [leV] at hl;split at hl<;>first | exact hl.elim | skip
  obtain ⟨rfl,rfl,hb,e0⟩:=hl;obtain ⟨rfl,e1,e2⟩:=e0 ()
  obtain ⟨l,loc,a,cap,hl,k1,k2,k3,k4,k5,k6,k7,k8⟩:=h
  cases hl
  exact ⟨_,loc,a,cap,rfl,take_get k1 hb,k2,k3,k4,e2 ▸ k5,e2 ▸ k6,k7,e1 ▸ k8⟩
 | .mp b=>
  simp only [leV] at hl;split at hl<;>first | exact hl.elim | skip
  obtain ⟨rfl,hb⟩:=hl
  obtain ⟨l,loc,K,hl,k1,k2⟩:=h
  cases hl
  exact ⟨_,loc,K,rfl,take_get k1 hb,k2⟩
 | .np=>simp only [leV] at hl;split at hl<;>first | exact hl.elim | exact h
 | .nils=>simp only [leV] at hl;split at hl<;>first | exact hl.elim | exact h
 | .undef=>simp only [leV] at hl;split at hl<;>first | exact hl.elim | exact h
 | .raw u=>simp only [leV] at hl;have hl:=hl ();subst hl;exact h
theorem Rs_le {n:Nat} {S:Nat→Prop} {w:World} {ρ:List Loc} (ys xs:List AV) (vs:List Value) (hl:leVs n ys xs) (h:Rs S w (some ρ) xs vs):Rs S w (some (ρ.take n)) ys vs:=by
 match ys with
 | []=>simp only [leVs] at hl;split at hl<;>first | exact hl.elim | exact h
 | y :: ys=>
  simp only [leVs] at hl;split at hl<;>first | exact hl.elim | skip
  obtain ⟨v,vs,rfl,h1,h2⟩:=h
  exact ⟨v,vs,rfl,R_le y _ v hl.1 h1,Rs_le ys _ vs hl.2 h2⟩
end
theorem undefT_get:∀ {x:Tr},undefT x→∀ k,x.get k=.undef
 | .nil,_,k=>rfl
 | .node v l r,⟨h1,h2,h3⟩,k=>by
  simp only [Tr.get]
  split
  ·cases v<;>first | rfl | exact h1.elim
  ·split
   ·exact undefT_get h2 (k / 2)
   ·exact undefT_get h3 (k / 2-1)
theorem Tr.get_eq (x:Tr) (k:Nat):x.get k=if k=0 then x.top else if k % 2=1 then x.lf.get (k / 2) else x.rt.get (k / 2-1):=by
 cases x with
 | nil=>simp only [Tr.get,Tr.top,Tr.lf,Tr.rt];split<;>(try split)<;>rfl
 | node v l r=>rfl
theorem leT_get {n:Nat}:∀ {y x:Tr},leT n y x→∀ k,leV n (y.get k) (x.get k)
 | .nil,x,h,k=>by rw [undefT_get h k];simp [Tr.get,leV]
 | .node v l r,x,⟨h1,h2,h3⟩,k=>by
  rw [Tr.get_eq x]
  simp only [Tr.get]
  split
  ·exact h1
  ·split
   ·exact leT_get h2 (k / 2)
   ·exact leT_get h3 (k / 2-1)
theorem leH_get {n:Nat}:∀ {ys xs:List Blk},leH n ys xs→∀ (b:Nat) (y:Blk),ys[b]?=some y→∃ x,xs[b]?=some x∧leB n y x
 | [],_,_,b,y,hy=>by simp at hy
 | y :: ys,xs,h,b,y',hy=>by
  cases xs with
  | nil=>exact h.elim
  | cons x xs=>
   obtain ⟨h1,h2⟩:=h
   cases b with
   | zero=>simp at hy;subst hy;exact ⟨x,rfl,h1⟩
   | succ b=>simpa using leH_get h2 b y' (by simpa using hy)
theorem leH_len {n:Nat} {ys xs:List Blk} (h:leH n ys xs):ys.length≤xs.length:=by
 rcases Nat.lt_or_ge xs.length ys.length with hlt | hge
 ·obtain ⟨x,hx,_⟩:=leH_get h xs.length _ (List.getElem?_eq_getElem hlt)
  simp at hx
 ·exact hge
theorem Sim.le0 {n:Nat} {B:Nat} {S:Nat→Prop} {ρ:List Loc} {A A':St} {a:Act} {w:World} (hs:Sim B S γ ρ A a w) (hl:leSt0 n A' A) (hn:A'.h.length=n):Sim B S γ (ρ.take n) A' a w:=by
 obtain ⟨h1,h2,h3⟩:=hl
 have hlen:=leH_len h3
 have hρ:=hs.heap.len
 refine ⟨hs.nodef,by rw [hs.size,h1],by rw [h1];exact hs.small,fun k=>R_le _ _ _ (leT_get h2 k) (hs.slot k),?_⟩
 refine ⟨by simp;omega,fun b blk loc hb hloc=>?_,fun b loc K hloc hK=>hs.heap.own b loc K (get_take hloc).2 hK,fun b b' loc loc' K e1 e2=>hs.heap.inj b b' loc loc' K (get_take e1).2 (get_take e2).2,hs.heap.sle,hs.heap.gok,hs.heap.bsz,fun b loc hloc=>hs.heap.sok b loc (get_take hloc).2⟩
 obtain ⟨_,hloc'⟩:=get_take hloc
 obtain ⟨x,hx,hle⟩:=leH_get h3 b blk hb
 have hb':=hs.heap.blk b x loc hx hloc'
 cases blk with
 | any=>trivial
 | ghost=>simp only [leB] at hle;split at hle<;>first | exact hle.elim | exact hb'
 | box v=>
  simp only [leB] at hle;split at hle<;>first | exact hle.elim | skip
  obtain ⟨k1,K,ty,xv,k2,k3,k4,k5⟩:=hb'
  exact ⟨k1,K,ty,xv,k2,k3,R_le _ _ _ hle.1 k4,hle.2⟩
 | run g k es=>
  simp only [leB] at hle;split at hle<;>first | exact hle.elim | skip
  obtain ⟨rfl,e0⟩:=hle;obtain ⟨rfl,e⟩:=e0 ()
  obtain ⟨k1,k2,k3,evs,k4,k5⟩:=hb'
  exact ⟨k1,k2,k3,evs,e ▸ k4,k5⟩
 | map ks vs=>
  simp only [leB] at hle;split at hle<;>first | exact hle.elim | skip
  obtain ⟨e1,e2⟩:=hle ()
  obtain ⟨k1,K,kv,vv,ent,clock,k2,k3,k4,k5,k6⟩:=hb'
  exact ⟨k1,K,kv,vv,ent,clock,k2,k3,e1 ▸ k4,e2 ▸ k5,k6⟩
 | obj K o s tmps=>
  simp only [leB] at hle;split at hle<;>first | exact hle.elim | skip
  obtain ⟨e1,e2⟩:=hle;obtain ⟨rfl,rfl,rfl⟩:=e2 ()
  obtain ⟨k1,k2,k3,k4⟩:=hb'
  exact ⟨k1,k2,k3,fun n=>R_le _ _ _ (leT_get e1 n) (k4 n)⟩
 | nest g k ess hole=>
  simp only [leB] at hle;split at hle<;>first | exact hle.elim | skip
  split at hle<;>first | exact hle.elim | skip
  split at hle<;>first | exact hle.elim | skip
  obtain ⟨rfl,e0⟩:=hle;obtain ⟨rfl,e⟩:=e0 ()
  obtain ⟨k1,k2,k3,evs,k4,k5,k6,k7⟩:=hb'
  exact ⟨k1,k2,k3,evs,k4,e ▸ k5,k6,fun p es v s g1 g2 g3=>k7 p es v s (e ▸ g1) g2 g3⟩
mutual
theorem leVF_of {n:Nat} {h:List Blk} (y x:AV) (hl:leV n y x):leVF n h y x:=by
 match y with
 | .vs k es=>cases x<;>first | exact hl | (simp only [leV] at hl)
 | .vp v off=>cases x<;>first | exact hl | (simp only [leV] at hl)
 | .agg cs=>simp only [leV] at hl;split at hl<;>first | exact hl.elim | exact leVFs_of cs _ hl
 | .tup cs=>simp only [leV] at hl;split at hl<;>first | exact hl.elim | exact leVFs_of cs _ hl
 | .fn f a c=>
  simp only [leV] at hl;split at hl<;>first | exact hl.elim | skip
  exact ⟨hl.1,leVFs_of a _ hl.2.1,leVFs_of c _ hl.2.2⟩
 | .any | .undef | .tt | .ff | .b _ | .lit _ | .i _ | .u _ | .raw _ | .np | .nils | .ptr .. | .hp .. | .sl .. | .mp _ | .vm .. | .v1 _=>exact hl
theorem leVFs_of {n:Nat} {h:List Blk} (ys xs:List AV) (hl:leVs n ys xs):leVFs n h ys xs:=by
 match ys with
 | []=>exact hl
 | y :: ys=>
  simp only [leVs] at hl;split at hl<;>first | exact hl.elim | skip
  exact ⟨leVF_of y _ hl.1,leVFs_of ys _ hl.2⟩
end
abbrev SF (n:Nat) (S:Nat→Prop) (ρ:List Loc):Nat→Prop:=fun k=>S k∨∃ (b:Nat) (loc:Loc),n≤b∧ρ[b]?=some loc∧loc.has k
mutual
theorem R_leF {n B:Nat} {S:Nat→Prop} {w:World} {ρ:List Loc} {h:List Blk} (hh:HeapR B S γ ρ h w) (y x:AV) (v:Value) (hl:leVF n h y x) (hr:R S w (some ρ) x v):R (SF n S ρ) w (some (ρ.take n)) y v:=by
 have old:leV n y x→R (SF n S ρ) w (some (ρ.take n)) y v:=fun hl=>R.mono (S:=S) (fun k hk=>.inl hk) (fun _ _=>rfl) (ρ:=some (ρ.take n)) (ρ':=some (ρ.take n)) (Up.refl _) _ _ (R_le y x v hl hr)
 match y with
 | .vs k es=>
  cases x with
  | sl b g k' off len=>
   simp only [leVF] at hl
   split at hl
   ·rename_i g' kk es' hb
    obtain ⟨rfl,hnb,e⟩:=hl;obtain ⟨rfl,e1,e2⟩:=e ()
    obtain ⟨l,loc,a,cap,hl,q1,q2,q3,q4,rfl,q6,q7,q8⟩:=hr
    cases hl
    obtain ⟨_,d2,d3,bvs,d4,d5,d6⟩:=hh.blk b _ loc hb q1
    have d4':=(RL_iff _ _ _ _).1 d4
    have hbl:bvs.length=(es' ()).l.length:=Rs_len d4'
    have hlt:((bvs.drop (off ())).take (len ())).length=len ():=by simp;omega
    refine ⟨a,cap,(bvs.drop (off ())).take (len ()),by rw [hlt],by rw [hlt];exact q6,?_,?_⟩
    ·rw [RL_iff,←e2]
     exact Rs.mono (S:=S) (fun k hk=>.inl hk) (fun _ _=>rfl) (ρ:=none) (ρ':=none) trivial _ _ (Rs_take (Rs_drop d4' _) _)
    ·by_cases hn:len ()=0
     ·left;simp [hn]
     ·rcases q8 d2 with ⟨r1,r2,_⟩ | ⟨K,r1,r2,r3⟩
      ·omega
      ·rcases d6 with ⟨e1,_⟩ | ⟨K',cc,cty,m1,m2,m3,m4,m5⟩
       ·rw [r1] at e1;cases e1
       ·rw [r1] at m1;cases m1
        rcases r2 with r2 | r2
        ·omega
        ·right
         refine ⟨_,r2,rfl,.inr ⟨b,loc,hnb,q1,(.inl r1)⟩,fun i e he=>?_⟩
         rw [List.getElem?_take] at he
         split at he
         ·rw [List.getElem?_drop] at he
          obtain ⟨f1,f2⟩:=m5 _ _ he
          refine ⟨by rw [f1];exact q3,fun j c hc=>?_⟩
          rw [cell_heap m2,←q3]
          rw [show off () * loc.e+(i * loc.e+j)=(off ()+i) * loc.e+j from by rw [Nat.add_mul];omega]
          exact f2 j c hc
         ·cases he
   ·rename_i g' q ess hole hb
    split at hl
    ·obtain ⟨rfl,rfl,hnb,e⟩:=hl;obtain ⟨rfl,e1,e2,e3⟩:=e ()
     have:=nest_data (S':=SF n S ρ) hh hb hr e1 e2 (fun k hk=>.inl hk) (fun loc K h1 h2=>.inr ⟨b,loc,hnb,h1,h2⟩) e3
     exact R.mono (S:=SF n S ρ) (fun _ h=>h) (fun _ _=>rfl) (ρ:=none) (ρ':=some (ρ.take n)) trivial _ _ this
    ·exact hl.elim
   ·exact hl.elim
  | _=>exact old hl
 | .vp u off=>
  cases x with
  | ptr b off'=>
   simp only [leVF] at hl
   split at hl
   ·rename_i x hb
    obtain ⟨hnb,rfl,hst,e⟩:=hl
    obtain ⟨l,loc,K,hl,k1,k2,k3,rfl⟩:=hr
    cases hl
    obtain ⟨_,K',ty,xv,k4,k5,k6,k7⟩:=hh.blk b _ loc hb k1
    rw [k3] at k4;cases k4
    refine ⟨⟨K,0,none⟩,xv,by simp,R_stable _ _ hst (R_leF hh (u ()) x xv e k6),.inr ⟨b,loc,hnb,k1,(.inl k3)⟩,fun j c hc=>?_⟩
    rw [cell_heap k5];simpa using hc
   ·exact hl.elim
  | _=>exact old hl
 | .agg cs=>
  simp only [leVF] at hl;split at hl<;>first | exact hl.elim | skip
  obtain ⟨vals,h1,h2⟩:=hr
  exact ⟨vals,h1,Rs_leF hh cs _ vals hl h2⟩
 | .tup cs=>
  simp only [leVF] at hl;split at hl<;>first | exact hl.elim | skip
  obtain ⟨vals,h1,h2⟩:=hr
  exact ⟨vals,h1,Rs_leF hh cs _ vals hl h2⟩
 | .fn f a c=>
  simp only [leVF] at hl;split at hl<;>first | exact hl.elim | skip
  obtain ⟨rfl,e1,e2⟩:=hl
  obtain ⟨fv,cv,h1,h2,h3⟩:=hr
  exact ⟨fv,cv,h1,Rs_leF hh a _ fv e1 h2,Rs_leF hh c _ cv e2 h3⟩
 | .any | .undef | .tt | .ff | .b _ | .lit _ | .i _ | .u _ | .raw _ | .np | .nils | .ptr .. | .hp .. | .sl .. | .mp _ | .vm .. | .v1 _=>exact old hl
theorem Rs_leF {n B:Nat} {S:Nat→Prop} {w:World} {ρ:List Loc} {h:List Blk} (hh:HeapR B S γ ρ h w) (ys xs:List AV) (vs:List Value) (hl:leVFs n h ys xs) (hr:Rs S w (some ρ) xs vs):Rs (SF n S ρ) w (some (ρ.take n)) ys vs:=by
 match ys with
 | []=>simp only [leVFs] at hl;split at hl<;>first | exact hl.elim | exact hr
 | y :: ys=>
  simp only [leVFs] at hl;split at hl<;>first | exact hl.elim | skip
  obtain ⟨v,vs,rfl,h1,h2⟩:=hr
  exact ⟨v,vs,rfl,R_leF hh y _ v hl.1 h1,Rs_leF hh ys _ vs hl.2 h2⟩
end
theorem leTF_get {n:Nat} {h:List Blk}:∀ {y x:Tr},leTF n h y x→∀ k,leVF n h (y.get k) (x.get k)
 | .nil,x,hl,k=>by rw [undefT_get hl k];simp [Tr.get,leVF,leV]
 | .node v l r,x,⟨h1,h2,h3⟩,k=>by
  rw [Tr.get_eq x]
  simp only [Tr.get]
  split
  ·exact h1
  ·split
   ·exact leTF_get h2 (k / 2)
   ·exact leTF_get h3 (k / 2-1)
theorem leHF_get {n:Nat} {h:List Blk}:∀ {ys xs:List Blk},leHF n h ys xs→∀ (b:Nat) (y:Blk),ys[b]?=some y→∃ x,xs[b]?=some x∧leBF n h y x
 | [],_,_,b,y,hy=>by simp at hy
 | y :: ys,xs,hl,b,y',hy=>by
  cases xs with
  | nil=>exact hl.elim
  | cons x xs=>
   obtain ⟨h1,h2⟩:=hl
   cases b with
   | zero=>simp at hy;subst hy;exact ⟨x,rfl,h1⟩
   | succ b=>simpa using leHF_get h2 b y' (by simpa using hy)
theorem leHF_len {n:Nat} {h:List Blk} {ys xs:List Blk} (hl:leHF n h ys xs):ys.length≤xs.length:=by
 rcases Nat.lt_or_ge xs.length ys.length with hlt | hge
 ·obtain ⟨x,hx,_⟩:=leHF_get hl xs.length _ (List.getElem?_eq_getElem hlt)
  simp at hx
 ·exact hge
theorem Sim.le {n:Nat} {B:Nat} {S:Nat→Prop} {ρ:List Loc} {A A':St} {a:Act} {w:World} (hs:Sim B S γ ρ A a w) (hl:leSt n A' A) (hn:A'.h.length=n):Sim B (SF n S ρ) γ (ρ.take n) A' a w∧∀ k,SF n S ρ k→S k∨B≤k:=by
 obtain ⟨h1,h2,h3⟩:=hl
 have hlen:=leHF_len h3
 have hρ:=hs.heap.len
 have up:∀ k,S k→SF n S ρ k:=fun k hk=>.inl hk
 refine ⟨⟨hs.nodef,by rw [hs.size,h1],by rw [h1];exact hs.small,fun k=>R_leF hs.heap _ _ _ (leTF_get h2 k) (hs.slot k),?_⟩,fun k hk=>?_⟩
 ·refine ⟨by simp;omega,fun b blk loc hb hloc=>?_,fun b loc K hloc hK=>?_,fun b b' loc loc' K e1 e2=>hs.heap.inj b b' loc loc' K (get_take e1).2 (get_take e2).2,fun k hk=>?_,fun g x hg=>R.mono up (fun _ _=>rfl) (ρ:=none) (ρ':=none) trivial _ _ (hs.heap.gok g x hg),hs.heap.bsz,fun b loc hloc=>hs.heap.sok b loc (get_take hloc).2⟩
  ·obtain ⟨_,hloc'⟩:=get_take hloc
   obtain ⟨x,hx,hle⟩:=leHF_get h3 b blk hb
   have hb':=hs.heap.blk b x loc hx hloc'
   cases blk with
   | any=>trivial
   | ghost=>simp only [leBF,leB] at hle;split at hle<;>first | exact hle.elim | exact hb'
   | box v=>
    simp only [leBF] at hle;split at hle<;>first | exact hle.elim | skip
    obtain ⟨k1,K,ty,xv,k2,k3,k4,k5⟩:=hb'
    exact ⟨k1,K,ty,xv,k2,k3,R_leF hs.heap _ _ _ hle.1 k4,hle.2⟩
   | run g k es=>
    simp only [leBF,leB] at hle;split at hle<;>first | exact hle.elim | skip
    obtain ⟨rfl,e0⟩:=hle;obtain ⟨rfl,e⟩:=e0 ()
    obtain ⟨k1,k2,k3,evs,k4,k5⟩:=hb'
    exact ⟨k1,k2,k3,evs,RL.mono up (fun _ _=>rfl) _ _ (e ▸ k4),k5⟩
   | map ks vs=>
    simp only [leBF,leB] at hle;split at hle<;>first | exact hle.elim | skip
    obtain ⟨e1,e2⟩:=hle ()
    obtain ⟨k1,K,kv,vv,ent,clock,k2,k3,k4,k5,k6⟩:=hb'
    exact ⟨k1,K,kv,vv,ent,clock,k2,k3,RL.mono up (fun _ _=>rfl) _ _ (e1 ▸ k4),RL.mono up (fun _ _=>rfl) _ _ (e2 ▸ k5),k6⟩
   | obj K o s tmps=>
    simp only [leBF,leB] at hle;split at hle<;>first | exact hle.elim | skip
    obtain ⟨e1,e2⟩:=hle;obtain ⟨rfl,rfl,rfl⟩:=e2 ()
    obtain ⟨k1,k2,k3,k4⟩:=hb'
    exact ⟨k1,k2,k3,fun n=>R_leF hs.heap _ _ _ (leVF_of _ _ (leT_get e1 n)) (k4 n)⟩
   | nest g k ess hole=>
    simp only [leBF,leB] at hle;split at hle<;>first | exact hle.elim | skip
    split at hle<;>first | exact hle.elim | skip
    split at hle<;>first | exact hle.elim | skip
    obtain ⟨rfl,e0⟩:=hle;obtain ⟨rfl,e⟩:=e0 ()
    obtain ⟨k1,k2,k3,evs,k4,k5,k6,k7⟩:=hb'
    refine ⟨k1,k2,k3,evs,k4,e ▸ k5,k6,fun p es v s g1 g2 g3=>?_⟩
    obtain ⟨a,cap,ievs,q1,q2,q3,q4,q5⟩:=k7 p es v s (e ▸ g1) g2 g3
    exact ⟨a,cap,ievs,q1,q2,q3,RL.mono up (fun _ _=>rfl) _ _ q4,q5⟩
  ·obtain ⟨hbn,hloc'⟩:=get_take hloc
   obtain ⟨m1,m2,m3⟩:=hs.heap.own b loc K hloc' hK
   refine ⟨fun hk=>?_,m2,m3⟩
   rcases hk with hk | ⟨b',loc',e1,e2,e3⟩
   ·exact m1 hk
   ·have:=hs.heap.inj b b' loc loc' K hloc' e2 hK e3
    omega
  ·rcases hk with hk | ⟨b',loc',e1,e2,e3⟩
   ·exact hs.heap.sle k hk
   ·exact (hs.heap.own b' loc' k e2 e3).2.1
 ·rcases hk with hk | ⟨b',loc',e1,e2,e3⟩
  ·exact .inl hk
  ·exact .inr (hs.heap.own b' loc' k e2 e3).2.2
theorem LocsUp.take {ρ ρ':List Loc} (h:LocsUp ρ ρ'):LocsUp ρ (ρ'.take ρ.length):=by
 intro b loc hb
 obtain ⟨loc',h1,h2⟩:=h b loc hb
 exact ⟨loc',take_get h1 (List.getElem?_eq_some_iff.1 hb).1,h2⟩
theorem AWP.loopI {c:Code} {Q:Exit→St→Prop} {A:St} {ι:Type} (n:Nat) (inv:ι→St) (ok:ι→Prop) (m:ι→Nat) (j0:ι) (hA:A.h.length=n) (hn:∀ j,(inv j).h.length=n)
  (h0:ok j0∧leSt n (inv j0) A) (round:∀ j,ok j→AWP P γ c (thenE (fun A'=>∃ j',ok j'∧m j'<m j∧leSt n (inv j') A') Q) (inv j)):AWP P γ (.loop c) Q A:=by
 intro B S ρ a w hs b k cs
 have key:∀ k' S ρ j a w,m j=k'→ok j→Sim B S γ ρ (inv j) a w→∃ e a' w',(∃ S' ρ' A',Q e A'∧Sim B S' γ ρ' A' a' w'∧Ext B S ρ w S' ρ' w')∧Arrives P (lone (b.at a (.code c :: .inLoop c :: k)) cs w) b k cs e a' w':=by
  intro k'
  induction k' using Nat.strongRecOn with
  | _ k' ih=>
   intro S ρ j a w hm hok hs
   obtain ⟨e,a₁,w₁,⟨S₁,ρ₁,A₁,hq,hs₁,hx₁⟩,harr⟩:=round j hok B S ρ a w hs b (.inLoop c :: k) cs
   cases e with
   | normal=>
    obtain ⟨j',hok',hm',hle⟩:=hq
    obtain ⟨hs₂,hg₂⟩:=hs₁.le hle (hn j')
    have hlen:ρ.length=n:=by rw [hs.heap.len,hn]
    have hx₂:Ext B S ρ w (SF n S₁ ρ₁) (ρ₁.take n) w₁:=⟨hx₁.fr,hx₁.below,fun k hk=>.inl (hx₁.sub k hk),hx₁.same,hlen ▸ hx₁.locs.take,fun k hk=>(hg₂ k hk).elim (hx₁.grow k) .inr⟩
    obtain ⟨e₂,a₂,w₂,⟨S₂,ρ₂,A₂,k1,k2,k3⟩,harr₂⟩:=ih (m j') (hm ▸ hm') (SF n S₁ ρ₁) (ρ₁.take n) j' a₁ w₁ rfl hok' hs₂
    exact ⟨e₂,a₂,w₂,⟨S₂,ρ₂,A₂,k1,k2,hx₂.trans k3⟩,.of_steps (Steps.trans harr (.one step_inLoop)) harr₂⟩
   | exit id=>exact ⟨_,a₁,w₁,⟨S₁,ρ₁,A₁,hq,hs₁,hx₁⟩,.pass (x:=.inLoop c) rfl (fun _ _=>.inl (by simp)) harr⟩
   | goto l=>exact ⟨_,a₁,w₁,⟨S₁,ρ₁,A₁,hq,hs₁,hx₁⟩,.pass (x:=.inLoop c) rfl (fun _ _=>.inl (by simp)) harr⟩
   | ret=>exact ⟨_,a₁,w₁,⟨S₁,ρ₁,A₁,hq,hs₁,hx₁⟩,.pass (x:=.inLoop c) rfl (fun _ _=>.inl (by simp)) harr⟩
   | panic ch=>exact ⟨_,a₁,w₁,⟨S₁,ρ₁,A₁,hq,hs₁,hx₁⟩,.pass (x:=.inLoop c) rfl (fun _ _=>.inl (by simp)) harr⟩
   | outgrown=>exact ⟨_,a₁,w₁,⟨S₁,ρ₁,A₁,hq,hs₁,hx₁⟩,.pass (x:=.inLoop c) rfl (fun _ _=>.inl (by simp)) harr⟩
 obtain ⟨hs0,hg0⟩:=hs.le h0.2 (hn j0)
 rw [List.take_of_length_le (by rw [hs.heap.len];omega)] at hs0
 obtain ⟨e,a',w',⟨S',ρ',A',q1,q2,q3⟩,harr⟩:=key (m j0) _ ρ j0 a w rfl h0.1 hs0
 have hx0:Ext B S ρ w (SF n S ρ) ρ w:=⟨Fr.refl w,fun _ _=>rfl,fun k hk=>.inl hk,fun _ _=>rfl,LocsUp.refl ρ,hg0⟩
 exact ⟨e,a',w',⟨S',ρ',A',q1,q2,hx0.trans q3⟩,.of_steps (.one step_loop) harr⟩
def dsts:Code→List Nat
 | .region _ ops _=>ops.toList.filterMap (·.dst)
 | .seq x y=>dsts x++dsts y
 | .cond _ x y=>dsts x++dsts y
 | .block _ c=>dsts c
 | .loop c=>dsts c
 | .scope c=>dsts c
 | .rangeFunc _ ps a c=>ps.toList++dsts a++dsts c
 | _=>[]
def havoc:List Nat→Tr→Tr
 | [],s=>s
 | d :: r,s=>havoc r (s.set' 10 d .any)
def sets:List (Nat × AV)→Tr→Tr
 | [],s=>s
 | (d,v) :: r,s=>sets r (s.set' 10 d v)
end
end Go.AL
namespace Go.AL
open Go Go.RowKit
section
variable {P:Program} {γ:Nat→Option AV}
theorem R_ghost {S:Nat→Prop} {w:World} {ρ:List Loc} (k:Nat) {v:Value} (h:R S w (some ρ) .nils v):R S w (some (ρ++[⟨false,0,none,k,0,[]⟩])) (.sl ρ.length 0 k (fun _=>0) fun _=>0) v:=by
 obtain ⟨a,rfl⟩:=h
 exact ⟨_,_,a,0,rfl,getElem?_concat _ _,rfl,rfl,Nat.le_refl _,rfl,Nat.le_refl _,.inl rfl,fun _=>.inl ⟨rfl,rfl,rfl⟩⟩
theorem HeapR.ghostR {B:Nat} {S:Nat→Prop} {ρ:List Loc} {h:List Blk} {w:World} (hh:HeapR B S γ ρ h w) (k:Nat) :
  HeapR B S γ (ρ++[⟨false,0,none,k,0,[]⟩]) (h++[.run 0 k fun _=>.nil]) w∧Ext B S ρ w S (ρ++[⟨false,0,none,k,0,[]⟩]) w:=
 hh.ghost ⟨false,0,none,k,0,[]⟩ rfl (.run 0 k fun _=>.nil) ⟨rfl,rfl,rfl,[],rfl,fun e he=>(by cases he),.inl ⟨rfl,rfl⟩⟩
theorem HeapR.retell {B:Nat} {S:Nat→Prop} {ρ:List Loc} {h:List Blk} {w:World} (hh:HeapR B S γ ρ h w) (b:Nat) (blk:Blk) (hb:∀ loc,ρ[b]?=some loc→BlkR S w ρ loc blk):HeapR B S γ ρ (h.set b blk) w:=by
 refine ⟨by simp [hh.len],fun c blk' loc h1 h2=>?_,hh.own,hh.inj,hh.sle,hh.gok,hh.bsz,hh.sok⟩
 rw [List.getElem?_set] at h1
 split at h1
 ·rename_i e
  subst e
  split at h1
  ·cases h1;exact hb loc h2
  ·cases h1
 ·exact hh.blk c blk' loc h1 h2
theorem AWP.ghostSlot {c:Code} {Q:Exit→St→Prop} {A:St} (d k:Nat) (hd:A.s.get d=.nils) (hdn:d<1000) (h:AWP P γ c Q ⟨A.n,A.s.set' 10 d (.sl A.h.length 0 k (fun _=>0) fun _=>0),A.h++[.run 0 k fun _=>.nil]⟩):AWP P γ c Q A:=by
 intro B S ρ a w hs
 obtain ⟨h1,h2⟩:=hs.heap.ghostR k
 refine wp_mono (h B S _ a w ⟨hs.nodef,hs.size,hs.small,fun n=>?_,h1⟩) fun e a' w' ⟨S',ρ',A',q1,q2,q3⟩=>⟨S',ρ',A',q1,q2,h2.trans q3⟩
 rw [Tr.get_set' 10 _ _ _ _ (by omega)]
 split
 ·rename_i e
  subst e
  have:=hs.slot n
  rw [hd] at this
  rw [←hs.heap.len]
  exact R_ghost k this
 ·exact h2.R (hs.slot n)
theorem AWP.ghostField {c:Code} {Q:Exit→St→Prop} {A:St} (b o k:Nat) {cs:List AV} (hb:A.h[b]?=some (.box (.agg cs))) (ho:cs[o]?=some .nils) (h:AWP P γ c Q ⟨A.n,A.s,(A.h++[Blk.run 0 k fun _=>.nil]).set b (.box (.agg (cs.set o (.sl A.h.length 0 k (fun _=>0) fun _=>0))))⟩):AWP P γ c Q A:=by
 intro B S ρ a w hs
 obtain ⟨h1,h2⟩:=hs.heap.ghostR k
 have hlt:b<ρ.length:=by rw [hs.heap.len];exact (List.getElem?_eq_some_iff.1 hb).1
 refine wp_mono (h B S _ a w ⟨hs.nodef,hs.size,hs.small,fun n=>h2.R (hs.slot n),h1.retell b _ fun loc hloc=>?_⟩) fun e a' w' ⟨S',ρ',A',q1,q2,q3⟩=>⟨S',ρ',A',q1,q2,h2.trans q3⟩
 rw [List.getElem?_append_left hlt] at hloc
 obtain ⟨k1,K,ty,xv,k2,k3,k4,k5⟩:=hs.heap.blk b _ loc hb hloc
 obtain ⟨vals,rfl,k4⟩:=k4
 obtain ⟨v,hv,hr⟩:=Rs_get k4 ho
 have hset:=Rs_set (Rs.mono (S:=S) (w:=w) (fun _ h=>h) (fun _ _=>rfl) (ρ:=some ρ) (ρ':=some (ρ++[⟨false,0,none,k,0,[]⟩])) (Up_some h2.locs) _ _ k4) o (R_ghost k hr)
 have hself:vals.set o v=vals:=by
  apply List.ext_getElem?
  intro i
  rw [List.getElem?_set]
  split
  ·rename_i e;subst e
   split
   ·exact hv.symm
   ·rw [List.getElem?_eq_none (by omega)]
  ·rfl
 rw [hself] at hset
 refine ⟨k1,K,ty,.agg vals.toArray,k2,k3,⟨vals,rfl,by rw [←hs.heap.len];exact hset⟩,?_⟩
 simp only [AV.flat,AV.cells,List.all_eq_true] at k5 ⊢
 intro x hx
 rcases List.mem_or_eq_of_mem_set hx with hx | rfl
 ·exact k5 x hx
 ·rfl
end
end Go.AL
namespace Go.AL
open Go Go.RowKit
abbrev gl:Loc:=⟨true,0,none,0,0,[]⟩
abbrev fl (K:Nat):Loc:=⟨true,0,some K,0,0,[]⟩
section
variable {P:Program} {γ:Nat→Option AV} {τ:Nat→TI}
theorem fill_get {ρ:List Loc} {K b:Nat} {loc:Loc} (h:(ρ++[gl])[b]?=some loc) (hn:loc≠gl):(ρ++[fl K])[b]?=some loc:=by
 by_cases hlt:b<ρ.length
 ·rw [List.getElem?_append_left hlt] at h ⊢;exact h
 ·rw [List.getElem?_append_right (by omega)] at h
  have:b-ρ.length=0:=by have:=(List.getElem?_eq_some_iff.1 h).1;simp at this;omega
  rw [this] at h;simp at h;exact absurd h.symm hn
mutual
theorem R_fill {S:Nat→Prop} {w:World} {ρ:List Loc} (K:Nat) (x:AV) (v:Value) (h:R S w (some (ρ++[gl])) x v):R S w (some (ρ++[fl K])) x v:=by
 match x with
 | .any | .undef | .tt | .ff | .b _ | .lit _ | .i _ | .u _ | .raw _ | .np | .nils | .vp .. | .vs .. | .vm ..=>exact h
 | .ptr b off=>
  obtain ⟨l,loc,K',hl,k1,k2,k3,k4⟩:=h
  cases hl
  exact ⟨_,loc,K',rfl,fill_get k1 (fun e=>by rw [e] at k3;cases k3),k2,k3,k4⟩
 | .hp b g i off=>
  obtain ⟨l,loc,ab,ao,hl,k1,k2,k3⟩:=h
  cases hl
  exact ⟨_,loc,ab,ao,rfl,fill_get k1 (fun e=>by rw [e] at k2;cases k2),k2,k3⟩
 | .sl b g k off len=>
  obtain ⟨l,loc,a,cap,hl,k1,k2,k3⟩:=h
  cases hl
  exact ⟨_,loc,a,cap,rfl,fill_get k1 (fun e=>by rw [e] at k2;cases k2),k2,k3⟩
 | .mp b=>
  obtain ⟨l,loc,K',hl,k1,k2,k3,k4⟩:=h
  cases hl
  exact ⟨_,loc,K',rfl,fill_get k1 (fun e=>by rw [e] at k3;cases k3),k2,k3,k4⟩
 | .v1 x=>obtain ⟨ab,ao,cap,xv,h1,h2,h3,h4,h5,h6⟩:=h;exact ⟨ab,ao,cap,xv,h1,h2,h3,h4,h5,R_fill K x xv h6⟩
 | .agg cs=>obtain ⟨vals,h1,h2⟩:=h;exact ⟨vals,h1,Rs_fill K cs vals h2⟩
 | .tup cs=>obtain ⟨vals,h1,h2⟩:=h;exact ⟨vals,h1,Rs_fill K cs vals h2⟩
 | .fn f a c=>obtain ⟨fv,cv,h1,h2,h3⟩:=h;exact ⟨fv,cv,h1,Rs_fill K a fv h2,Rs_fill K c cv h3⟩
theorem Rs_fill {S:Nat→Prop} {w:World} {ρ:List Loc} (K:Nat) (xs:List AV) (vs:List Value) (h:Rs S w (some (ρ++[gl])) xs vs):Rs S w (some (ρ++[fl K])) xs vs:=by
 match xs with
 | []=>exact h
 | x :: xs=>obtain ⟨v,vs,rfl,h1,h2⟩:=h;exact ⟨v,vs,rfl,R_fill K x v h1,Rs_fill K xs vs h2⟩
end
theorem app_key {ρ:List Loc} {l:Loc} {b:Nat} {loc:Loc} (h:(ρ++[l])[b]?=some loc):(b<ρ.length∧ρ[b]?=some loc)∨(b=ρ.length∧loc=l):=by
 by_cases hlt:b<ρ.length
 ·rw [List.getElem?_append_left hlt] at h;exact .inl ⟨hlt,h⟩
 ·rw [List.getElem?_append_right (by omega)] at h
  have:b-ρ.length=0:=by have:=(List.getElem?_eq_some_iff.1 h).1;simp at this;omega
  rw [this] at h;simp at h;exact .inr ⟨by omega,h.symm⟩
theorem Sim.fill {B:Nat} {S:Nat→Prop} {ρ:List Loc} {A:St} {a:Act} {w:World} {h0:List Blk} (hs:Sim B S γ (ρ++[gl]) A a w) (hA:A.h=h0++[Blk.any]) (zc:Array Value) (t:TypeId) :
  Sim B S γ (ρ++[fl w.heap.size]) A a (w.alloc (.cells zc t))∧ExtQ S w S (w.alloc (.cells zc t)):=by
 have hq:ExtQ S w S (w.alloc (.cells zc t)):=⟨Fr.cells w zc t,fun k hk=>Below.heap_alloc w _ k hk,fun _ h=>h,fun _ h=>.inl h⟩
 have hs2:=hs.q hq
 have hh:=hs2.heap
 have hlen:ρ.length=h0.length:=by have:=hh.len;rw [hA] at this;simp at this;exact this
 refine ⟨⟨hs2.nodef,hs2.size,hs2.small,fun n=>R_fill _ _ _ (hs2.slot n),?_⟩,hq⟩
 refine ⟨by rw [hA];simp [hlen],fun b blk loc h1 h2=>?_,fun b loc K h1 h2=>?_,fun b b' loc loc' K h1 h2 h3 h4=>?_,hh.sle,hh.gok,hh.bsz,fun b loc h1=>?_⟩
 ·rcases app_key h2 with ⟨c1,c2⟩ | ⟨c1,c2⟩
  ·have h2':(ρ++[gl])[b]?=some loc:=by rw [List.getElem?_append_left c1];exact c2
   have:=hh.blk b blk loc h1 h2'
   cases blk with
   | any=>trivial
   | ghost=>exact this
   | box v=>
    obtain ⟨k1,K,ty,xv,k2,k3,k4,k5⟩:=this
    exact ⟨k1,K,ty,xv,k2,k3,R_fill _ _ _ k4,k5⟩
   | run g k es=>exact this
   | map ks vs=>exact this
   | obj K o s tmps=>
    obtain ⟨k1,k2,k3,k4⟩:=this
    exact ⟨k1,k2,k3,fun n=>R_fill _ _ _ (k4 n)⟩
   | nest g k ess hole=>
    obtain ⟨k1,k2,k3,evs,k4,k5,k6,k7⟩:=this
    refine ⟨k1,k2,k3,evs,k4,k5,k6,fun p es v s g1 g2 g3=>?_⟩
    have:=k7 p es v s g1 g2 g3
    cases hole with
    | none=>exact this
    | some ix=>
     rcases this with ⟨a1,a2,a3,a4⟩ | this
     ·exact .inl ⟨a1,a2,R_fill _ _ _ a3,a4⟩
     ·exact .inr this
  ·rw [c1,hA,hlen] at h1
   simp at h1;subst h1;trivial
 ·rcases app_key h1 with ⟨c1,c2⟩ | ⟨c1,c2⟩
  ·exact hh.own b loc K (by rw [List.getElem?_append_left c1];exact c2) h2
  ·subst c2
   have h2:=Loc.has_nil rfl h2
   cases h2
   exact ⟨fun hk=>by have:=hs.heap.sle _ hk;omega,by simp,hs.heap.bsz⟩
 ·have old:∀ (b:Nat) (loc:Loc),ρ[b]?=some loc→loc.has K→K<w.heap.size:=fun b loc e1 e2=>
   (hs.heap.own b loc K (by rw [List.getElem?_append_left (List.getElem?_eq_some_iff.1 e1).1];exact e1) e2).2.1
  rcases app_key h1 with ⟨c1,c2⟩ | ⟨c1,c2⟩<;>rcases app_key h2 with ⟨d1,d2⟩ | ⟨d1,d2⟩
  ·exact hh.inj b b' loc loc' K (by rw [List.getElem?_append_left c1];exact c2) (by rw [List.getElem?_append_left d1];exact d2) h3 h4
  ·subst d2;have h4:=Loc.has_nil rfl h4;cases h4;have:=old b loc c2 h3;omega
  ·subst c2;have h3:=Loc.has_nil rfl h3;cases h3;have:=old b' loc' d2 h4;omega
  ·omega
 ·rcases app_key h1 with ⟨c1,c2⟩ | ⟨c1,c2⟩
  ·exact hh.sok b loc (by rw [List.getElem?_append_left c1];exact c2)
  ·subst c2;exact .nil rfl
def SimG (zv:Value) (B:Nat) (S:Nat→Prop) (γ:Nat→Option AV) (ρ:List Loc) (dn:Bool) (A:St) (a:Act) (w:World):Prop:=
 match dn with
 | false=>Sim B S γ (ρ++[gl]) A a w
 | true=>∃ K ty,Sim B S γ (ρ++[fl K]) A a w∧w.heap[K]?=some (.cells zv.cells ty (0,0))
theorem SimG.sim {zv:Value} {B:Nat} {S:Nat→Prop} {ρ:List Loc} {dn:Bool} {A:St} {a:Act} {w:World} (h:SimG zv B S γ ρ dn A a w):∃ l,Sim B S γ (ρ++[l]) A a w ∧
  ∀ S' A' a' w',Sim B S' γ (ρ++[l]) A' a' w'→(∀ k,k<w.heap.size→w'.heap[k]?=w.heap[k]?)→SimG zv B S' γ ρ dn A' a' w':=by
 cases dn with
 | false=>exact ⟨gl,h,fun _ _ _ _ h _=>h⟩
 | true=>
  obtain ⟨K,ty,h1,h2⟩:=h
  exact ⟨fl K,h1,fun S' A' a' w' h3 h4=>⟨K,ty,h3,by rw [h4 K (Array.getElem?_eq_some_iff.1 h2).1];exact h2⟩⟩
theorem wpOp_of_aOpG {ops:Array Oper} {z:AV} {zv:Value} {B:Nat} {S:Nat→Prop} {ρ:List Loc} {A:St} {a:Act} {w:World} {h0:List Blk} {dn:Bool} {ia:Nat} (hs:SimG zv B S γ ρ dn A a w) (hA:A.h=h0++[Blk.any]) {i:Nat} {K:St→Prop} {K':Act→World→Prop} {Q':Exit→Act→World→Prop}
  {t:TypeId} (hz:∀ w,(Instr.alloc t true (.tuple #[])).run P w=.ok (.pointer (some ⟨w.heap.size,0,none⟩)) (w.alloc (.cells zv.cells t)))
  (hia:∀ o (t:TypeId),ops[i]?=some o→o.op=.alloc t→i=ia) (hdn:i=ia→dn=false) (hia':∀ o,ops[ia]?=some o→o.op=.alloc t∧o.guard=none)
  (h:aOp P γ (some z) ops i K A) (hK:∀ S' A' a' w',K A'→A'.h=h0++[Blk.any]→SimG zv B S' γ ρ (dn || decide (i=ia)) A' a' w'→ExtQ S w S' w'→K' a' w') (hi:i<ops.size):wpOp P ops Q' i K' a w:=by
 unfold aOp at h
 unfold wpOp
 split
 ·rename_i ho;exact absurd hi (by have:=Array.getElem?_eq_none_iff.1 ho;omega)
 ·rename_i o ho
  simp only [ho] at h
  obtain ⟨v,hy,hk⟩:=h
  have keep:∀ S' A' a' w',K A'→A'.h=h0++[Blk.any]→SimG zv B S' γ ρ dn A' a' w'→ExtQ S w S' w'→i≠ia→K' a' w':=fun S' A' a' w' e1 e2 e3 e4 e5=>hK S' A' a' w' e1 e2 (by rw [decide_eq_false e5,Bool.or_false];exact e3) e4
  by_cases hii:i=ia
  ·obtain ⟨ht0,hg0⟩:=hia' o (hii ▸ ho)
   have hwt:wantA ops o A=some true:=by unfold wantA;rw [hg0]
   rcases hy with (⟨h1,_⟩ | ⟨h1,_⟩) | ⟨t',z',h0',e1,e2,e3,e4,e5,e6,e7,e8⟩
   ·exact absurd ht0 (h1 t)
   ·rw [hwt] at h1;cases h1
   ·cases e3
    obtain rfl:t=t':=by rw [ht0] at e1;exact Op.alloc.inj e1
    obtain rfl:h0'=h0:=by rw [hA] at e7;exact (List.append_inj' e7 rfl).1.symm
    have hdn:=hdn hii
    subst hdn
    have hs:Sim B S γ (ρ++[gl]) A a w:=hs
    obtain ⟨f1,f2⟩:=hs.fill hA zv.cells t
    have hrun:=hz w
    rw [if_pos (wantA_sound hs hwt)]
    refine .inl ?_
    have hex:(execOp a.eval o).run P w=.ok (.value (.pointer (some ⟨w.heap.size,0,none⟩))) (w.alloc (.cells zv.cells t)):=by
     obtain ⟨d,op,ty,pos,af,g⟩:=o
     simp only at e1
     subst e1
     simp only [execOp,Sem.run_bind]
     rw [hrun];rfl
    show Oper.wp P o a w _ Q'
    unfold Oper.wp
    rw [hex]
    have hlen:ρ.length=h0'.length:=by have:=hs.heap.len;rw [hA] at this;simpa using this
    have hp:R S (w.alloc (.cells zv.cells t)) (some (ρ++[fl w.heap.size])) v (.pointer (some ⟨w.heap.size,0,none⟩)):=by
     rw [e8,←hlen]
     exact ⟨_,fl w.heap.size,w.heap.size,rfl,getElem?_concat _ _,rfl,rfl,rfl⟩
    have hsg:SimG zv B S γ ρ (false || decide (i=ia)) (A.put o.dst v) (a.put o.dst (.pointer (some ⟨w.heap.size,0,none⟩))) (w.alloc (.cells zv.cells t)):=by
     rw [decide_eq_true hii,Bool.or_true]
     exact ⟨w.heap.size,t,f1.put o.dst hp,heap_alloc_new w _⟩
    exact hK S _ _ _ hk (by rw [St.put_h];exact hA) hsg f2
  ·rcases hy with (⟨_,h1,h2⟩ | ⟨h1,h2⟩) | ⟨t,z',h0',e1,e2,e3,e4,e5,e6,e7,e8⟩
   ·obtain ⟨l,hs1,hs2⟩:=hs.sim
    rw [if_pos (wantA_sound hs1 h1)]
    refine .inl (h2 B S (ρ++[l]) w a.eval a _ _ hs1.heap (fun x _=>hs1.ev x) fun S' w' v' hq hv=>?_)
    exact keep S' _ _ w' hk (by rw [St.put_h];exact hA) (hs2 S' _ _ w' ((hs1.q hq).put o.dst hv) hq.same) hq hii
   ·obtain ⟨l,hs1,hs2⟩:=hs.sim
    rw [if_neg (by rw [wantA_sound hs1 h1];simp)]
    subst h2
    exact keep S _ _ w hk (by rw [St.put_h];exact hA) (hs2 S _ _ w (hs1.put o.dst (v:=.undef) (v':=Go.undef) rfl) (fun _ _=>rfl)) (ExtQ.refl S w) hii
   ·exact absurd (hia o t ho e1) hii
theorem wpAny_of_AG {md:Region.Mode} {ops:Array Oper} {z:AV} {zv:Value} {h0:List Blk} {ia:Nat} {n g:Nat} {L:Array Bool→St→Prop} {Q':Exit→Act→World→Prop} {B:Nat} {S:Nat→Prop} {ρ:List Loc} {w:World} (hn:n≤ops.size) (hian:ia<n)
  {t:TypeId} (hz:∀ w,(Instr.alloc t true (.tuple #[])).run P w=.ok (.pointer (some ⟨w.heap.size,0,none⟩)) (w.alloc (.cells zv.cells t)))
  (hia:∀ i o (t:TypeId),i<n→ops[i]?=some o→o.op=.alloc t→i=ia) (hia':∀ o,ops[ia]?=some o→o.op=.alloc t∧o.guard=none)
  (hL:∀ listed S' A a w',L listed A→A.h=h0++[Blk.any]→SimG zv B S' γ ρ (listed.getD ia true) A a w'→ExtQ S w S' w'→wpAny P md ops Q' g listed a w') :
  ∀ (f:Nat) (listed:Array Bool) (S':Nat→Prop) (A:St) (a:Act) (w':World),listed.size=ops.size→A.h=h0++[Blk.any]→SimG zv B S' γ ρ (listed.getD ia true) A a w'→ExtQ S w S' w'→wpAnyA P γ (some z) md ops n L f listed A→wpAny P md ops Q' (f+g) listed a w'
 | 0,listed,S',A,a,w',_,hA,hs,hx,h=>by rw [Nat.zero_add];exact hL _ _ _ _ _ h hA hs hx
 | f+1,listed,S',A,a,w',hsz,hA,hs,hx,h=>by
  rw [show f+1+g=(f+g)+1 by omega]
  refine ⟨fun h0=>absurd h0 h.1,fun i hi=>?_⟩
  have hin:=(h.2 i hi).1
  have hun:=(mem_ready.1 hi).1
  refine wpOp_of_aOpG hs hA hz (fun o t e1 e2=>hia i o t hin e1 e2) (fun e=>by rw [←e];exact hun) hia' (h.2 i hi).2 (fun S'' A'' a'' w'' hk hA'' hs' hq=>?_) (by omega)
  refine wpAny_of_AG hn hian hz hia hia' hL f _ S'' A'' a'' w'' (by simp [hsz]) hA'' ?_ (hx.trans hq) hk
  have:(listed.setIfInBounds i true).getD ia true=(listed.getD ia true || decide (i=ia)):=by
   by_cases e:i=ia
   ·subst e
    rw [decide_eq_true rfl,Bool.or_true,Array.getD_eq_getD_getElem?,Array.getElem?_setIfInBounds_self_of_lt (by omega)];rfl
   ·rw [getD_set_ne true e,decide_eq_false e,Bool.or_false]
  rw [this];exact hs'
def vhdA (τ:Nat→TI) (γ:Nat→Option AV) (C:List Blk→QC) (ops:Array Oper) (b:Nat):List Oper→St→(St→Prop)→Prop
 | [],A,K=>K A
 | o :: r,A,K=>match o.op with
  | .alloc _=>vhdA τ γ C ops b r (A.put o.dst (.ptr b 0)) K
  | _=>match wantA ops o A with
   | some true=>vq τ (C A.h) o.op (A.ev γ) A.h fun v=>splitG (isGuard ops o.dst) v fun v=>vhdA τ γ C ops b r (A.put o.dst v) K
   | some false=>vhdA τ γ C ops b r (A.put o.dst .undef) K
   | none=>False
def allocAt (ops:List Oper):Option Nat:=
 match ops with
 | []=>none
 | o :: r=>match o.op with
  | .alloc t=>if (r.all fun o=>match o.op with | .alloc _=>false | _=>true) && o.guard.isNone then some t else none
  | _=>allocAt r
theorem allocAt_spec:∀ {l:List Oper} {t:TypeId},allocAt l=some t→∃ (ia:Nat) (o:Oper),l[ia]?=some o∧o.op=.alloc t∧o.guard=none∧∀ (i:Nat) (o':Oper) (t':TypeId),l[i]?=some o'→o'.op=.alloc t'→i=ia
 | [],_,h=>by cases h
 | o :: r,t,h=>by
  unfold allocAt at h
  split at h
  ·rename_i t0 e0
   split at h
   ·rename_i hc
    cases h
    rw [Bool.and_eq_true,List.all_eq_true] at hc
    refine ⟨0,o,rfl,e0,by simpa using hc.2,fun i o' t' h1 h2=>?_⟩
    cases i with
    | zero=>rfl
    | succ i=>
     have:=hc.1 o' (List.mem_of_getElem? (by simpa using h1))
     rw [h2] at this;cases this
   ·cases h
  ·rename_i hne
   obtain ⟨ia,o1,h1,h2,h3,h4⟩:=allocAt_spec h
   refine ⟨ia+1,o1,by simpa using h1,h2,h3,fun i o' t' k1 k2=>?_⟩
   cases i with
   | zero=>
    simp at k1;subst k1
    exact absurd k2 (hne t')
   | succ i=>rw [h4 i o' t' (by simpa using k1) k2]
theorem vhdA_sound (hτ:∀ t,τ t=tiOf P t) {CQ:List Blk→QC} (hC:∀ h f args k,CQ h f args k→QCalls P γ h f args k) {ops:Array Oper} {K:St→Prop} {h0:List Blk} {z:AV} :
  ∀ (l:List Oper) (A:St),A.h=h0++[Blk.any]→(∀ o∈l,∀ t,o.op=.alloc t→o.guard=none∧(tiOf P t).k.isOther=false∧(tiOf P t).zero=some z∧z.flat=true)→vhdA τ γ CQ ops h0.length l A K→wpLexA P γ (some z) ops K l A
 | [],A,_,_,h=>h
 | o :: r,A,hA,hl,h=>by
  have hr:∀ o∈r,∀ t,o.op=.alloc t→o.guard=none∧(tiOf P t).k.isOther=false∧(tiOf P t).zero=some z∧z.flat=true:=fun o' ho'=>hl o' (by simp [ho'])
  have next:∀ v,vhdA τ γ CQ ops h0.length r (A.put o.dst v) K→wpLexA P γ (some z) ops K r (A.put o.dst v):=fun v hv=>vhdA_sound hτ hC r _ (by rw [St.put_h];exact hA) hr hv
  unfold vhdA at h
  split at h
  ·rename_i t e
   obtain ⟨g1,g2,g3,g4⟩:=hl o (by simp) t e
   exact ⟨_,.inr ⟨t,z,h0,e,g1,rfl,g2,g3,g4,hA,rfl⟩,next _ h⟩
  ·rename_i hna
   split at h
   ·rename_i hw
    obtain ⟨v,h1,h2⟩:=vq_sound (γ:=γ) hτ (hC A.h) h
    cases hg:isGuard ops o.dst with
    | false=>rw [hg] at h1;exact ⟨v,.inl (.inl ⟨hna,hw,h2⟩),next _ h1⟩
    | true=>
     rw [hg] at h1
     simp only [splitG] at h1
     split at h1
     ·rename_i x
      cases hx:x () with
      | true=>exact ⟨.tt,.inl (.inl ⟨hna,hw,h2.b fun S w m u hu=>by have hu:u=.bool (x ()):=hu;rw [hx] at hu;exact hu⟩),next _ (h1.1 () hx)⟩
      | false=>exact ⟨.ff,.inl (.inl ⟨hna,hw,h2.b fun S w m u hu=>by have hu:u=.bool (x ()):=hu;rw [hx] at hu;exact hu⟩),next _ (h1.2 () hx)⟩
     ·exact ⟨v,.inl (.inl ⟨hna,hw,h2⟩),next _ h1⟩
   ·rename_i hw
    exact ⟨.undef,.inl (.inr ⟨hw,rfl⟩),next _ h⟩
   ·exact h.elim
end
end Go.AL
namespace Go.AL
open Go Go.RowKit
section
variable {P:Program} {γ:Nat→Option AV} {τ:Nat→TI}
theorem wp_region_AG {id:Nat} {Q:Exit→Act→World→Prop} {ops:Array Oper} {B:Nat} {S:Nat→Prop} {ρ:List Loc} {A:St} {a:Act} {w:World} {K:St→Prop} {z:AV} {zv:Value} {ia:Nat} (n:Nat) (hm:P.follows .mixedOrders=true) (hB:drawB ops n=true) (hn:n<ops.size) (hs:Sim B S γ ρ A a w) (hian:ia<n)
  (hzz:z=ofV zv) (hzf:z.flat=true) {t:TypeId} (hz:∀ w,(Instr.alloc t true (.tuple #[])).run P w=.ok (.pointer (some ⟨w.heap.size,0,none⟩)) (w.alloc (.cells zv.cells t)))
  (hia:∀ i o (t:TypeId),i<n→ops[i]?=some o→o.op=.alloc t→i=ia) (hia':∀ o,ops[ia]?=some o→o.op=.alloc t∧o.guard=none)
  (h:wpLexA P γ (some z) ops K (ops.toList.take n) ⟨A.n,A.s,A.h++[Blk.any]⟩) (hK:∀ S' ρ' A' a' w',K A'→A'.h=A.h++[Blk.any]→Sim B S' γ ρ' ⟨A'.n,A'.s,A.h++[Blk.box z]⟩ a' w'→Ext B S ρ w S' ρ' w'→wpList P ops Q (ops.toList.drop n) a' w'):(Code.region id ops true).wp P Q a w:=by
 obtain ⟨gh1,gh2⟩:=hs.heap.ghost gl rfl Blk.any trivial
 have hs0:Sim B S γ (ρ++[gl]) ⟨A.n,A.s,A.h++[Blk.any]⟩ a w:=⟨hs.nodef,hs.size,hs.small,fun k=>gh2.R (hs.slot k),gh1⟩
 have hq0:ExtQ S w S { w with drawn:=w.drawn+1 }:=⟨⟨rfl,rfl,rfl,Nat.le_refl _,fun _ _=>rfl⟩,fun _ _=>rfl,fun _ h=>h,fun _ h=>.inl h⟩
 have hs1:=hs0.q hq0
 have inv0:HeadInv .any ops n (Array.replicate ops.size false):=
  ⟨by simp,fun j oj _ hl=>(by rw [getD_replicate_false] at hl;cases hl),fun t _ ht=>getD_in (by simpa using ht) (getD_replicate_false _ _)⟩
 unfold drawB at hB
 rw [if_pos hn] at hB
 simp only [Region.lexTailB,Bool.and_eq_true,decide_eq_true_eq] at hB
 obtain ⟨⟨⟨⟨hsel,_⟩,hs'⟩,hc⟩,hlex⟩:=hB
 have hhead:∀ (i:Nat),i<n→∀ (listed:Array Bool),HeadInv .any ops n listed→listed.getD i true=false→∀ j∈Region.ready .any ops listed,j<n:=fun i hi listed inv hun j hj=>by
  rcases Nat.lt_or_ge j n with h | h
  ·exact h
  ·exact absurd hj (tail_waits hs' hc hn inv _ i rfl hi hun j h)
 have htl:(ops.toList.take n).length=n:=by simp;omega
 have hdl:(ops.toList.drop n).length=ops.size-n:=by simp
 have H:=wpAnyA_lex (P:=P) (γ:=γ) (al:=some z) (md:=.any) (g:=ops.size-n) hhead (ops.toList.take n) 0 (Array.replicate ops.size false) ⟨A.n,A.s,A.h++[Blk.any]⟩ hs.small (fun j hj=>by
  have hj':j<n:=by rw [htl] at hj;exact hj
  simp [hj']) (by simpa using htl) inv0 (by rw [htl];exact hlex) (fun j hj=>absurd hj (by omega)) h
 refine wp_region_any hm ?_
 have:=wpAny_of_AG (P:=P) (γ:=γ) (md:=.any) (ops:=ops) (z:=z) (zv:=zv) (h0:=A.h) (ia:=ia) (n:=n) (g:=ops.size-n) (Q':=Q) (B:=B) (S:=S) (ρ:=ρ) (w:={ w with drawn:=w.drawn+1 }) (by omega) hian hz hia hia' (fun listed S' A' a' w' hL hA' hsg hq'=>by
  have hd:listed.getD ia true=true:=hL.1.2 ia hian
  rw [hd] at hsg
  obtain ⟨K0,ty,hsim,hcell⟩:=hsg
  have hlen:ρ.length=A.h.length:=hs.heap.len
  -- the block is told
  have hsim2:Sim B S' γ (ρ++[fl K0]) ⟨A'.n,A'.s,A.h++[Blk.box z]⟩ a' w':=by
   refine ⟨hsim.nodef,hsim.size,hsim.small,hsim.slot,?_⟩
   have:=hsim.heap.retell A.h.length (.box z) fun loc hloc=>by
    rw [←hlen,getElem?_concat] at hloc
    cases hloc
    exact ⟨rfl,K0,ty,zv,rfl,hcell,by rw [hzz];exact R_ofV zv,hzf⟩
   rw [hA'] at this
   simpa using this
  have hq2:ExtQ S w S' w':=hq0.trans hq'
  have hx:Ext B S ρ w S' (ρ++[fl K0]) w':=⟨hq2.fr,fun k hk=>hq2.same k (Nat.lt_of_lt_of_le hk hs.heap.bsz),hq2.sub,fun k hk=>hq2.same k (hs.heap.sle k hk),LocsUp.append _ _,fun k hk=>(hq2.new k hk).imp (fun h=>h) fun h=>Nat.le_trans hs.heap.bsz h.1⟩
  have:=wpAny_of_seq (md:=.any) (Q':=Q) (ops.toList.drop n) n listed a' w' (fun j=>by simp [List.getElem?_drop]) (by rw [hdl];exact hL.1.1) (hK S' _ A' a' w' hL.2 hA' hsim2 hx)
  rwa [hdl] at this) _ (Array.replicate ops.size false) S _ a _ (by simp) rfl (by
   rw [getD_in (by simp;omega) (getD_replicate_false _ _)];exact hs1) (ExtQ.refl _ _) H
 rw [htl,show n+(ops.size-n)=ops.size by omega] at this
 exact this
theorem AWP.drawA (hτ:∀ t,τ t=tiOf P t) {C:EC} {CQ:List Blk→QC} (hC:∀ f args h Q,C f args h Q→PC P γ f args h Q) (hCQ:∀ h f args k,CQ h f args k→QCalls P γ h f args k) (hm:P.follows .mixedOrders=true)
  {id:Nat} {ops:Array Oper} {Q:Exit→St→Prop} {A:St} (n:Nat) {t:TypeId} {z:AV} (hB:(drawB ops n && decide (n<ops.size))=true) (hal:allocAt (ops.toList.take n)=some t) (ho:(τ t).k.isOther=false) (hz:(τ t).zero=some z) (hf:z.flat=true)
  (hv:vhdA τ γ CQ ops A.h.length (ops.toList.take n) ⟨A.n,A.s,A.h++[Blk.any]⟩ fun A'=>vops τ γ C ops.toList (ops.toList.drop n) ⟨A'.n,A'.s,A.h++[Blk.box z]⟩ (Q .normal)):AWP P γ (.region id ops true) Q A:=by
 intro B S ρ a w hs
 rw [Bool.and_eq_true,decide_eq_true_eq] at hB
 obtain ⟨ia,o0,h1,h2,h3,h4⟩:=allocAt_spec hal
 have hia:ia<n:=by have:=(List.getElem?_eq_some_iff.1 h1).1;simp at this;omega
 have get:∀ (i:Nat) (o:Oper),i<n→ops[i]?=some o→(ops.toList.take n)[i]?=some o:=fun i o hi h=>by rw [List.getElem?_take,if_pos hi];simpa using h
 rw [hτ] at ho hz
 obtain ⟨d,i,e1,e2,e3⟩:=tk_other (notOther ho)
 obtain ⟨zv,hzv,hzz⟩:∃ zv,i.zero=some zv∧z=ofV zv:=by
  rw [e3] at hz
  cases hx:i.zero with
  | none=>simp [hx] at hz
  | some zv=>exact ⟨zv,rfl,by simpa [hx] using hz.symm⟩
 have ho0:ops[ia]?=some o0:=by rw [List.getElem?_take,if_pos hia] at h1;simpa using h1
 have uniq:∀ o∈ops.toList.take n,∀ t',o.op=.alloc t'→o=o0:=fun o hm t' ht'=>by
  obtain ⟨j,hj⟩:=List.getElem?_of_mem hm
  have:=h4 j o t' hj ht'
  subst this
  rw [h1] at hj;cases hj;rfl
 have hrun:∀ w,(Instr.alloc t true (.tuple #[])).run P w=.ok (.pointer (some ⟨w.heap.size,0,none⟩)) (w.alloc (.cells zv.cells t)):=fun w=>by simp [Instr.alloc,run_zeroValue e2 hzv,newVar,newRow]
 refine wp_region_AG (z:=z) (zv:=zv) (ia:=ia) (K:=fun A'=>vops τ γ C ops.toList (ops.toList.drop n) ⟨A'.n,A'.s,A.h++[Blk.box z]⟩ (Q .normal)) n hm hB.1 hB.2 hs hia hzz hf hrun (fun i o t' k1 k2 k3=>h4 i o t' (get i o k1 k2) k3) (fun o k=>by rw [ho0] at k;cases k;exact ⟨h2,h3⟩)
  (vhdA_sound hτ hCQ _ _ rfl (fun o hm t' ht'=>by
   obtain rfl:=uniq o hm t' ht'
   rw [h2] at ht';cases ht'
   exact ⟨h3,ho,hz,hf⟩) hv) fun S' ρ' A' a' w' hk hA' hs' hx=>?_
 exact vops_sound hτ hC _ _ B S' ρ' a' w' hs' hk fun S'' ρ'' A'' a'' w'' h1 h2 h3=>⟨S'',ρ'',A'',h1,h2,hx.trans h3⟩
end
end Go.AL
namespace Go.AL
open Go Go.RowKit
def masks (M:List Nat):Nat→List Blk→List Blk
 | _,[]=>[]
 | i,b :: r=>(match M.contains i with | true=>.any | false=>b) :: masks M (i+1) r
def rng:Nat→Nat→List Nat
 | _,0=>[]
 | a,n+1=>a :: rng (a+1) n
def gblk:Option Nat→Blk
 | none=>.ghost
 | some k=>.run 0 k fun _=>.nil
def isEff:Op→Bool
 | .alloc _ | .box .. | .store .. | .makeSlice .. | .makeMap .. | .mapUpdate .. | .call ⟨.builtin .append,_,_⟩ | .call ⟨.builtin .copy,_,_⟩ | .call ⟨.builtin .delete,_,_⟩=>true
 | _=>false
def veB (τ:Nat→TI) (o:Op) (e:Operand→AV) (hf hm:List Blk) (fr:List Nat) (k:AV→Nat→Blk→Blk→List Nat→Prop):Prop:=
 match o with
 | .alloc t=>match fr with
  | g :: r=>match hf[g]? with
   | some .ghost=>if (τ t).k.isOther=false then match (τ t).zero with
     | some z=>if z.flat=true then k (.ptr g 0) g .ghost (.box z) r else False
     | none=>False
    else False
   | _=>False
  | []=>False
 | .box _ x=>match fr with
  | g :: r=>match hf[g]? with
   | some .ghost=>if (e x).flat=true then k (.ptr g 0) g .ghost (.box (e x)) r else False
   | _=>False
  | []=>False
 | .makeMap _ m=>match m with
  | none=>match fr with
   | g :: r=>match hf[g]? with
    | some .ghost=>k (.mp g) g .ghost (.map (fun _=>.nil) fun _=>.nil) r
    | _=>False
   | []=>False
  | some _=>False
 | .makeSlice t n m=>match fr with
  | g :: r=>match hf[g]? with
   | some (.run gg q es)=>vmakeSlice (τ t).k (τ (τ t).k.elem).cs [] (e n) (e m) fun v h'=>match v with
     | .sl b0 g0 sz off len=>match h' with
      | x :: h''=>match x with
       | .run g1 z es'=>match h'' with
        | []=>match b0 with
         | 0=>match g0 with
          | 0=>match g1 with
           | 0=>if sz=q then if z=q then k (.sl g (gg+1) q off len) g (.run gg q es) (.run (gg+1) q es') r else False else False
           | _=>False
          | _=>False
         | _=>False
        | _=>False
       | _=>False
      | _=>False
     | _=>False
   | _=>False
  | []=>False
 | .store t p x=>match e p with
  | .ptr b off=>match hf[b]? with
   | some xb=>vstore (τ t) (hm.set b xb) (.ptr b off) (e x) fun h'=>k .undef b xb (h'.getD b .any) fr
   | none=>False
  | .hp b g i off=>match hf[b]? with
   | some xb=>vstore (τ t) (hm.set b xb) (.hp b g i off) ((e x).nrm (τ t).cs) fun h'=>k .undef b xb (h'.getD b .any) fr
   | none=>False
  | _=>False
 | .mapUpdate t m x y=>match (τ t).k with
  | .map kt et=>match e m with
   | .mp b=>match hf[b]? with
    | some xb=>vmapUpdate (τ kt) (τ et) (hm.set b xb) (.mp b) (e x) (e y) fun h'=>k .undef b xb (h'.getD b .any) fr
    | none=>False
   | _=>False
  | _=>False
 | .call ⟨.builtin .append,args,ts⟩=>match args.toList with
  | [x,y]=>match ts.toList with
   | [t,u]=>match e x with
    | .sl b g q off n=>match hf[b]? with
     | some xb=>vappend (τ t).k (τ u).k (hm.set b xb) (.sl b g q off n) (e y) fun v h'=>k v b xb (h'.getD b .any) fr
     | none=>False
    | .nils=>match fr with
     | b :: r=>match hf[b]? with
      | some (.run gg q es)=>vappend (τ t).k (τ u).k (hm.set b (.run gg q es)) (.sl b gg q (fun _=>0) fun _=>0) (e y) fun v h'=>k v b (.run gg q es) (h'.getD b .any) r
      | _=>False
     | []=>False
    | _=>False
   | _=>False
  | _=>False
 | _=>False
def afters (md:Region.Mode) (ops:Array Oper) (k:Nat):List Nat:=
 match ops[k]? with
 | some o=>(o.after.toList.filter fun e=>Region.binds md e).map (·.on)
 | none=>[]
def ancs (md:Region.Mode) (ops:Array Oper):Nat→List Nat→List Nat
 | 0,L=>L
 | k+1,L=>ancs md ops k (match L.contains k with | true=>afters md ops k++L | false=>L)
abbrev BW:=Option (Nat × Bool)
def confl (x y:BW):Bool:=
 match x with
 | none=>false
 | some (b,w)=>match y with
  | none=>false
  | some (c,u)=>(b == c) && (w || u)
def sepB (md:Region.Mode) (ops:Array Oper) (L:List BW):Bool:=
 (List.range L.length).all fun j=>(List.range j).all fun i=>!(confl (L[i]?).join (L[j]?).join) || (ancs md ops (j+1) [j]).contains i
def rdOf (o:Op) (e:Operand→AV):Option Nat:=
 match o with
 | .load _ p=>match e p with | .ptr b _=>some b | .hp b _ _ _=>some b | _=>none
 | .lookup _ m _ _=>match e m with | .mp b=>some b | _=>none
 | .call ⟨.builtin .len,args,_⟩=>match args.toList with | [x]=>(match e x with | .mp b=>some b | _=>none) | _=>none
 | _=>none
def vhdE (τ:Nat→TI) (γ:Nat→Option AV) (C:List Blk→QC) (ops:Array Oper) (M:List Nat):List Oper→List BW→List Nat→St→(List BW→St→Prop)→Prop
 | [],acc,_,A,K=>K acc A
 | o :: r,acc,fr,A,K=>match wantA ops o A with
  | some true=>match isEff o.op with
   | true=>veB τ o.op (A.ev γ) A.h (masks M 0 A.h) fr fun v b _ y fr'=>match M.contains b with
    | true=>vhdE τ γ C ops M r (acc++[some (b,true)]) fr' (St.put ⟨A.n,A.s,A.h.set b y⟩ o.dst v) K
    | false=>False
   | false=>match rdOf o.op (A.ev γ) with
    | none=>vq τ (C (masks M 0 A.h)) o.op (A.ev γ) (masks M 0 A.h) fun v=>splitG (isGuard ops o.dst) v fun v=>vhdE τ γ C ops M r (acc++[none]) fr (A.put o.dst v) K
    | some b=>match M.contains b with
     | true=>match A.h[b]? with
      | some x=>vq τ (C ((masks M 0 A.h).set b x)) o.op (A.ev γ) ((masks M 0 A.h).set b x) fun v=>splitG (isGuard ops o.dst) v fun v=>vhdE τ γ C ops M r (acc++[some (b,false)]) fr (A.put o.dst v) K
      | none=>False
     | false=>vq τ (C (masks M 0 A.h)) o.op (A.ev γ) (masks M 0 A.h) fun v=>splitG (isGuard ops o.dst) v fun v=>vhdE τ γ C ops M r (acc++[none]) fr (A.put o.dst v) K
  | some false=>vhdE τ γ C ops M r (acc++[none]) fr (A.put o.dst .undef) K
  | none=>False
theorem masks_get (M:List Nat):∀ (h:List Blk) (i c:Nat),(masks M i h)[c]?=(h[c]?).map fun b=>match M.contains (i+c) with | true=>.any | false=>b
 | [],i,c=>by simp [masks]
 | b :: r,i,c=>by
  cases c with
  | zero=>simp [masks]
  | succ c=>
   simp only [masks,List.getElem?_cons_succ]
   rw [masks_get M r (i+1) c,show i+1+c=i+(c+1) by omega]
theorem masks_len (M:List Nat):∀ (h:List Blk) (i:Nat),(masks M i h).length=h.length
 | [],i=>rfl
 | b :: r,i=>by simp [masks,masks_len M r (i+1)]
theorem masks_set {M:List Nat} {b:Nat} (hb:M.contains b=true) (h:List Blk) (y:Blk):masks M 0 (h.set b y)=masks M 0 h:=by
 apply List.ext_getElem?
 intro c
 rw [masks_get,masks_get]
 by_cases e:b=c
 ·subst e
  rw [Nat.zero_add,hb]
  rcases Nat.lt_or_ge b h.length with hlt | hlt
  ·rw [List.getElem?_set_self hlt,List.getElem?_eq_getElem hlt];rfl
  ·rw [List.getElem?_eq_none (by simpa using hlt),List.getElem?_eq_none hlt]
 ·rw [List.getElem?_set_ne e]
def subH (h h':List Blk):Prop:=h.length=h'.length∧∀ (c:Nat) (x:Blk),h[c]?=some x→x=.any∨h'[c]?=some x
theorem subH.masks (M:List Nat) (h:List Blk):subH (masks M 0 h) h:=by
 refine ⟨masks_len _ _ _,fun c x hx=>?_⟩
 rw [masks_get] at hx
 cases hc:h[c]? with
 | none=>rw [hc] at hx;cases hx
 | some b=>
  rw [hc] at hx
  simp only [Option.map_some] at hx
  split at hx
  ·exact .inl (Option.some.inj hx).symm
  ·exact .inr hx
theorem subH.setL {h h':List Blk} (hs:subH h h') {b:Nat} {x:Blk} (hb:h'[b]?=some x):subH (h.set b x) h':=by
 refine ⟨by simp [hs.1],fun c y hy=>?_⟩
 rw [List.getElem?_set] at hy
 split at hy
 ·rename_i e;subst e
  split at hy
  ·cases hy;exact .inr hb
  ·cases hy
 ·exact hs.2 c y hy
theorem subH.at {h h':List Blk} (hs:subH h h') {b:Nat} {x:Blk} (hb:h[b]?=some x) (hx:x≠.any):h'[b]?=some x:=(hs.2 b x hb).resolve_left hx
section
variable {P:Program} {γ:Nat→Option AV} {τ:Nat→TI}
theorem HeapR.sub {B:Nat} {S:Nat→Prop} {ρ:List Loc} {h h':List Blk} {w:World} (hh:HeapR B S γ ρ h' w) (hs:subH h h'):HeapR B S γ ρ h w:=by
 refine ⟨by rw [hh.len,hs.1],fun b blk loc h1 h2=>?_,hh.own,hh.inj,hh.sle,hh.gok,hh.bsz,hh.sok⟩
 rcases hs.2 b blk h1 with rfl | h3
 ·trivial
 ·exact hh.blk b blk loc h3 h2
theorem QOp.sub {o:Oper} {e:Operand→AV} {h h':List Blk} {v:AV} (hq:QOp P γ o e h v) (hs:subH h h'):QOp P γ o e h' v:=
 fun B S ρ w re a next Q' hh hx hn=>hq B S ρ w re a next Q' (hh.sub hs) hx hn
def AV.blkOf (v:AV):Nat:=
 match v with
 | .ptr c _=>c
 | .hp c _ _ _=>c
 | .sl c _ _ _ _=>c
 | .mp c=>c
 | _=>0
theorem vstore_sub {t:TI} {h:List Blk} {p v:AV} {k:List Blk→Prop} (hv:vstore t h p v k):p.blkOf<h.length∧∃ y,k (h.set p.blkOf y)∧∀ h',subH h h'→vstore t h' p v fun h''=>h''=h'.set p.blkOf y:=by
 unfold vstore at *
 split at hv
 ·rename_i hc
  simp only [if_pos hc]
  split at hv
  ·rename_i b off
   split at hv
   ·rename_i e hb
    split at hv
    ·rename_i hf
     refine ⟨(List.getElem?_eq_some_iff.1 hb).1,_,hv,fun h' hs=>?_⟩
     simp only [hs.at hb (by simp)]
     rw [if_pos hf];rfl
    ·exact hv.elim
   ·exact hv.elim
  ·rename_i b g i off
   split at hv
   ·rename_i g' m es hb
    split at hv
    ·rename_i hcl
     refine ⟨(List.getElem?_eq_some_iff.1 hb).1,_,hv.2,fun h' hs=>?_⟩
     simp only [hs.at hb (by simp)]
     rw [if_pos hcl];exact ⟨hv.1,rfl⟩
    ·exact hv.elim
   ·rename_i g' q ess hole hb
    split at hv
    ·cases off with
     | succ _=>exact hv.elim
     | zero=>
      simp only at hv
      split at hv
      ·rename_i hone
       refine ⟨(List.getElem?_eq_some_iff.1 hb).1,_,hv.2,fun h' hs=>?_⟩
       simp only [hs.at hb (by simp)]
       rw [if_pos hone];exact ⟨hv.1,rfl⟩
      ·exact hv.elim
    ·cases off with
     | succ _=>exact hv.elim
     | zero=>
      simp only at hv
      split at hv
      ·rename_i hone
       refine ⟨(List.getElem?_eq_some_iff.1 hb).1,_,hv.2,fun h' hs=>?_⟩
       simp only [hs.at hb (by simp)]
       rw [if_pos hone];exact ⟨hv.1,rfl⟩
      ·exact hv.elim
   ·exact hv.elim
  ·exact hv.elim
 ·exact hv.elim
theorem vmapUpdate_sub {kt et:TI} {h:List Blk} {m x y:AV} {k:List Blk→Prop} (hv:vmapUpdate kt et h m x y k):m.blkOf<h.length∧∃ z,k (h.set m.blkOf z)∧∀ h',subH h h'→vmapUpdate kt et h' m x y fun h''=>h''=h'.set m.blkOf z:=by
 unfold vmapUpdate at *
 split at hv
 ·rename_i b
  split at hv
  ·rename_i ks vs hb
   split at hv
   ·rename_i xs
    split at hv
    ·rename_i hc
     refine ⟨(List.getElem?_eq_some_iff.1 hb).1,_,hv.2,fun h' hs=>?_⟩
     simp only [hs.at hb (by simp),hc]
     exact ⟨hv.1,rfl⟩
    ·exact hv.elim
   ·exact hv.elim
  ·exact hv.elim
 ·exact hv.elim
def appK (bytes sz b g m:Nat) (off n:Unit→Nat) (h:List Blk) (k:AV→List Blk→Prop) (new:Unit→LV):Prop:=
 if m=sz then match h[b]? with
  | some (.run g' _ es)=>(∀ _:Unit,g'=g∧off ()=0∧n ()=(es ()).l.length∧(n ()+(new ()).l.length) * bytes≤140737488355328∧n ()+(new ()).l.length≤4611686018427387904∧∀ v∈(new ()).l,v.flat=true) ∧
    k (.sl b (g+1) sz (fun _=>0) fun _=>n ()+(new ()).l.length) (h.set b (.run (g+1) sz fun _=>LV.of ((es ()).l++(new ()).l)))
  | _=>False
 else False
theorem appK_sub {bytes sz b g m:Nat} {off n:Unit→Nat} {h:List Blk} {k:AV→List Blk→Prop} {new:Unit→LV} (hv:appK bytes sz b g m off n h k new) :
  b<h.length∧∃ v z,k v (h.set b z)∧∀ h',subH h h'→appK bytes sz b g m off n h' (fun v' h''=>v'=v∧h''=h'.set b z) new:=by
 unfold appK at hv
 split at hv
 ·rename_i hm
  split at hv
  ·rename_i g' mm es hb
   refine ⟨(List.getElem?_eq_some_iff.1 hb).1,_,_,hv.2,fun h' hs=>?_⟩
   unfold appK
   rw [if_pos hm]
   simp only [hs.at hb (by simp)]
   exact ⟨hv.1,trivial,trivial⟩
  ·exact hv.elim
 ·exact hv.elim
theorem shows_sub2 {h:List Blk} {sz:Nat} {y:AV} {K:(Unit→LV)→Prop} (hv:shows h sz y K):∃ new,K new∧∀ h' (K':(Unit→LV)→Prop),subH h h'→K' new→shows h' sz y K':=by
 unfold shows at hv
 split at hv
 ·rename_i m es
  split at hv
  ·rename_i e
   exact ⟨_,hv,fun h' K' _ hk=>by unfold shows;simp only;rw [if_pos e];exact hk⟩
  ·exact hv.elim
 ·exact ⟨_,hv,fun h' K' _ hk=>by unfold shows;exact hk⟩
 ·rename_i b g m off n
  split at hv
  ·rename_i e
   split at hv
   ·rename_i hb
    exact ⟨_,hv.2,fun h' K' hs hk=>by unfold shows;simp only;rw [if_pos e];simp only [hs.at hb (by simp)];exact ⟨hv.1,hk⟩⟩
   ·exact hv.elim
  ·exact hv.elim
 ·exact hv.elim
theorem vappend0_sub {t u:TK} {h:List Blk} {b g m:Nat} {off n:Unit→Nat} {y:AV} {k:AV→List Blk→Prop} (hv:vappend0 t u h (.sl b g m off n) y k) :
  b<h.length∧∃ v z,k v (h.set b z)∧∀ h',subH h h'→vappend0 t u h' (.sl b g m off n) y fun v' h''=>v'=v∧h''=h'.set b z:=by
 unfold vappend0 at hv
 split at hv
 ·rename_i e sz bytes z
  split at hv
  ·rename_i u1 u2 u3 u4
   split at hv
   ·rename_i hz
    obtain ⟨new,h1,h2⟩:=shows_sub2 (K:=appK bytes sz b g m off n h k) hv
    obtain ⟨h3,v,z',h4,h5⟩:=appK_sub h1
    refine ⟨h3,v,z',h4,fun h' hs=>?_⟩
    unfold vappend0
    simp only [hz,if_true]
    exact h2 h' (appK bytes sz b g m off n h' fun v' h''=>v'=v∧h''=h'.set b z') hs (h5 h' hs)
   ·exact hv.elim
  ·exact hv.elim
 ·exact hv.elim
theorem vappN_sub {t u:TK} {h:List Blk} {b g m:Nat} {off n:Unit→Nat} {y:AV} {k:AV→List Blk→Prop} (hv:vappN t u h (.sl b g m off n) y k) :
  b<h.length∧∃ v z,k v (h.set b z)∧∀ h',subH h h'→vappN t u h' (.sl b g m off n) y fun v' h''=>v'=v∧h''=h'.set b z:=by
 unfold vappN at *
 split at hv
 ·split at hv
  ·simp only at hv
   split at hv
   ·rename_i hb
    split at hv
    ·split at hv
     ·rename_i hc
      refine ⟨(List.getElem?_eq_some_iff.1 hb).1,_,_,hv.2,fun h' hs=>?_⟩
      simp only [hs.at hb (by simp),hc,if_true]
      exact ⟨hv.1,trivial,trivial⟩
     ·exact hv.elim
    ·exact hv.elim
   ·exact hv.elim
  ·exact hv.elim
 ·exact hv.elim
theorem vappend_sub {t u:TK} {h:List Blk} {b g m:Nat} {off n:Unit→Nat} {y:AV} {k:AV→List Blk→Prop} (hv:vappend t u h (.sl b g m off n) y k) :
  b<h.length∧∃ v z,k v (h.set b z)∧∀ h',subH h h'→vappend t u h' (.sl b g m off n) y fun v' h''=>v'=v∧h''=h'.set b z:=by
 cases y
 case v1 v=>exact vappN_sub hv
 all_goals exact vappend0_sub hv
def EffOp (P:Program) (γ:Nat→Option AV) (o:Oper) (e:Operand→AV) (hq:List Blk) (v:AV) (up:List Blk→List Blk):Prop:=
 ∀ A:St,(∀ z∈o.op.operands,A.ev γ z=e z)→subH hq A.h→OpR P γ o A fun A'=>A'=St.put ⟨A.n,A.s,up A.h⟩ o.dst v
theorem EffOp.congr {o:Oper} {e e':Operand→AV} {hq:List Blk} {v:AV} {up:List Blk→List Blk} (h:EffOp P γ o e hq v up) (he:∀ z∈o.op.operands,e' z=e z):EffOp P γ o e' hq v up:=
 fun A h1 h2=>h A (fun z hz=>(h1 z hz).trans (he z hz)) h2
theorem EffOp.of_q {o:Oper} {e:Operand→AV} {h:List Blk} {v:AV} (hq:QOp P γ o e h v):EffOp P γ o e h v id:=by
 intro A h1 h2
 exact OpR.of_q ((hq.sub h2).congr h1)
theorem OpR.of_ve (hτ:∀ t,τ t=tiOf P t) {o:Oper} {A:St} {v:AV} {h':List Blk} (hv:ve τ o.op (A.ev γ) A.h fun v' h''=>v'=v∧h''=h'):OpR P γ o A fun A'=>A'=St.put ⟨A.n,A.s,h'⟩ o.dst v:=by
 obtain ⟨v1,h1,⟨rfl,rfl⟩,h2⟩:=ve_sound hτ hv
 exact h2
theorem OpR.of_new {o:Oper} {A:St} {g:Nat} {v:AV} {y:Blk} (hg:A.h[g]?=some .ghost)
  (hr:∀ B S ρ w (re:Operand→Value),HeapR B S γ ρ A.h w→(∀ x,R S w (some ρ) (A.ev γ x) (re x))→∃ v' o',(execOp re o).run P w=.ok (.value v') (w.alloc o')∧(∀ c t lo hi,o'=.cells c t (lo,hi)→lo=0∧hi=0) ∧
   BlkR S (w.alloc o') (ρ.set g ⟨true,0,some w.heap.size,0,0,[]⟩) ⟨true,0,some w.heap.size,0,0,[]⟩ y∧R S (w.alloc o') (some (ρ.set g ⟨true,0,some w.heap.size,0,0,[]⟩)) v v') :
  OpR P γ o A fun A'=>A'=St.put ⟨A.n,A.s,A.h.set g y⟩ o.dst v:=by
 refine OpR.of_e fun B S ρ w re hh he=>?_
 obtain ⟨v',o',h1,h2,h3,h4⟩:=hr B S ρ w re hh he
 have hlt:g<ρ.length:=by rw [hh.len];exact (List.getElem?_eq_some_iff.1 hg).1
 obtain ⟨k1,k2⟩:=hh.blk g _ _ hg (List.getElem?_eq_getElem hlt)
 have hup:=hh.upd (loc':=⟨true,0,some w.heap.size,0,0,[]⟩) (blk':=y) (w':=w.alloc o') (List.getElem?_eq_getElem hlt) (.inr (.inr ⟨k1,rfl,k2⟩)) (fun K hK=>.inr (by cases hK;simp)) (Fr.alloc w o' h2)
  (fun k hk _=>Below.heap_alloc w _ k hk) h3
 exact ⟨v',S,_,_,.inl h1,hup.2,hup.1,h4⟩
theorem set_self_get {ρ:List Loc} {g:Nat} {l:Loc} (h:g<ρ.length):(ρ.set g l)[g]?=some l:=by simp [h]
theorem R_ghostUp {S:Nat→Prop} {w w':World} {ρ:List Loc} {g:Nat} {l:Loc} {x:AV} {v:Value} (h:R S w (some ρ) x v) (hS:SameOn S w w') (hg:∀ l0,ρ[g]?=some l0→l0.up l):R S w' (some (ρ.set g l)) x v:=by
 refine R.mono (fun _ h=>h) hS (ρ:=some ρ) (ρ':=some (ρ.set g l)) ?_ x v h
 intro b l0 hl
 by_cases e:g=b
 ·subst e
  exact ⟨l,set_self_get (List.getElem?_eq_some_iff.1 hl).1,hg l0 hl⟩
 ·exact ⟨l0,by rw [List.getElem?_set_ne e];exact hl,.inl ⟨_,rfl⟩⟩
end
end Go.AL
namespace Go.AL
open Go Go.RowKit
section
variable {P:Program} {γ:Nat→Option AV} {τ:Nat→TI}
theorem eff_alloc {o:Oper} {t:TypeId} (ho:o.op=.alloc t) {e:Operand→AV} {hq:List Blk} {g:Nat} {z:AV} (h1:(tiOf P t).k.isOther=false) (h2:(tiOf P t).zero=some z) (h3:z.flat=true) (hg:hq[g]?=some .ghost) :
  EffOp P γ o e hq (.ptr g 0) fun h=>h.set g (.box z):=by
 intro A _ hs
 refine OpR.of_new (hs.at hg (by simp)) fun B S ρ w re hh hx=>?_
 obtain ⟨d,i,e1,e2,e3⟩:=tk_other (notOther h1)
 obtain ⟨zv,hzv,rfl⟩:∃ zv,i.zero=some zv∧z=ofV zv:=by
  rw [e3] at h2
  cases hx:i.zero with
  | none=>simp [hx] at h2
  | some zv=>exact ⟨zv,rfl,by simpa [hx] using h2.symm⟩
 have hlt:g<ρ.length:=by rw [hh.len];exact (List.getElem?_eq_some_iff.1 (hs.at hg (by simp))).1
 obtain ⟨dd,op,ty,pos,af,gg⟩:=o
 simp only at ho
 subst ho
 have hrun:(Instr.alloc t true (.tuple #[])).run P w=.ok (.pointer (some ⟨w.heap.size,0,none⟩)) (w.alloc (.cells zv.cells t)):=by simp [Instr.alloc,run_zeroValue e2 hzv,newVar,newRow]
 refine ⟨_,.cells zv.cells t,by simp only [execOp,Sem.run_bind];rw [hrun];rfl,by intro _ _ _ _ e;cases e;exact ⟨rfl,rfl⟩,⟨rfl,w.heap.size,t,zv,rfl,heap_alloc_new w _,R_ofV zv,h3⟩,_,_,w.heap.size,rfl,set_self_get hlt,rfl,rfl,rfl⟩
theorem eff_box {o:Oper} {t:TypeId} {x:Operand} (ho:o.op=.box t x) {e:Operand→AV} {hq:List Blk} {g:Nat} (h3:(e x).flat=true) (hg:hq[g]?=some .ghost) :
  EffOp P γ o e hq (.ptr g 0) fun h=>h.set g (.box (e x)):=by
 intro A he hs
 have hg2:=hs.at hg (by simp)
 refine OpR.of_new hg2 fun B S ρ w re hh hx=>?_
 have hlt:g<ρ.length:=by rw [hh.len];exact (List.getElem?_eq_some_iff.1 hg2).1
 have hxx:=hx x
 rw [he x (by rw [ho];simp [Op.operands])] at hxx
 obtain ⟨dd,op,ty,pos,af,gg⟩:=o
 simp only at ho
 subst ho
 have hrun:(Instr.box t (re x)).run P w=.ok (.pointer (some ⟨w.heap.size,0,none⟩)) (w.alloc (.cells (re x).cells t)):=by simp [Instr.box,newVar,newRow]
 have hS:SameOn S w (w.alloc (.cells (re x).cells t)):=fun k hk=>Below.heap_alloc w _ k (hh.sle k hk)
 obtain ⟨k1,k2⟩:=hh.blk g _ _ hg2 (List.getElem?_eq_getElem hlt)
 refine ⟨_,.cells (re x).cells t,by simp only [execOp,Sem.run_bind];rw [hrun];rfl,by intro _ _ _ _ e;cases e;exact ⟨rfl,rfl⟩,⟨rfl,w.heap.size,t,re x,rfl,heap_alloc_new w _,R_ghostUp hxx hS (fun l0 hl=>?_),h3⟩,_,_,w.heap.size,rfl,set_self_get hlt,rfl,rfl,rfl⟩
 rw [List.getElem?_eq_getElem hlt] at hl
 cases hl
 exact .inr (.inr ⟨k1,rfl,k2⟩)
theorem eff_makeMap {o:Oper} {t:TypeId} (ho:o.op=.makeMap t none) {e:Operand→AV} {hq:List Blk} {g:Nat} (hg:hq[g]?=some .ghost) :
  EffOp P γ o e hq (.mp g) fun h=>h.set g (.map (fun _=>.nil) fun _=>.nil):=by
 intro A he hs
 have hg2:=hs.at hg (by simp)
 refine OpR.of_new hg2 fun B S ρ w re hh hx=>?_
 have hlt:g<ρ.length:=by rw [hh.len];exact (List.getElem?_eq_some_iff.1 hg2).1
 obtain ⟨dd,op,ty,pos,af,gg⟩:=o
 simp only at ho
 subst ho
 have hrun:(Instr.makeMap t none).run P w=.ok (.map (some w.heap.size)) (w.alloc (.map #[] 0)):=by simp [Instr.makeMap,newObj];rfl
 exact ⟨_,.map #[] 0,by simp only [execOp,Sem.run_bind,Option.map_none];rw [hrun];rfl,(by intro _ _ _ _ e;cases e),⟨rfl,w.heap.size,[],[],#[],0,rfl,heap_alloc_new w _,rfl,rfl,rfl,rfl⟩,_,_,w.heap.size,rfl,set_self_get hlt,rfl,rfl,rfl⟩
theorem vmakeSlice_shape {t:TK} {cs:List CK} {n m:AV} {k:AV→List Blk→Prop} (hv:vmakeSlice t cs [] n m k):∃ sz len es,k (.sl 0 0 sz (fun _=>0) len) [.run 0 sz es]∧vmakeSlice t cs [] n m fun v h'=>v=.sl 0 0 sz (fun _=>0) len∧h'=[.run 0 sz es]:=by
 unfold vmakeSlice at hv ⊢
 split at hv
 ·rename_i e sz bytes z
  split at hv
  ·rename_i hz
   split at hv
   ·rename_i n0 hn
    split at hv
    ·rename_i m0 hm
     cases z<;>(refine ⟨_,_,_,hv.2,?_⟩;simp only [hz,if_true,hn,hm];exact ⟨hv.1,rfl,rfl⟩)
    ·exact hv.elim
   ·exact hv.elim
  ·exact hv.elim
 ·exact hv.elim
theorem toI_of {x:AV} {n:Unit→Int} (h:toI x=some n) {S:Nat→Prop} {w:World} {m m':Option (List Loc)} {v:Value} (hr:R S w m x v):R S w m' x v:=by
 cases x<;>simp [toI] at h<;>exact hr
theorem eff_makeSlice {o:Oper} {t:TypeId} {n m:Operand} (ho:o.op=.makeSlice t n m) {e:Operand→AV} {hq:List Blk} {g gg q:Nat} {es es':Unit→LV} {len:Unit→Nat} {cs:List CK}
  (hv:vmakeSlice (tiOf P t).k cs [] (e n) (e m) fun v h'=>v=.sl 0 0 q (fun _=>0) len∧h'=[.run 0 q es']) (hg:hq[g]?=some (.run gg q es)) :
  EffOp P γ o e hq (.sl g (gg+1) q (fun _=>0) len) fun h=>h.set g (.run (gg+1) q es'):=by
 intro A he hs
 have hg2:=hs.at hg (by simp)
 have hv0:=hv
 unfold vmakeSlice at hv0
 obtain ⟨n0,m0,hn0,hm0⟩:∃ n0 m0,toI (e n)=some n0∧toI (e m)=some m0:=by
  split at hv0
  ·split at hv0
   ·split at hv0
    ·rename_i n0 hn
     split at hv0
     ·rename_i m0 hm;exact ⟨n0,m0,hn,hm⟩
     ·exact hv0.elim
    ·exact hv0.elim
   ·exact hv0.elim
  ·exact hv0.elim
 obtain ⟨v,h',⟨rfl,rfl⟩,hrun⟩:=run_vmakeSlice (γ:=γ) hv
 refine OpR.of_e fun B S ρ w re hh hx=>?_
 have hxn:=hx n
 have hxm:=hx m
 rw [he n (by rw [ho];simp [Op.operands])] at hxn
 rw [he m (by rw [ho];simp [Op.operands])] at hxm
 have hh0:HeapR w.heap.size S γ [] [] w:=⟨rfl,fun b blk loc h _=>by simp at h,fun b loc K h _=>by simp at h,fun b b' loc loc' K h _ _ _=>by simp at h,hh.sle,hh.gok,Nat.le_refl _,fun b loc h=>by simp at h⟩
 obtain ⟨v',ρ1,w',h1,h2,h3,h4⟩:=hrun w.heap.size S [] w (re n) (re m) hh0 (toI_of hn0 hxn) (toI_of hm0 hxm)
 obtain ⟨dd,op,ty,pos,af,gd⟩:=o
 simp only at ho
 subst ho
 obtain ⟨l,loc,a,cap,hl,c1,c2,c3,c4,hv',c6,c7,c8⟩:=h4
 cases hl
 have hlt:g<ρ.length:=by rw [hh.len];exact (List.getElem?_eq_some_iff.1 hg2).1
 have hb1:=h3.blk 0 _ loc rfl c1
 obtain ⟨d1,d2,d3,evs,d4,d5,d6⟩:=hb1
 obtain ⟨f1,f2,f3,_⟩:=hh.blk g _ _ hg2 (List.getElem?_eq_getElem hlt)
 have hup:=hh.upd (loc':={ loc with g:=gg+1,sub:=[] }) (blk':=.run (gg+1) q es') (w':=w') (List.getElem?_eq_getElem hlt) (.inr (.inl ⟨f1,d1,by show _<gg+1;omega,by rw [f3];exact d3.symm⟩)) (fun K hK=>.inr (by
   obtain ⟨m1,m2,m3⟩:=h3.own 0 loc K c1 (.inl hK)
   exact ⟨m3,m2⟩)) h2.fr (fun k hk _=>h2.below k hk) ⟨d1,rfl,d3,evs,d4,d5,d6⟩
 refine ⟨v',S,_,w',.inl (by simp only [execOp,Sem.run_bind];rw [h1];rfl),hup.2,hup.1,_,{ loc with g:=gg+1,sub:=[] },a,cap,rfl,set_self_get hlt,d1,d3,Nat.le_refl _,hv',c6,c7,fun _=>c8 d2⟩
theorem run_args {args:Array Operand} {l:List Operand} (h:args.toList=l):args=l.toArray:=by rw [←h]
theorem eff_append {o:Oper} {x y:Operand} {t u:TypeId} (ho:o.op=.call ⟨.builtin .append,#[x,y],#[t,u]⟩) {e:Operand→AV} {hq:List Blk} {b g m:Nat} {off n:Unit→Nat} {v:AV} {z:Blk} (hx:e x=.sl b g m off n)
  (hv:∀ h',subH hq h'→vappend (tiOf P t).k (tiOf P u).k h' (.sl b g m off n) (e y) fun v' h''=>v'=v∧h''=h'.set b z):EffOp P γ o e hq v fun h=>h.set b z:=by
 intro A he hs
 refine OpR.of_ve (τ:=tiOf P) (fun _=>rfl) ?_
 rw [ho]
 simp only [ve,List.toList_toArray]
 rw [he x (by rw [ho];simp [Op.operands,Call.operands]),he y (by rw [ho];simp [Op.operands,Call.operands]),hx]
 exact hv _ hs
theorem eff_appendNil {o:Oper} {x y:Operand} {t u:TypeId} (ho:o.op=.call ⟨.builtin .append,#[x,y],#[t,u]⟩) {e:Operand→AV} {hq:List Blk} {b g q:Nat} {es:Unit→LV} {v:AV} {z:Blk} (hx:e x=.nils)
  (hb:hq[b]?=some (.run g q es))
  (hv:∀ h',subH hq h'→vappend (tiOf P t).k (tiOf P u).k h' (.sl b g q (fun _=>0) fun _=>0) (e y) fun v' h''=>v'=v∧h''=h'.set b z):EffOp P γ o e hq v fun h=>h.set b z:=by
 intro A he hs
 obtain ⟨v',h',⟨rfl,rfl⟩,hrun⟩:=run_vappend (γ:=γ) (ty:=o.type) (hv _ hs)
 have hb2:=hs.at hb (by simp)
 refine OpR.of_e fun B S ρ w re hh hr=>?_
 have hxx:=hr x
 have hyy:=hr y
 rw [he x (by rw [ho];simp [Op.operands,Call.operands]),hx] at hxx
 rw [he y (by rw [ho];simp [Op.operands,Call.operands])] at hyy
 have hlt:b<ρ.length:=by rw [hh.len];exact (List.getElem?_eq_some_iff.1 hb2).1
 obtain ⟨f1,f2,f3,_⟩:=hh.blk b _ _ hb2 (List.getElem?_eq_getElem hlt)
 obtain ⟨a,hxa⟩:=hxx
 have hsl:R S w (some ρ) (.sl b g q (fun _=>0) fun _=>0) (re x):=by
  refine ⟨_,_,a,0,rfl,List.getElem?_eq_getElem hlt,f1,f3,by omega,hxa,Nat.le_refl _,.inl rfl,fun _=>?_⟩
  cases hk:(ρ[b]).k with
  | none=>exact .inl ⟨rfl,rfl,rfl⟩
  | some K=>exact .inr ⟨K,rfl,.inl rfl,by simp⟩
 obtain ⟨w1,ρ',w',h3,h4,h5,h6⟩:=hrun B S ρ w _ _ hh hsl hyy
 obtain ⟨dd,op,ty,pos,af,gd⟩:=o
 simp only at ho
 subst ho
 exact ⟨w1,S,ρ',w',.inl (by simp [execOp,resolve,invoke,builtin,h3]),h4,h5,h6⟩
theorem getD_set_lt {l:List Blk} {b:Nat} {x:Blk} (h:b<l.length):(l.set b x).getD b .any=x:=by simp [h]
theorem hq_get {hm:List Blk} {b:Nat} {x:Blk} (h:b<hm.length):(hm.set b x)[b]?=some x:=by simp [h]
theorem vmapUpdate_mono {kt et:TI} {h:List Blk} {m x y:AV} {k k':List Blk→Prop} (hv:vmapUpdate kt et h m x y k) (hk:∀ h,k h→k' h):vmapUpdate kt et h m x y k':=by
 unfold vmapUpdate at *
 split at hv
 ·rename_i b
  cases hb:h[b]? with
  | none=>rw [hb] at hv;exact hv.elim
  | some blk=>
   rw [hb] at hv
   cases blk with
   | map ks vs=>
    cases x with
    | agg xs=>
     simp only at hv ⊢
     split at hv
     ·rename_i hc
      exact ⟨hv.1,hk _ hv.2⟩
     ·exact hv.elim
    | _=>exact hv.elim
   | _=>exact hv.elim
 ·exact hv.elim
theorem veB_sound (hτ:∀ t,τ t=tiOf P t) {o:Oper} {e:Operand→AV} {hf hm:List Blk} {fr:List Nat} {k:AV→Nat→Blk→Blk→List Nat→Prop} (hl:hm.length=hf.length) (hv:veB τ o.op e hf hm fr k) :
  ∃ v b x y r,k v b x y r∧hf[b]?=some x∧EffOp P γ o e (hm.set b x) v fun h=>h.set b y:=by
 unfold veB at hv
 have inr:∀ {b:Nat} {x:Blk},hf[b]?=some x→b<hm.length:=fun h=>by rw [hl];exact (List.getElem?_eq_some_iff.1 h).1
 split at hv
 ·rename_i t ho
  split at hv
  ·rename_i g r
   split at hv
   ·rename_i hg
    split at hv
    ·rename_i h1
     split at hv
     ·rename_i z hz
      split at hv
      ·rename_i hf'
       rw [hτ] at h1 hz
       exact ⟨_,_,_,_,_,hv,hg,eff_alloc ho h1 hz hf' (hq_get (inr hg))⟩
      ·exact hv.elim
     ·exact hv.elim
    ·exact hv.elim
   ·exact hv.elim
  ·exact hv.elim
 ·rename_i t x ho
  split at hv
  ·rename_i g r
   split at hv
   ·rename_i hg
    split at hv
    ·rename_i h1
     exact ⟨_,_,_,_,_,hv,hg,eff_box ho h1 (hq_get (inr hg))⟩
    ·exact hv.elim
   ·exact hv.elim
  ·exact hv.elim
 ·rename_i t m ho
  split at hv
  ·split at hv
   ·rename_i g r
    split at hv
    ·rename_i hg
     exact ⟨_,_,_,_,_,hv,hg,eff_makeMap ho (hq_get (inr hg))⟩
    ·exact hv.elim
   ·exact hv.elim
  ·exact hv.elim
 ·rename_i t n m ho
  split at hv
  ·rename_i g r
   split at hv
   ·rename_i gg q es hg
    obtain ⟨sz,len,es',h1,h2⟩:=vmakeSlice_shape hv
    have h1:if sz=q then (if sz=q then k (.sl g (gg+1) q (fun _=>0) len) g (.run gg q es) (.run (gg+1) q es') r else False) else False:=h1
    by_cases e1:sz=q
    ·subst e1
     rw [if_pos rfl,if_pos rfl] at h1
     rw [hτ] at h2
     exact ⟨_,_,_,_,_,h1,hg,eff_makeSlice ho h2 (hq_get (inr hg))⟩
    ·rw [if_neg e1] at h1
     exact h1.elim
   ·exact hv.elim
  ·exact hv.elim
 ·rename_i t p x ho
  have fin:∀ {b:Nat} {xb y:Blk} {u:AV} {q:AV},e p=q→q.blkOf=b→hf[b]?=some xb→(∀ S w ρ v,R S w ρ (e x) v→R S w ρ u v) →
    (∀ h',subH (hm.set b xb) h'→vstore (τ t) h' q u fun h''=>h''=h'.set b y)→EffOp P γ o e (hm.set b xb) .undef fun h=>h.set b y:=by
   intro b xb y u q hq hqb hb hu hv A he hs
   have h1:=hv _ hs
   rw [hτ] at h1
   obtain ⟨h',rfl,h2⟩:=run_vstore (γ:=γ) h1
   refine OpR.of_e fun B S ρ w re hh hx=>?_
   have hxp:=hx p
   have hxx:=hx x
   rw [he p (by rw [ho];simp [Op.operands]),hq] at hxp
   rw [he x (by rw [ho];simp [Op.operands])] at hxx
   obtain ⟨ρ',w',h3,h4,h5⟩:=h2 B S ρ w _ _ hh hxp (hu _ _ _ _ hxx)
   obtain ⟨dd,op,ty,pos,af,gd⟩:=o
   simp only at ho
   subst ho
   exact ⟨Go.undef,S,ρ',w',.inr ⟨by simp only [execOp,Sem.run_bind];rw [h3];rfl,rfl⟩,h4,h5,rfl⟩
  split at hv
  ·rename_i b off hp
   split at hv
   ·rename_i xb hb
    obtain ⟨_,y,h1,h2⟩:=vstore_sub hv
    simp only [AV.blkOf] at h1 h2
    rw [getD_set_lt (by simp;exact inr hb)] at h1
    exact ⟨_,_,_,_,_,h1,hb,fin hp rfl hb (fun _ _ _ _ h=>h) h2⟩
   ·exact hv.elim
  ·rename_i b g i off hp
   split at hv
   ·rename_i xb hb
    obtain ⟨_,y,h1,h2⟩:=vstore_sub hv
    simp only [AV.blkOf] at h1 h2
    rw [getD_set_lt (by simp;exact inr hb)] at h1
    exact ⟨_,_,_,_,_,h1,hb,fin hp rfl hb (fun _ _ _ _ h=>R_nrm _ h) h2⟩
   ·exact hv.elim
  ·exact hv.elim
 ·rename_i t m x y ho
  split at hv
  ·rename_i kt et ht
   split at hv
   ·rename_i b hm'
    split at hv
    ·rename_i xb hb
     obtain ⟨_,z,h1,h2⟩:=vmapUpdate_sub hv
     simp only [AV.blkOf] at h1 h2
     rw [getD_set_lt (by simp;exact inr hb)] at h1
     refine ⟨_,_,_,_,_,h1,hb,fun A he hs=>OpR.of_ve hτ ?_⟩
     rw [ho]
     simp only [ve,ht]
     rw [he m (by rw [ho];simp [Op.operands]),he x (by rw [ho];simp [Op.operands]),he y (by rw [ho];simp [Op.operands]),hm']
     have:=h2 _ hs
     exact vmapUpdate_mono this fun h' e=>⟨trivial,e⟩
    ·exact hv.elim
   ·exact hv.elim
  ·exact hv.elim
 ·rename_i args ts ho
  split at hv
  ·rename_i x y hargs
   split at hv
   ·rename_i t u hts
    have ha:=run_args hargs
    have ht:ts=#[t,u]:=by rw [←Array.toList_inj,hts]
    subst ha;subst ht
    split at hv
    ·rename_i b g q off n hx
     split at hv
     ·rename_i xb hb
      obtain ⟨_,v,z,h1,h2⟩:=vappend_sub hv
      rw [getD_set_lt (by simp;exact inr hb)] at h1
      rw [hτ,hτ] at h2
      exact ⟨_,_,_,_,_,h1,hb,eff_append ho hx h2⟩
     ·exact hv.elim
    ·rename_i hx
     split at hv
     ·rename_i b r
      split at hv
      ·rename_i gg q es hb
       obtain ⟨_,v,z,h1,h2⟩:=vappend_sub hv
       rw [getD_set_lt (by simp;exact inr hb)] at h1
       rw [hτ,hτ] at h2
       exact ⟨_,_,_,_,_,h1,hb,eff_appendNil ho hx (hq_get (inr hb)) h2⟩
      ·exact hv.elim
     ·exact hv.elim
    ·exact hv.elim
   ·exact hv.elim
  ·exact hv.elim
 ·exact hv.elim
abbrev BB:=Option (Nat × Blk × Option Blk)
def upd (bb:BB) (h:List Blk):List Blk:=match bb with | some (b,_,some y)=>h.set b y | _=>h
def hreq (bb:BB) (h:List Blk):List Blk:=match bb with | none=>h | some x=>h.set x.1 x.2.1
def bwOf (bb:BB):BW:=bb.map fun x=>(x.1,x.2.2.isSome)
def St.putE (A:St) (d:Option Tmp) (v:AV) (bb:BB):St:=St.put ⟨A.n,A.s,upd bb A.h⟩ d v
def YieldsE (P:Program) (γ:Nat→Option AV) (ops:Array Oper) (M:List Nat) (o:Oper) (v:AV) (bb:BB) (A:St):Prop:=
 (wantA ops o A=some true∧(∀ b x y,bb=some (b,x,y)→M.contains b=true∧A.h[b]?=some x)∧EffOp P γ o (A.ev γ) (hreq bb (masks M 0 A.h)) v (upd bb))∨(wantA ops o A=some false∧v=.undef∧bb=none)
def aOpE (P:Program) (γ:Nat→Option AV) (ops:Array Oper) (M:List Nat) (bl:Nat→BW) (i:Nat) (K:St→Prop) (A:St):Prop:=
 match ops[i]? with
 | none=>K A
 | some o=>∃ v bb,bwOf bb=bl i∧YieldsE P γ ops M o v bb A∧K (A.putE o.dst v bb)
def wpAnyE (P:Program) (γ:Nat→Option AV) (md:Region.Mode) (ops:Array Oper) (M:List Nat) (bl:Nat→BW) (n:Nat) (L:Array Bool→St→Prop):Nat→Array Bool→St→Prop
 | 0,listed,A=>L listed A
 | f+1,listed,A=>Region.ready md ops listed≠[]∧∀ i∈Region.ready md ops listed,i<n∧aOpE P γ ops M bl i (wpAnyE P γ md ops M bl n L f (listed.setIfInBounds i true)) A
def wpLexE (P:Program) (γ:Nat→Option AV) (ops:Array Oper) (M:List Nat) (bl:Nat→BW) (K:St→Prop):Nat→List Oper→St→Prop
 | _,[],A=>K A
 | i,o :: r,A=>∃ v bb,bwOf bb=bl i∧YieldsE P γ ops M o v bb A∧wpLexE P γ ops M bl K (i+1) r (A.putE o.dst v bb)
variable {ops:Array Oper} {M:List Nat} {bl:Nat→BW} {md:Region.Mode}
theorem putE_s (A:St) (d:Option Tmp) (v:AV) (bb:BB):(A.putE d v bb).s=(A.put d v).s:=by
 unfold St.putE;cases d<;>simp only [St.put];split<;>rfl
theorem putE_n (A:St) (d:Option Tmp) (v:AV) (bb:BB):(A.putE d v bb).n=A.n:=by unfold St.putE;rw [St.put_n]
theorem putE_h (A:St) (d:Option Tmp) (v:AV) (bb:BB):(A.putE d v bb).h=upd bb A.h:=by unfold St.putE;rw [St.put_h]
theorem St.eq_of {A B:St} (h1:A.n=B.n) (h2:A.s=B.s) (h3:A.h=B.h):A=B:=by cases A;cases B;simp only at h1 h2 h3;subst h1;subst h2;subst h3;rfl
theorem putE_id (A:St) (d:Option Tmp) (v:AV) {bb:BB} (h:upd bb A.h=A.h):A.putE d v bb=A.put d v:=St.eq_of (by rw [putE_n,St.put_n]) (putE_s _ _ _ _) (by rw [putE_h,St.put_h];exact h)
theorem wantA_s {o:Oper} {A B:St} (h:A.s=B.s):wantA ops o A=wantA ops o B:=by unfold wantA;rw [h]
theorem ev_s {A B:St} (h:A.s=B.s) (z:Operand):A.ev γ z=B.ev γ z:=by cases z<;>simp only [St.ev];rw [h]
theorem put_s_put {A B:St} (h:A.s=B.s) (hn:A.n=B.n) (d:Option Tmp) (v:AV):(A.put d v).s=(B.put d v).s:=by
 cases d with
 | none=>exact h
 | some d=>simp only [St.put];rw [hn];split<;>simp [h]
theorem confl_some {b c:Nat} {w u:Bool}:confl (some (b,w)) (some (c,u))=((b == c) && (w || u)):=rfl
theorem confl_comm (x y:BW):confl x y=confl y x:=by
 cases x with
 | none=>cases y<;>rfl
 | some x=>
  cases y with
  | none=>rfl
  | some y=>obtain ⟨b,w⟩:=x;obtain ⟨c,u⟩:=y;simp only [confl_some];rw [Bool.or_comm w u,Bool.beq_comm]
theorem upd_comm {a b:BB} (h:confl (bwOf a) (bwOf b)=false) (l:List Blk):upd a (upd b l)=upd b (upd a l):=by
 match a,b with
 | none,_=>rfl
 | some (_,_,none),_=>rfl
 | some (_,_,some _),none=>rfl
 | some (_,_,some _),some (_,_,none)=>rfl
 | some (i,_,some x),some (j,_,some y)=>
  simp only [upd]
  rw [List.set_comm]
  intro e
  simp [bwOf,confl,e] at h
theorem putE_comm (A:St) {x y:Option Tmp} (v u:AV) {a b:BB} (h:∀ d,x=some d→y≠some d) (hb:confl (bwOf a) (bwOf b)=false):(A.putE x v a).putE y u b=(A.putE y u b).putE x v a:=by
 refine St.eq_of (by simp only [putE_n]) ?_ (by simp only [putE_h];exact (upd_comm hb A.h).symm)
 rw [putE_s,putE_s,put_s_put (putE_s A x v a) (by rw [putE_n,St.put_n]),put_s_put (putE_s A y u b) (by rw [putE_n,St.put_n]),St.put_comm A v u h]
theorem masks_upd {bb:BB} (h:∀ b x y,bb=some (b,x,y)→M.contains b=true) (l:List Blk):masks M 0 (upd bb l)=masks M 0 l:=by
 match bb with
 | none=>rfl
 | some (_,_,none)=>rfl
 | some (b,x,some y)=>exact masks_set (h b x _ rfl) _ _
theorem upd_get {a:BB} {b:Nat} (h:∀ x y,a≠some (b,x,some y)) (l:List Blk):(upd a l)[b]?=l[b]?:=by
 match a with
 | none=>rfl
 | some (_,_,none)=>rfl
 | some (c,x,some y)=>exact List.getElem?_set_ne (fun e=>h x y (by rw [e]))
theorem YieldsE.iff {oi oj:Oper} {v u:AV} {a b:BB} {A:St} (hn:A.n≤1000) (hy:∀ c x y,a=some (c,x,y)→M.contains c=true) (hd:∀ d,oi.dst=some d→d∉oj.looksAt ops) (hb:∀ c x y,b=some (c,x,y)→∀ x' y',a≠some (c,x',some y')) :
  YieldsE P γ ops M oj u b (A.putE oi.dst v a)↔YieldsE P γ ops M oj u b A:=by
 unfold YieldsE
 have hw:wantA ops oj (A.putE oi.dst v a)=wantA ops oj A:=by rw [wantA_s (putE_s A oi.dst v a),wantA_put hn hd]
 have he:∀ z∈oj.op.operands,(A.putE oi.dst v a).ev γ z=A.ev γ z:=fun z hz=>by
  rw [ev_s (putE_s A oi.dst v a)]
  refine St.put_ev hn v fun d hd' e=>?_
  subst e
  exact hd d hd' (List.mem_append_left _ (List.mem_filterMap.2 ⟨.tmp d,by simpa using hz,rfl⟩))
 rw [hw,putE_h,masks_upd hy]
 have e1:(∀ c x y,b=some (c,x,y)→M.contains c=true∧(upd a A.h)[c]?=some x)↔(∀ c x y,b=some (c,x,y)→M.contains c=true∧A.h[c]?=some x):=by
  constructor
  ·intro h c x y e;have:=h c x y e;rw [upd_get (hb c x y e)] at this;exact this
  ·intro h c x y e;rw [upd_get (hb c x y e)];exact h c x y e
 rw [e1]
 constructor
 ·rintro (⟨h1,h2,h3⟩ | h)
  ·exact .inl ⟨h1,h2,h3.congr fun z hz=>(he z hz).symm⟩
  ·exact .inr h
 ·rintro (⟨h1,h2,h3⟩ | h)
  ·exact .inl ⟨h1,h2,h3.congr fun z hz=>he z hz⟩
  ·exact .inr h
theorem YieldsE.inM {o:Oper} {v:AV} {bb:BB} {A:St} (h:YieldsE P γ ops M o v bb A):∀ c x y,bb=some (c,x,y)→M.contains c=true:=by
 rcases h with ⟨_,h,_⟩ | ⟨_,_,h⟩
 ·exact fun c x y e=>(h c x y e).1
 ·intro c x y e;rw [h] at e;cases e
theorem aOpE_mono {i:Nat} {A:St} {K K':St→Prop} (hn:A.n≤1000) (h:∀ A,A.n≤1000→K A→K' A) (hh:aOpE P γ ops M bl i K A):aOpE P γ ops M bl i K' A:=by
 unfold aOpE at *
 split
 ·rename_i ho;simp only [ho] at hh;exact h _ hn hh
 ·rename_i o ho
  simp only [ho] at hh
  obtain ⟨v,bb,h0,h1,h2⟩:=hh
  exact ⟨v,bb,h0,h1,h _ (by rw [putE_n];exact hn) h2⟩
theorem aOpE_put {i j:Nat} {oi oj:Oper} {v:AV} {a:BB} (ha:bwOf a=bl i) (hj:ops[j]?=some oj) (hap:oi.apart ops oj=true) (hsep:confl (bl i) (bl j)=false) {K:St→Prop} {A:St} (hn:A.n≤1000)
  (hy:YieldsE P γ ops M oi v a A) (h:aOpE P γ ops M bl j K (A.putE oi.dst v a)):aOpE P γ ops M bl j (fun A'=>YieldsE P γ ops M oi v a A'∧K (A'.putE oi.dst v a)) A:=by
 obtain ⟨h1,h2,h3⟩:=Oper.apart_spec hap
 unfold aOpE at *
 simp only [hj] at *
 obtain ⟨u,b,hb,hu,hK⟩:=h
 rw [←ha,←hb] at hsep
 have hne:∀ c x y,b=some (c,x,y)→∀ x' y',a≠some (c,x',some y'):=fun c x y e x' y' e2=>by
  rw [e,e2] at hsep;simp [bwOf,confl] at hsep
 have hne':∀ c x y,a=some (c,x,y)→∀ x' y',b≠some (c,x',some y'):=fun c x y e x' y' e2=>by
  rw [e,e2] at hsep;simp [bwOf,confl] at hsep
 have hu':=(YieldsE.iff hn hy.inM h1 hne).1 hu
 refine ⟨u,b,hb,hu',(YieldsE.iff hn hu'.inM h3 hne').2 hy,?_⟩
 rw [←putE_comm A v u h2 hsep]
 exact hK
theorem wpAnyE_first {n i:Nat} {oi:Oper} {v:AV} {a:BB} {L:Array Bool→St→Prop} (hi:ops[i]?=some oi) (hin:i<n) (ha:bwOf a=bl i)
  (hhead:∀ (listed:Array Bool),HeadInv md ops n listed→listed.getD i true=false→∀ j∈Region.ready md ops listed,j<n)
  (hsep:∀ (listed:Array Bool),HeadInv md ops n listed→∀ j,j<n→i∈Region.ready md ops listed→j∈Region.ready md ops listed→j≠i→confl (bl i) (bl j)=false)
  (hdone:∀ listed A,L listed A→∀ j∈Region.ready md ops listed,n≤j) :
  ∀ (f:Nat) (listed:Array Bool) (A:St),A.n≤1000→HeadInv md ops n listed →
   (∀ j oj,ops[j]?=some oj→j≠i→listed.getD j true=false→(∀ e∈oj.after,Region.binds md e=true→e.on≠i)→oi.apart ops oj=true) →
   i∈Region.ready md ops listed→YieldsE P γ ops M oi v a A →
   wpAnyE P γ md ops M bl n L f (listed.setIfInBounds i true) (A.putE oi.dst v a)→wpAnyE P γ md ops M bl n L (f+1) listed A:=by
 intro f
 induction f with
 | zero=>
  intro listed A hn inv _ hr hy H
  have hun:=(mem_ready.1 hr).1
  refine ⟨fun h=>(by rw [h] at hr;cases hr),fun j hj=>?_⟩
  have hjn:j<n:=hhead listed inv hun j hj
  refine ⟨hjn,?_⟩
  by_cases hji:j=i
  ·subst hji;unfold aOpE;simp only [hi];exact ⟨v,a,ha,hy,H⟩
  ·have:=hdone _ _ H j (ready_mono hj hji)
   omega
 | succ f ih=>
  intro listed A hn inv hfree hr hy H
  have hun:=(mem_ready.1 hr).1
  refine ⟨fun h=>(by rw [h] at hr;cases hr),fun j hj=>?_⟩
  have hjn:j<n:=hhead listed inv hun j hj
  refine ⟨hjn,?_⟩
  by_cases hji:j=i
  ·subst hji;unfold aOpE;simp only [hi];exact ⟨v,a,ha,hy,H⟩
  ·have h1:=(H.2 j (ready_mono hj hji)).2
   obtain ⟨hjun,oj,hoj,hall⟩:=mem_ready.1 hj
   have hnot:∀ e∈oj.after,Region.binds md e=true→e.on≠i:=fun e he hb heq=>by
    have h1:=hall e he hb
    rw [heq,getD_both hun] at h1
    cases h1
   have h2:=aOpE_put ha hoj (hfree j oj hoj hji hjun hnot) (hsep listed inv j hjn hr hj hji) hn hy h1
   have hfree':∀ k ok,ops[k]?=some ok→k≠i→(listed.setIfInBounds j true).getD k true=false →
     (∀ e∈ok.after,Region.binds md e=true→e.on≠i)→oi.apart ops ok=true:=fun k ok hk hki hun hno=>by
    refine hfree k ok hk hki ?_ hno
    by_cases hjk:j=k
    ·subst hjk;exact hjun
    ·rw [getD_set_ne true hjk] at hun;exact hun
   refine aOpE_mono hn (fun A' hn' h3=>ih (listed.setIfInBounds j true) A' hn' (inv.set hj hjn) hfree' (ready_mono hr (Ne.symm hji)) h3.1 ?_) h2
   rw [Array.setIfInBounds_comm _ _ hji]
   exact h3.2
theorem wpAnyE_lex {n g:Nat} {Lq:St→Prop}
  (hhead:∀ (i:Nat),i<n→∀ (listed:Array Bool),HeadInv md ops n listed→listed.getD i true=false→∀ j∈Region.ready md ops listed,j<n)
  (hsep:∀ (i:Nat),i<n→∀ (listed:Array Bool),HeadInv md ops n listed→∀ j,j<n→i∈Region.ready md ops listed→j∈Region.ready md ops listed→j≠i→confl (bl i) (bl j)=false) :
  ∀ (l:List Oper) (k:Nat) (listed:Array Bool) (A:St),A.n≤1000→(∀ j,j<l.length→l[j]?=ops[k+j]?)→k+l.length=n→HeadInv md ops n listed →
  Region.lexHead md ops g l.length k listed=true→wpLexE P γ ops M bl Lq k l A →
  wpAnyE P γ md ops M bl n (fun listed' A'=>Region.seqB md ops g n listed'=true∧Lq A') l.length listed A
 | [],k,listed,A,hn,_,hk,_,hB,h=>by
  have:k=n:=by simpa using hk
  subst this
  exact ⟨by simpa [Region.lexHead] using hB,h⟩
 | o :: l,k,listed,A,hn,hl,hk,inv,hB,h=>by
  have h0:ops[k]?=some o:=by simpa using (hl 0 (by simp)).symm
  simp only [List.length_cons,Region.lexHead,Bool.and_eq_true] at hB
  obtain ⟨⟨hr,hf⟩,hB'⟩:=hB
  have hkn:k<n:=by simp only [List.length_cons] at hk;omega
  have hr':k∈Region.ready md ops listed:=by simpa using hr
  obtain ⟨v,a,ha,hy,hK⟩:=h
  exact wpAnyE_first h0 hkn ha (hhead k hkn) (hsep k hkn) (fun listed' A' hL=>seqB_ready hL.1) l.length listed A hn inv (Region.free_spec h0 hf) hr' hy
   (wpAnyE_lex hhead hsep l (k+1) _ _ (by rw [putE_n];exact hn) (fun j hj=>by have:=hl (j+1) (by simp;omega);simpa [Nat.add_assoc,Nat.add_comm 1 j] using this) (by simp only [List.length_cons] at hk;omega) (inv.set hr' hkn) hB' hK)
theorem wpOp_of_aOpE {B:Nat} {S:Nat→Prop} {ρ:List Loc} {A:St} {a:Act} {w:World} (hs:Sim B S γ ρ A a w) {i:Nat} {K:St→Prop} {K':Act→World→Prop} {Q':Exit→Act→World→Prop}
  (h:aOpE P γ ops M bl i K A) (hK:∀ S' ρ' A' a' w',K A'→Sim B S' γ ρ' A' a' w'→Ext B S ρ w S' ρ' w'→K' a' w'):wpOp P ops Q' i K' a w:=by
 unfold aOpE at h
 unfold wpOp
 split
 ·rename_i ho;simp only [ho] at h;exact hK S ρ A a w h hs (Ext.refl B S ρ w)
 ·rename_i o ho
  simp only [ho] at h
  obtain ⟨v,bb,_,hy,hk⟩:=h
  rcases hy with ⟨h1,h2,h3⟩ | ⟨h1,h2,h3⟩
  ·rw [if_pos (wantA_sound hs h1)]
   have hsub:subH (hreq bb (masks M 0 A.h)) A.h:=by
    cases bb with
    | none=>exact subH.masks M A.h
    | some b=>exact (subH.masks M A.h).setL (h2 b.1 b.2.1 b.2.2 rfl).2
   refine .inl (h3 A (fun _ _=>rfl) hsub B S ρ a w _ _ hs fun S' ρ' A' a' w' e h4 h5=>?_)
   exact hK S' ρ' A' a' w' (e ▸ hk) h4 h5
  ·rw [if_neg (by rw [wantA_sound hs h1];simp)]
   subst h2;subst h3
   rw [putE_id _ _ _ rfl] at hk
   exact hK S ρ _ _ w hk (hs.put o.dst (v:=.undef) (v':=Go.undef) rfl) (Ext.refl B S ρ w)
theorem wpAny_of_E {n g:Nat} {L:Array Bool→St→Prop} {Q':Exit→Act→World→Prop} {B:Nat} {S:Nat→Prop} {ρ:List Loc} {w:World}
  (hL:∀ listed S' ρ' A a w',L listed A→Sim B S' γ ρ' A a w'→Ext B S ρ w S' ρ' w'→wpAny P md ops Q' g listed a w') :
  ∀ (f:Nat) (listed:Array Bool) (S':Nat→Prop) (ρ':List Loc) (A:St) (a:Act) (w':World),Sim B S' γ ρ' A a w'→Ext B S ρ w S' ρ' w'→wpAnyE P γ md ops M bl n L f listed A→wpAny P md ops Q' (f+g) listed a w'
 | 0,listed,S',ρ',A,a,w',hs,hx,h=>by rw [Nat.zero_add];exact hL _ _ _ _ _ _ h hs hx
 | f+1,listed,S',ρ',A,a,w',hs,hx,h=>by
  rw [show f+1+g=(f+g)+1 by omega]
  exact ⟨fun h0=>absurd h0 h.1,fun i hi=>wpOp_of_aOpE hs (h.2 i hi).2 fun S'' ρ'' A'' a'' w'' hk hs' hq=>wpAny_of_E hL f _ S'' ρ'' A'' a'' w'' hs' (hx.trans hq) hk⟩
theorem ancs_sound {n:Nat} {listed:Array Bool} (inv:HeadInv md ops n listed) {j:Nat} (hj:j∈Region.ready md ops listed):∀ (k:Nat) (L:List Nat),(∀ x∈L,x=j∨listed.getD x false=true)→∀ x∈ancs md ops k L,x=j∨listed.getD x false=true
 | 0,L,h=>h
 | k+1,L,h=>by
  unfold ancs
  refine ancs_sound inv hj k _ ?_
  split
  ·rename_i hk
   have hk':k∈L:=by simpa using hk
   intro x hx
   rcases List.mem_append.1 hx with hx | hx
   ·right
    unfold afters at hx
    split at hx
    ·rename_i o ho
     obtain ⟨e,he,rfl⟩:=List.mem_map.1 hx
     obtain ⟨he1,he2⟩:=List.mem_filter.1 he
     rcases h k hk' with rfl | hl
     ·obtain ⟨_,oj,hoj,hall⟩:=mem_ready.1 hj
      have:o=oj:=Option.some.inj (ho.symm.trans hoj)
      subst this
      exact hall e (by simpa using he1) he2
     ·exact inv.closed k o ho hl e (by simpa using he1) he2
    ·cases hx
   ·exact h x hx
  ·exact h
theorem sepB_sound {L:List BW} (h:sepB md ops L=true) {n:Nat} {listed:Array Bool} (inv:HeadInv md ops n listed) {i j:Nat} (hi:i<L.length) (hj:j<L.length) (h1:i∈Region.ready md ops listed) (h2:j∈Region.ready md ops listed) (hne:j≠i):confl (L[i]?).join (L[j]?).join=false:=by
 have key:∀ {i j:Nat},i<j→j<L.length→i∈Region.ready md ops listed→j∈Region.ready md ops listed→confl (L[i]?).join (L[j]?).join=false:=by
  intro i j hij hj h1 h2
  unfold sepB at h
  have:=List.all_eq_true.1 (List.all_eq_true.1 h j (List.mem_range.2 hj)) i (List.mem_range.2 hij)
  rw [Bool.or_eq_true] at this
  rcases this with h3 | h3
  ·simpa using h3
  ·have h4:=ancs_sound inv h2 (j+1) [j] (fun x hx=>.inl (by simpa using hx)) i (by simpa using h3)
   rcases h4 with h4 | h4
   ·omega
   ·have:=(mem_ready.1 h1).1
    rw [getD_both this] at h4;cases h4
 rcases Nat.lt_or_gt_of_ne hne with h3 | h3
 ·rw [confl_comm];exact key h3 hi h2 h1
 ·exact key h3 hj h1 h2
end
end Go.AL
namespace Go.AL
open Go Go.RowKit
section
variable {P:Program} {γ:Nat→Option AV} {τ:Nat→TI} {C:EC} {CQ:List Blk→QC}
theorem vhdE_sound (hτ:∀ t,τ t=tiOf P t) (hC:∀ h f args k,CQ h f args k→QCalls P γ h f args k) {ops:Array Oper} {M:List Nat} {K:List BW→St→Prop}:∀ (l:List Oper) (acc:List BW) (fr:List Nat) (A:St),vhdE τ γ CQ ops M l acc fr A K →
  ∃ L:List BW,L.length=l.length∧∀ bl:Nat→BW,(∀ j,j<L.length→bl (acc.length+j)=(L[j]?).join)→wpLexE P γ ops M bl (K (acc++L)) acc.length l A
 | [],acc,fr,A,h=>⟨[],rfl,fun bl _=>by rw [List.append_nil];exact h⟩
 | o :: r,acc,fr,A,h=>by
  have next:∀ (v:AV) (bb:BB) (fr':List Nat),YieldsE P γ ops M o v bb A→vhdE τ γ CQ ops M r (acc++[bwOf bb]) fr' (A.putE o.dst v bb) K →
    ∃ L:List BW,L.length=(o :: r).length∧∀ bl:Nat→BW,(∀ j,j<L.length→bl (acc.length+j)=(L[j]?).join)→wpLexE P γ ops M bl (K (acc++L)) acc.length (o :: r) A:=by
   intro v bb fr' hy hv
   obtain ⟨L,hL,hb⟩:=vhdE_sound hτ hC r _ _ _ hv
   refine ⟨bwOf bb :: L,by simp [hL],fun bl hbl=>⟨v,bb,?_,hy,?_⟩⟩
   ·have:=hbl 0 (by simp)
    rw [Nat.add_zero] at this
    rw [this];rfl
   ·have:=hb bl (fun j hj=>by
     have:=hbl (j+1) (by simp;omega)
     rw [List.length_append,List.length_singleton,Nat.add_assoc,Nat.add_comm 1 j]
     simpa using this)
    rw [List.append_assoc,List.singleton_append,List.length_append] at this
    exact this
  simp only [vhdE] at h
  cases hw:wantA ops o A with
  | none=>rw [hw] at h;exact h.elim
  | some b=>
   rw [hw] at h
   cases b with
   | false=>exact next .undef none fr (.inr ⟨hw,rfl,rfl⟩) (by rw [putE_id _ _ _ rfl];exact h)
   | true=>
    simp only at h
    cases he:isEff o.op with
    | true=>
     rw [he] at h
     simp only at h
     obtain ⟨v,b,x,y,fr',h1,h2,h3⟩:=veB_sound (γ:=γ) hτ (masks_len M A.h 0) h
     cases hM:M.contains b with
     | false=>rw [hM] at h1;exact h1.elim
     | true=>
      rw [hM] at h1
      refine next v (some (b,x,some y)) fr' (.inl ⟨hw,?_,h3⟩) h1
      intro b' x' y' e
      cases e
      exact ⟨hM,h2⟩
    | false=>
     rw [he] at h
     simp only at h
     have fin:∀ (hq:List Blk) (bb:BB) (K':AV→Prop),(∀ v,K' v→vhdE τ γ CQ ops M r (acc++[bwOf bb]) fr (A.put o.dst v) K)→(∀ b x y,bb=some (b,x,y)→M.contains b=true∧A.h[b]?=some x)→upd bb=id→hreq bb (masks M 0 A.h)=hq →
       vq τ (CQ hq) o.op (A.ev γ) hq (fun v=>splitG (isGuard ops o.dst) v K') →
       ∃ L:List BW,L.length=(o :: r).length∧∀ bl:Nat→BW,(∀ j,j<L.length→bl (acc.length+j)=(L[j]?).join)→wpLexE P γ ops M bl (K (acc++L)) acc.length (o :: r) A:=by
      intro hq bb K' hK' hbb hup hhq hv
      obtain ⟨v,h1,h2⟩:=vq_sound (γ:=γ) hτ (hC _) hv
      have go:∀ v,QOp P γ o (A.ev γ) hq v→K' v→∃ L:List BW,L.length=(o :: r).length∧∀ bl:Nat→BW,(∀ j,j<L.length→bl (acc.length+j)=(L[j]?).join)→wpLexE P γ ops M bl (K (acc++L)) acc.length (o :: r) A:=
       fun v hq' hv=>next v bb fr (.inl ⟨hw,hbb,by rw [hhq,hup];exact .of_q hq'⟩) (by rw [putE_id _ _ _ (by rw [hup];rfl)];exact hK' v hv)
      cases hg:isGuard ops o.dst with
      | false=>rw [hg] at h1;exact go v h2 h1
      | true=>
       rw [hg] at h1
       simp only [splitG] at h1
       split at h1
       ·rename_i x
        cases hx:x () with
        | true=>exact go .tt (h2.b fun S w m u hu=>by have hu:u=.bool (x ()):=hu;rw [hx] at hu;exact hu) (h1.1 () hx)
        | false=>exact go .ff (h2.b fun S w m u hu=>by have hu:u=.bool (x ()):=hu;rw [hx] at hu;exact hu) (h1.2 () hx)
       ·exact go v h2 h1
     split at h
     ·exact fin _ none _ (fun v h=>h) (by intro b x y e;cases e) rfl rfl h
     ·rename_i b hb
      split at h
      ·rename_i hM
       split at h
       ·rename_i x hx
        exact fin _ (some (b,x,none)) _ (fun v h=>h) (by intro b' x' y' e;cases e;exact ⟨hM,hx⟩) rfl rfl h
       ·exact h.elim
      ·exact fin _ none _ (fun v h=>h) (by intro b x y e;cases e) rfl rfl h
theorem wpLexE_false {ops:Array Oper} {M:List Nat} {bl:Nat→BW}:∀ {l:List Oper} {i:Nat} {A:St},wpLexE P γ ops M bl (fun _=>False) i l A→False
 | [],_,_,h=>h
 | _ :: _,_,_,⟨_,_,_,_,h⟩=>wpLexE_false h
theorem HeapR.ghosts:∀ (gs:List (Option Nat)) {B:Nat} {S:Nat→Prop} {ρ:List Loc} {h:List Blk} {w:World},HeapR B S γ ρ h w→∃ ρ',HeapR B S γ ρ' (h++gs.map gblk) w∧Ext B S ρ w S ρ' w
 | [],B,S,ρ,h,w,hh=>⟨ρ,by simpa using hh,Ext.refl B S ρ w⟩
 | g :: gs,B,S,ρ,h,w,hh=>by
  have one:∃ ρ1,HeapR B S γ ρ1 (h++[gblk g]) w∧Ext B S ρ w S ρ1 w:=by
   cases g with
   | none=>exact ⟨_,hh.ghost ⟨true,0,none,0,0,[]⟩ rfl .ghost ⟨rfl,rfl⟩⟩
   | some k=>exact ⟨_,hh.ghost ⟨false,0,none,k,0,[]⟩ rfl (.run 0 k fun _=>.nil) ⟨rfl,rfl,rfl,[],rfl,fun e he=>(by cases he),.inl ⟨rfl,rfl⟩⟩⟩
  obtain ⟨ρ1,h1,h2⟩:=one
  obtain ⟨ρ2,h3,h4⟩:=HeapR.ghosts gs h1
  exact ⟨ρ2,by rw [List.map_cons];simpa using h3,h2.trans h4⟩
theorem AWP.drawL (hτ:∀ t,τ t=tiOf P t) (hC:∀ f args h Q,C f args h Q→PC P γ f args h Q) (hm:P.follows .mixedOrders=true)
  {id:Nat} {ops:Array Oper} {Q:Exit→St→Prop} {A:St} (n:Nat) (M:List Nat) (gs:List (Option Nat)) (hB:drawB ops n=true)
  (hlx:∃ L:List BW,L.length=(ops.toList.take n).length∧∀ bl:Nat→BW,(∀ j,j<L.length→bl j=(L[j]?).join)→wpLexE P γ ops (M++rng A.h.length gs.length) bl (fun A'=>match sepB .any ops L with | true=>vops τ γ C ops.toList (ops.toList.drop n) A' (Q .normal) | false=>False) 0 (ops.toList.take n) ⟨A.n,A.s,A.h++gs.map gblk⟩):AWP P γ (.region id ops true) Q A:=by
 intro B S ρ a w hs
 have hnle:n≤ops.size:=by
  unfold drawB at hB
  split at hB
  ·omega
  ·simp only [Bool.and_eq_true,decide_eq_true_eq] at hB;omega
 obtain ⟨ρ0,hh0,hx0⟩:=HeapR.ghosts gs hs.heap
 have hs0:Sim B S γ ρ0 ⟨A.n,A.s,A.h++gs.map gblk⟩ a w:=⟨hs.nodef,hs.size,hs.small,fun k=>hx0.R (hs.slot k),hh0⟩
 have hq:ExtQ S w S { w with drawn:=w.drawn+1 }:=⟨⟨rfl,rfl,rfl,Nat.le_refl _,fun _ _=>rfl⟩,fun _ _=>rfl,fun _ h=>h,fun _ h=>.inl h⟩
 have hs1:=hs0.q hq
 have hx1:Ext B S ρ w S ρ0 { w with drawn:=w.drawn+1 }:=hx0.trans (hh0.ext hq)
 have inv0:HeadInv .any ops n (Array.replicate ops.size false):=
  ⟨by simp,fun j oj _ hl=>(by rw [getD_replicate_false] at hl;cases hl),fun t _ ht=>getD_in (by simpa using ht) (getD_replicate_false _ _)⟩
 obtain ⟨L,hL,hlex⟩:=hlx
 have hlex:=hlex (fun i=>(L[i]?).join) (fun j _=>by simp)
 have htl:(ops.toList.take n).length=n:=by simp;omega
 rw [htl] at hL
 cases hsp:sepB .any ops L with
 | false=>
  -- no state goes on
  rw [hsp] at hlex
  exact (wpLexE_false hlex).elim
 | true=>
  rw [hsp] at hlex
  have fin:∀ (g:Nat),n+g=ops.size→(∀ (i:Nat),i<n→∀ (listed:Array Bool),HeadInv .any ops n listed→listed.getD i true=false→∀ j∈Region.ready .any ops listed,j<n) →
    Region.lexHead .any ops g n 0 (Array.replicate ops.size false)=true→(Code.region id ops true).wp P (fun e a' w'=>∃ S' ρ' A',Q e A'∧Sim B S' γ ρ' A' a' w'∧Ext B S ρ w S' ρ' w') a w:=by
   intro g hg hhead hlexB
   have hdl:(ops.toList.drop n).length=g:=by simp;omega
   have H:=wpAnyE_lex (P:=P) (γ:=γ) (md:=.any) (g:=g) hhead (fun i hi listed inv j hj h1 h2 h3=>sepB_sound hsp inv (by omega) (by omega) h1 h2 h3) (ops.toList.take n) 0 (Array.replicate ops.size false) _ hs0.small (fun j hj=>by
    have hj':j<n:=by rw [htl] at hj;exact hj
    simp [hj']) (by simpa using htl) inv0 (by rw [htl];exact hlexB) hlex
   refine wp_region_any hm ?_
   have:=wpAny_of_E (P:=P) (γ:=γ) (Q':=fun e a' w'=>∃ S' ρ' A',Q e A'∧Sim B S' γ ρ' A' a' w'∧Ext B S ρ w S' ρ' w') (g:=g) (B:=B) (S:=S) (ρ:=ρ) (w:=w) (fun listed S' ρ' A' a' w' hL hs' hx'=>by
    have:=wpAny_of_seq (md:=.any) (Q':=fun e a' w'=>∃ S' ρ' A',Q e A'∧Sim B S' γ ρ' A' a' w'∧Ext B S ρ w S' ρ' w') (ops.toList.drop n) n listed a' w' (fun j=>by simp [List.getElem?_drop]) (by rw [hdl];exact hL.1)
     (vops_sound hτ hC _ A' B S' ρ' a' w' hs' hL.2 fun S'' ρ'' A'' a'' w'' h1 h2 h3=>⟨S'',ρ'',A'',h1,h2,hx'.trans h3⟩)
    rwa [hdl] at this) _ _ S ρ0 _ a _ hs1 hx1 H
   rw [htl,show n+g=ops.size by omega] at this
   exact this
  unfold drawB at hB
  split at hB
  ·rename_i hn
   simp only [Region.lexTailB,Bool.and_eq_true,decide_eq_true_eq] at hB
   obtain ⟨⟨⟨⟨hsel,_⟩,hs'⟩,hc⟩,hlexB⟩:=hB
   exact fin (ops.size-n) (by omega) (fun i hi listed inv hun j hj=>by
    rcases Nat.lt_or_ge j n with h | h
    ·exact h
    ·exact absurd hj (tail_waits hs' hc hn inv _ i rfl hi hun j h)) hlexB
  ·simp only [Bool.and_eq_true,decide_eq_true_eq] at hB
   obtain ⟨⟨hsel,hn⟩,hlexB⟩:=hB
   exact fin 0 (by omega) (fun i hi listed inv hun j hj=>by
    obtain ⟨_,oj,hoj,_⟩:=mem_ready.1 hj
    have:=(Array.getElem?_eq_some_iff.1 hoj).1
    omega) hlexB
theorem AWP.drawE (hτ:∀ t,τ t=tiOf P t) (hC:∀ f args h Q,C f args h Q→PC P γ f args h Q) (hCQ:∀ h f args k,CQ h f args k→QCalls P γ h f args k) (hm:P.follows .mixedOrders=true)
  {id:Nat} {ops:Array Oper} {Q:Exit→St→Prop} {A:St} (n:Nat) (M:List Nat) (gs:List (Option Nat)) (hB:drawB ops n=true)
  (hv:vhdE τ γ CQ ops (M++rng A.h.length gs.length) (ops.toList.take n) [] (rng A.h.length gs.length) ⟨A.n,A.s,A.h++gs.map gblk⟩ fun L A=>match sepB .any ops L with | true=>vops τ γ C ops.toList (ops.toList.drop n) A (Q .normal) | false=>False):AWP P γ (.region id ops true) Q A:=by
 exact AWP.drawL hτ hC hm n M gs hB (by
  obtain ⟨L,hL,hlex⟩:=vhdE_sound (P:=P) (γ:=γ) hτ hCQ _ _ _ _ hv
  refine ⟨L,hL,fun bl hbl=>?_⟩
  have h:=hlex bl (fun j hj=>by simpa using hbl j hj)
  simp only [List.nil_append,List.length_nil] at h
  exact h)
def effCall (o:Op) (e:Operand→AV):Option (Nat × List AV):=
 match o with
 | .call ⟨.value f,args,_⟩=>match e f with
  | .fn fn a c=>some (fn,a++args.toList.map e++c)
  | _=>none
 | _=>none
def CallEff (C:EC) (M:List Nat) (h:List Blk) (f:Nat) (args:List AV) (k:AV→Nat→Blk→Prop):Prop:=
 ∃ (v:AV) (b:Nat) (x y:Blk),M.contains b=true∧h[b]?=some x∧(∀ h',subH ((masks M 0 h).set b x) h'→C (.inl f) args h' fun v' h''=>v'=v∧h''=h'.set b y)∧k v b y
def vhdC (τ:Nat→TI) (γ:Nat→Option AV) (CQ:List Blk→QC) (CE:List Blk→Nat→List AV→(AV→Nat→Blk→Prop)→Prop) (ops:Array Oper) (M E:List Nat):List Oper→List BW→St→(List BW→St→Prop)→Prop
 | [],acc,A,K=>K acc A
 | o :: r,acc,A,K=>match wantA ops o A with
  | some true=>match E.contains acc.length with
   | true=>match effCall o.op (A.ev γ) with
    | some fa=>CE A.h fa.1 fa.2 fun v b y=>vhdC τ γ CQ CE ops M E r (acc++[some (b,true)]) (St.put ⟨A.n,A.s,A.h.set b y⟩ o.dst v) K
    | none=>False
   | false=>vq τ (CQ (masks M 0 A.h)) o.op (A.ev γ) (masks M 0 A.h) fun v=>splitG (isGuard ops o.dst) v fun v=>vhdC τ γ CQ CE ops M E r (acc++[none]) (A.put o.dst v) K
  | some false=>vhdC τ γ CQ CE ops M E r (acc++[none]) (A.put o.dst .undef) K
  | none=>False
theorem vhdC_sound (hτ:∀ t,τ t=tiOf P t) (hC:∀ f args h Q,C f args h Q→PC P γ f args h Q) (hCQ:∀ h f args k,CQ h f args k→QCalls P γ h f args k) {ops:Array Oper} {M E:List Nat} {K:List BW→St→Prop}:∀ (l:List Oper) (acc:List BW) (A:St),vhdC τ γ CQ (CallEff C M) ops M E l acc A K →
  ∃ L:List BW,L.length=l.length∧∀ bl:Nat→BW,(∀ j,j<L.length→bl (acc.length+j)=(L[j]?).join)→wpLexE P γ ops M bl (K (acc++L)) acc.length l A
 | [],acc,A,h=>⟨[],rfl,fun bl _=>by rw [List.append_nil];exact h⟩
 | o :: r,acc,A,h=>by
  have next:∀ (v:AV) (bb:BB),YieldsE P γ ops M o v bb A→vhdC τ γ CQ (CallEff C M) ops M E r (acc++[bwOf bb]) (A.putE o.dst v bb) K →
    ∃ L:List BW,L.length=(o :: r).length∧∀ bl:Nat→BW,(∀ j,j<L.length→bl (acc.length+j)=(L[j]?).join)→wpLexE P γ ops M bl (K (acc++L)) acc.length (o :: r) A:=by
   intro v bb hy hv
   obtain ⟨L,hL,hb⟩:=vhdC_sound hτ hC hCQ r _ _ hv
   refine ⟨bwOf bb :: L,by simp [hL],fun bl hbl=>⟨v,bb,?_,hy,?_⟩⟩
   ·have:=hbl 0 (by simp)
    rw [Nat.add_zero] at this
    rw [this];rfl
   ·have:=hb bl (fun j hj=>by
     have:=hbl (j+1) (by simp;omega)
     rw [List.length_append,List.length_singleton,Nat.add_assoc,Nat.add_comm 1 j]
     simpa using this)
    rw [List.append_assoc,List.singleton_append,List.length_append] at this
    exact this
  simp only [vhdC] at h
  cases hw:wantA ops o A with
  | none=>rw [hw] at h;exact h.elim
  | some b=>
   rw [hw] at h
   cases b with
   | false=>exact next .undef none (.inr ⟨hw,rfl,rfl⟩) (by rw [putE_id _ _ _ rfl];exact h)
   | true=>
    simp only at h
    cases he:E.contains acc.length with
    | true=>
     rw [he] at h
     simp only at h
     cases hf:effCall o.op (A.ev γ) with
     | none=>rw [hf] at h;exact h.elim
     | some fa=>
      rw [hf] at h
      obtain ⟨v,b,x,y,h1,h2,h3,h4⟩:=h
      refine next v (some (b,x,some y)) (.inl ⟨hw,?_,?_⟩) h4
      ·intro b' x' y' e
       cases e
       exact ⟨h1,h2⟩
      ·obtain ⟨d,op,ty,pos,af,g⟩:=o
       unfold effCall at hf
       simp only at hf
       split at hf
       ·rename_i f args ts
        split at hf
        ·rename_i fn a c hfn
         cases hf
         intro A' hA hs
         have e1:A'.ev γ f=.fn fn a c:=(hA f (by simp [Op.operands,Call.operands])).trans hfn
         have e2:args.toList.map (A'.ev γ)=args.toList.map (A.ev γ):=List.map_congr_left fun z hz=>hA z (by simp [Op.operands,Call.operands];exact .inr (by simpa using hz))
         have hc:=hC _ _ _ _ (h3 A'.h hs)
         refine (call_sound (K:=fun A''=>A''=St.put ⟨A'.n,A'.s,A'.h.set b y⟩ d v) rfl e1 (by rw [e2];exact SCalls.mono hc fun v' h'' ⟨q1,q2⟩=>by rw [q1,q2])).mono fun A'' e=>e
        ·cases hf
       ·cases hf
    | false=>
     rw [he] at h
     simp only at h
     obtain ⟨v,h1,h2⟩:=vq_sound (γ:=γ) hτ (hCQ _) h
     have go:∀ v,QOp P γ o (A.ev γ) (masks M 0 A.h) v→vhdC τ γ CQ (CallEff C M) ops M E r (acc++[none]) (A.put o.dst v) K→∃ L:List BW,L.length=(o :: r).length∧∀ bl:Nat→BW,(∀ j,j<L.length→bl (acc.length+j)=(L[j]?).join)→wpLexE P γ ops M bl (K (acc++L)) acc.length (o :: r) A:=
      fun v hq' hv=>next v none (.inl ⟨hw,(by intro b x y e;cases e),.of_q hq'⟩) (by rw [putE_id _ _ _ rfl];exact hv)
     cases hg:isGuard ops o.dst with
     | false=>rw [hg] at h1;exact go v h2 h1
     | true=>
      rw [hg] at h1
      simp only [splitG] at h1
      split at h1
      ·rename_i x
       cases hx:x () with
       | true=>exact go .tt (h2.b fun S w m u hu=>by have hu:u=.bool (x ()):=hu;rw [hx] at hu;exact hu) (h1.1 () hx)
       | false=>exact go .ff (h2.b fun S w m u hu=>by have hu:u=.bool (x ()):=hu;rw [hx] at hu;exact hu) (h1.2 () hx)
      ·exact go v h2 h1
theorem AWP.drawC (hτ:∀ t,τ t=tiOf P t) (hC:∀ f args h Q,C f args h Q→PC P γ f args h Q) (hCQ:∀ h f args k,CQ h f args k→QCalls P γ h f args k) (hm:P.follows .mixedOrders=true)
  {id:Nat} {ops:Array Oper} {Q:Exit→St→Prop} {A:St} (n:Nat) (M:List Nat) (gs:List (Option Nat)) (E:List Nat) (hB:drawB ops n=true)
  (hv:vhdC τ γ CQ (CallEff C (M++rng A.h.length gs.length)) ops (M++rng A.h.length gs.length) E (ops.toList.take n) [] ⟨A.n,A.s,A.h++gs.map gblk⟩ fun L A=>match sepB .any ops L with | true=>vops τ γ C ops.toList (ops.toList.drop n) A (Q .normal) | false=>False):AWP P γ (.region id ops true) Q A:=by
 exact AWP.drawL hτ hC hm n M gs hB (by
  obtain ⟨L,hL,hlex⟩:=vhdC_sound (P:=P) (γ:=γ) hτ hC hCQ _ _ _ hv
  refine ⟨L,hL,fun bl hbl=>?_⟩
  have h:=hlex bl (fun j hj=>by simpa using hbl j hj)
  simp only [List.nil_append,List.length_nil] at h
  exact h)
end
end Go.AL
namespace Go.AL
open Go Go.RowKit
section
variable {P:Program} {γ:Nat→Option AV}
mutual
theorem leV_stable (y x:AV) (h:leV 0 y x):y.stable=true:=by
 match y with
 | .any | .i _ | .lit _ | .u _ | .b _ | .tt | .ff | .vs .. | .vp .. | .vm .. | .np | .nils | .undef | .raw _=>rfl
 | .agg cs=>simp only [leV] at h;split at h<;>first | exact h.elim | exact leVs_stable cs _ h
 | .tup cs=>simp only [leV] at h;split at h<;>first | exact h.elim | exact leVs_stable cs _ h
 | .fn f a c=>
  simp only [leV] at h;split at h<;>first | exact h.elim | skip
  simp only [AV.stable,Bool.and_eq_true]
  exact ⟨leVs_stable a _ h.2.1,leVs_stable c _ h.2.2⟩
 | .ptr ..=>simp only [leV] at h;split at h<;>first | exact h.elim | (exact absurd h.2.2 (by omega))
 | .hp ..=>simp only [leV] at h;split at h<;>first | exact h.elim | (exact absurd h.2.2.1 (by omega))
 | .sl ..=>simp only [leV] at h;split at h<;>first | exact h.elim | (exact absurd h.2.2.1 (by omega))
 | .mp ..=>simp only [leV] at h;split at h<;>first | exact h.elim | (exact absurd h.2 (by omega))
 | .v1 x=>simp only [leV] at h;split at h<;>first | exact h.elim | exact leV_stable x _ h
theorem leVs_stable (ys xs:List AV) (h:leVs 0 ys xs):stables ys=true:=by
 match ys with
 | []=>rfl
 | y :: ys=>
  simp only [leVs] at h;split at h<;>first | exact h.elim | skip
  simp only [stables,Bool.and_eq_true]
  exact ⟨leV_stable y _ h.1,leVs_stable ys _ h.2⟩
end
theorem QCalls.of_le {f:FuncId} {args args':List AV} {y:AV} {h:List Blk} {k:AV→Prop} (hp:Pure P γ false f args' y) (hs:leVs 0 args' args) (hk:k y):QCalls P γ h f args k:=by
 refine ⟨y,hk,hp.1,fun B S ρ w vals hh hr=>?_⟩
 refine (hp.2 S w vals hh.sle hh.gok (Rs_stable _ _ (leVs_stable _ _ hs) (Rs_le _ _ _ hs hr))).mono fun e w' ⟨v',S',h1,h2,h3⟩=>?_
 exact ⟨v',S',h1,R.mono (S:=S') (fun _ h=>h) (fun _ _=>rfl) (ρ:=none) (ρ':=some ρ) trivial _ _ h2,h3.of_false⟩
theorem SCalls.of_le {f:FuncId} {args args':List AV} {y:AV} {h:List Blk} {Q:AV→List Blk→Prop} (hp:Pure P γ false f args' y) (hs:leVs 0 args' args) (hk:Q y h):SCalls P γ f args h Q:=.of_q (.of_le hp hs hk)
def Step (γ:Nat→Option AV) (A A':St):Prop:=∀ B S ρ a w,Sim B S γ ρ A a w→∃ S' ρ',Sim B S' γ ρ' A' a w∧Ext B S ρ w S' ρ' w
theorem Step.trans {A A' A'':St} (h:Step γ A A') (k:Step γ A' A''):Step γ A A'':=fun B S ρ a w hs=>by
 obtain ⟨S',ρ',h1,h2⟩:=h B S ρ a w hs
 obtain ⟨S'',ρ'',k1,k2⟩:=k B S' ρ' a w h1
 exact ⟨S'',ρ'',k1,h2.trans k2⟩
theorem AWP.step {c:Code} {Q:Exit→St→Prop} {A A':St} (hs:Step γ A A') (h:AWP P γ c Q A'):AWP P γ c Q A:=fun B S ρ a w h0=>by
 obtain ⟨S',ρ',h1,h2⟩:=hs B S ρ a w h0
 exact wp_mono (h B S' ρ' a w h1) fun e a' w' ⟨S'',ρ'',A'',q1,q2,q3⟩=>⟨S'',ρ'',A'',q1,q2,h2.trans q3⟩
theorem AWP.behind {c:Code} {K J:St→Prop} {A:St} (hJ:∀ A',J A'→∃ A'',Step γ A' A''∧K A'') (h:AWP P γ c (thenE J fun _ _=>False) A):AWP P γ c (thenE K fun _ _=>False) A:=fun B S ρ a w h0=>
 wp_mono (h B S ρ a w h0) fun e a' w' ⟨S',ρ',A',q1,q2,q3⟩=>by
  cases e with
  | normal=>
   obtain ⟨A'',k1,k2⟩:=hJ A' q1
   obtain ⟨S'',ρ'',k3,k4⟩:=k1 B S' ρ' a' w' q2
   exact ⟨S'',ρ'',A'',k2,k3,q3.trans k4⟩
  | _=>exact q1.elim
end
end Go.AL
