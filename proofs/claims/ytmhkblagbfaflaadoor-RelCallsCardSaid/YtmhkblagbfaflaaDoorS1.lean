import Derived.Test.YtmhkblagbfaflaaDoorBl3
import Derived.KernelRfl
import Derived.Test.YtmhkblagbfaflaaDoorProg
import Derived.Shelf.Spec.TrailingZeros
set_option linter.unusedVariables false
set_option linter.unusedSimpArgs false
namespace Go.AL.Rl
open Go Go.AL Go.Proofs
def ty0 : TI := ⟨.misc, 1, (some (.raw (.tuple #[]))), [], []⟩
def ty1 : TI := ⟨.misc, 1, (some (.raw (.nilFunc))), [], []⟩
def ty2 : TI := ⟨.int .i64, 1, (some (.lit 0)), [.i], [.i]⟩
def ty3 : TI := ⟨.int .i64, 1, (some (.lit 0)), [.i], [.i]⟩
def ty4 : TI := ⟨.bool, 1, (some (.ff)), [.b], [.b]⟩
def ty5 : TI := ⟨.int .u8, 1, (some (.raw (.int .u8 0))), [], []⟩
def ty6 : TI := ⟨.int .u8, 1, (some (.raw (.int .u8 0))), [], []⟩
def ty7 : TI := ⟨.struct [(0, 1, some false), (1, 1, some false), (2, 1, some false), (3, 1, some false)], 4, (some (.agg [.lit 0, .lit 0, .ff, .raw (.int .u8 0)])), [.i, .i, .b], []⟩
def ty8 : TI := ⟨.struct [(0, 1, some false), (1, 1, some false), (2, 1, some false), (3, 1, some false)], 4, (some (.agg [.lit 0, .lit 0, .ff, .raw (.int .u8 0)])), [.i, .i, .b], []⟩
def ty9 : TI := ⟨.string, 1, (some (.raw (.string ByteArray.empty))), [], []⟩
def ty10 : TI := ⟨.string, 1, (some (.raw (.string ByteArray.empty))), [], []⟩
def ty11 : TI := ⟨.string, 1, (some (.raw (.string ByteArray.empty))), [], []⟩
def ty12 : TI := ⟨.int .u64, 1, (some (.u fun _ => BitVec.ofInt 64 0)), [.u], [.u]⟩
def ty13 : TI := ⟨.struct [(0, 1, some false), (1, 1, some false)], 2, (some (.agg [.raw (.string ByteArray.empty), .u fun _ => BitVec.ofInt 64 0])), [.u], []⟩
def ty14 : TI := ⟨.struct [(0, 1, some false), (1, 1, some false)], 2, (some (.agg [.raw (.string ByteArray.empty), .u fun _ => BitVec.ofInt 64 0])), [.u], []⟩
def ty15 : TI := ⟨.ptr 62, 1, (some (.np)), [], []⟩
def ty16 : TI := ⟨.ptr 65, 1, (some (.np)), [], []⟩
def ty17 : TI := ⟨.ptr 75, 1, (some (.np)), [], []⟩
def ty18 : TI := ⟨.struct [(0, 1, some false)], 1, (some (.agg [.np])), [], []⟩
def ty19 : TI := ⟨.struct [(0, 1, some false)], 1, (some (.agg [.np])), [], []⟩
def ty20 : TI := ⟨.misc, 1, (some (.raw (.nilIface))), [], []⟩
def ty21 : TI := ⟨.int .i32, 1, (some (.raw (.int .i32 0))), [], []⟩
def ty22 : TI := ⟨.slice 25 1 8 (some (.u fun _ => BitVec.ofInt 64 0)), 1, (some (.nils)), [.sl 1], []⟩
def ty23 : TI := ⟨.struct [(0, 1, some false), (1, 1, some false)], 2, (some (.agg [.lit 0, .nils])), [.i, .sl 1], []⟩
def ty24 : TI := ⟨.struct [(0, 1, some false), (1, 1, some false)], 2, (some (.agg [.lit 0, .nils])), [.i, .sl 1], []⟩
def ty25 : TI := ⟨.int .u64, 1, (some (.u fun _ => BitVec.ofInt 64 0)), [.u], [.u]⟩
def ty26 : TI := ⟨.misc, 1, (some (.raw (.nilFunc))), [], []⟩
def ty27 : TI := ⟨.int .i64, 1, (some (.lit 0)), [.i], [.i]⟩
def ty28 : TI := ⟨.misc, 1, (some (.raw (.nilFunc))), [], []⟩
def ty29 : TI := ⟨.misc, 1, (some (.raw (.nilFunc))), [], []⟩
def ty30 : TI := ⟨.misc, 1, (some (.raw (.nilFunc))), [], []⟩
def ty31 : TI := ⟨.misc, 1, (some (.raw (.nilFunc))), [], []⟩
def ty32 : TI := ⟨.slice 39 2 16 (some (.agg [.lit 0, .lit 0])), 1, (some (.nils)), [.sl 2], []⟩
def ty33 : TI := ⟨.misc, 1, (some (.raw (.nilFunc))), [], []⟩
def ty34 : TI := ⟨.misc, 1, (some (.raw (.nilFunc))), [], []⟩
def ty35 : TI := ⟨.misc, 1, (some (.raw (.nilFunc))), [], []⟩
def ty36 : TI := ⟨.misc, 1, (some (.raw (.nilFunc))), [], []⟩
def ty37 : TI := ⟨.misc, 1, (some (.raw (.nilFunc))), [], []⟩
def ty38 : TI := ⟨.misc, 1, (some (.raw (.nilFunc))), [], []⟩
def ty39 : TI := ⟨.array 2 3 1, 2, (some (.agg [.lit 0, .lit 0])), [.i, .i], [.i, .i]⟩
def ty40 : TI := ⟨.misc, 1, (some (.raw (.nilFunc))), [], []⟩
def ty41 : TI := ⟨.misc, 1, (some (.raw (.nilFunc))), [], []⟩
def ty42 : TI := ⟨.slice 3 1 8 (some (.lit 0)), 1, (some (.nils)), [.sl 1], []⟩
def ty43 : TI := ⟨.misc, 1, (some (.raw (.tuple #[.slice none 0 0, .bool false]))), [], []⟩
def ty44 : TI := ⟨.misc, 1, (some (.raw (.nilFunc))), [], []⟩
def ty45 : TI := ⟨.misc, 1, (some (.raw (.nilFunc))), [], []⟩
def ty46 : TI := ⟨.int .u64, 1, (some (.u fun _ => BitVec.ofInt 64 0)), [.u], [.u]⟩
def ty47 : TI := ⟨.misc, 1, (some (.raw (.nilFunc))), [], []⟩
def ty48 : TI := ⟨.misc, 1, (some (.raw (.nilFunc))), [], []⟩
def ty49 : TI := ⟨.misc, 1, (some (.raw (.nilFunc))), [], []⟩
def ty50 : TI := ⟨.misc, 1, (some (.raw (.nilFunc))), [], []⟩
def ty51 : TI := ⟨.misc, 1, (some (.raw (.nilFunc))), [], []⟩
def ty52 : TI := ⟨.misc, 1, (some (.raw (.nilFunc))), [], []⟩
def ty53 : TI := ⟨.slice 24 2 32 (some (.agg [.lit 0, .nils])), 1, (some (.nils)), [.sl 2], []⟩
def ty54 : TI := ⟨.misc, 1, (some (.raw (.nilFunc))), [], []⟩
def ty55 : TI := ⟨.misc, 1, (some (.raw (.nilFunc))), [], []⟩
def ty56 : TI := ⟨.misc, 1, (some (.raw (.nilFunc))), [], []⟩
def ty57 : TI := ⟨.misc, 1, (some (.raw (.nilFunc))), [], []⟩
def ty58 : TI := ⟨.misc, 1, (some (.raw (.nilFunc))), [], []⟩
def ty59 : TI := ⟨.array 64 5 1, 64, (some (.agg (List.replicate 64 (.raw (.int .u8 0))))), [], []⟩
def ty60 : TI := ⟨.misc, 1, (some (.raw (.nilFunc))), [], []⟩
def ty61 : TI := ⟨.struct [(0, 1, some false), (1, 1, some false), (2, 1, some false), (3, 1, some false)], 4, (some (.agg [.np, .np, .np, .raw (.string ByteArray.empty)])), [], []⟩
def ty62 : TI := ⟨.struct [(0, 1, some false), (1, 1, some false), (2, 1, some false), (3, 1, some false)], 4, (some (.agg [.np, .np, .np, .raw (.string ByteArray.empty)])), [], []⟩
def ty63 : TI := ⟨.array 0 16 1, 0, (some (.agg [])), [], []⟩
def ty64 : TI := ⟨.struct [(0, 0, some true)], 0, (some (.agg [])), [], []⟩
def ty65 : TI := ⟨.struct [(0, 0, some true)], 0, (some (.agg [])), [], []⟩
def ty66 : TI := ⟨.misc, 1, (some (.raw (.nilFunc))), [], []⟩
def ty67 : TI := ⟨.int .u32, 1, (some (.raw (.int .u32 0))), [], []⟩
def ty68 : TI := ⟨.int .u8, 1, (some (.raw (.int .u8 0))), [], []⟩
def ty69 : TI := ⟨.int .u8, 1, (some (.raw (.int .u8 0))), [], []⟩
def ty70 : TI := ⟨.misc, 1, (some (.raw (.nilFunc))), [], []⟩
def ty71 : TI := ⟨.ptr 5, 1, (some (.np)), [], []⟩
def ty72 : TI := ⟨.int .i32, 1, (some (.raw (.int .i32 0))), [], []⟩
def ty73 : TI := ⟨.int .i32, 1, (some (.raw (.int .i32 0))), [], []⟩
def ty74 : TI := ⟨.struct [(0, 1, some false), (1, 1, some false), (2, 1, some false), (3, 1, some false), (4, 1, some false), (5, 1, some false), (6, 1, some false), (7, 1, some false), (8, 1, some false), (9, 1, some false), (10, 1, some false)], 11, (some (.agg [.u fun _ => BitVec.ofInt 64 0, .u fun _ => BitVec.ofInt 64 0, .raw (.int .u32 0), .raw (.int .u8 0), .raw (.int .u8 0), .raw (.int .u8 0), .raw (.int .u8 0), .raw (.nilFunc), .np, .raw (.int .i32 0), .raw (.int .i32 0)])), [.u, .u], []⟩
def ty75 : TI := ⟨.struct [(0, 1, some false), (1, 1, some false), (2, 1, some false), (3, 1, some false), (4, 1, some false), (5, 1, some false), (6, 1, some false), (7, 1, some false), (8, 1, some false), (9, 1, some false), (10, 1, some false)], 11, (some (.agg [.u fun _ => BitVec.ofInt 64 0, .u fun _ => BitVec.ofInt 64 0, .raw (.int .u32 0), .raw (.int .u8 0), .raw (.int .u8 0), .raw (.int .u8 0), .raw (.int .u8 0), .raw (.nilFunc), .np, .raw (.int .i32 0), .raw (.int .i32 0)])), [.u, .u], []⟩
def ty76 : TI := ⟨.misc, 1, (some (.np)), [], []⟩
def tt : TT := (.node ty0 (.node ty1 (.node ty3 (.node ty7 (.node ty15 (.node ty31 (.node ty63 .nil .nil) .nil) (.node ty47 .nil .nil)) (.node ty23 (.node ty39 (.node ty71 .nil .nil) .nil) (.node ty55 .nil .nil))) (.node ty11 (.node ty19 (.node ty35 (.node ty67 .nil .nil) .nil) (.node ty51 .nil .nil)) (.node ty27 (.node ty43 (.node ty75 .nil .nil) .nil) (.node ty59 .nil .nil)))) (.node ty5 (.node ty9 (.node ty17 (.node ty33 (.node ty65 .nil .nil) .nil) (.node ty49 .nil .nil)) (.node ty25 (.node ty41 (.node ty73 .nil .nil) .nil) (.node ty57 .nil .nil))) (.node ty13 (.node ty21 (.node ty37 (.node ty69 .nil .nil) .nil) (.node ty53 .nil .nil)) (.node ty29 (.node ty45 .nil .nil) (.node ty61 .nil .nil))))) (.node ty2 (.node ty4 (.node ty8 (.node ty16 (.node ty32 (.node ty64 .nil .nil) .nil) (.node ty48 .nil .nil)) (.node ty24 (.node ty40 (.node ty72 .nil .nil) .nil) (.node ty56 .nil .nil))) (.node ty12 (.node ty20 (.node ty36 (.node ty68 .nil .nil) .nil) (.node ty52 .nil .nil)) (.node ty28 (.node ty44 (.node ty76 .nil .nil) .nil) (.node ty60 .nil .nil)))) (.node ty6 (.node ty10 (.node ty18 (.node ty34 (.node ty66 .nil .nil) .nil) (.node ty50 .nil .nil)) (.node ty26 (.node ty42 (.node ty74 .nil .nil) .nil) (.node ty58 .nil .nil))) (.node ty14 (.node ty22 (.node ty38 (.node ty70 .nil .nil) .nil) (.node ty54 .nil .nil)) (.node ty30 (.node ty46 .nil .nil) (.node ty62 .nil .nil))))))
def ty (P : Program) (t : Nat) : TI := tt.ty P 77 1 t
theorem ty_0 : ty0 = tiOf Tryd.prog 0 := by kernel_rfl
theorem ty_1 : ty1 = tiOf Tryd.prog 1 := by kernel_rfl
theorem ty_2 : ty2 = tiOf Tryd.prog 2 := by kernel_rfl
theorem ty_3 : ty3 = tiOf Tryd.prog 3 := by kernel_rfl
theorem ty_4 : ty4 = tiOf Tryd.prog 4 := by kernel_rfl
theorem ty_5 : ty5 = tiOf Tryd.prog 5 := by kernel_rfl
theorem ty_6 : ty6 = tiOf Tryd.prog 6 := by kernel_rfl
theorem ty_7 : ty7 = tiOf Tryd.prog 7 := by kernel_rfl
theorem ty_8 : ty8 = tiOf Tryd.prog 8 := by kernel_rfl
theorem ty_9 : ty9 = tiOf Tryd.prog 9 := by kernel_rfl
theorem ty_10 : ty10 = tiOf Tryd.prog 10 := by kernel_rfl
theorem ty_11 : ty11 = tiOf Tryd.prog 11 := by kernel_rfl
theorem ty_12 : ty12 = tiOf Tryd.prog 12 := by kernel_rfl
theorem ty_13 : ty13 = tiOf Tryd.prog 13 := by kernel_rfl
theorem ty_14 : ty14 = tiOf Tryd.prog 14 := by kernel_rfl
theorem ty_15 : ty15 = tiOf Tryd.prog 15 := by kernel_rfl
theorem ty_16 : ty16 = tiOf Tryd.prog 16 := by kernel_rfl
theorem ty_17 : ty17 = tiOf Tryd.prog 17 := by kernel_rfl
theorem ty_18 : ty18 = tiOf Tryd.prog 18 := by kernel_rfl
theorem ty_19 : ty19 = tiOf Tryd.prog 19 := by kernel_rfl
theorem ty_20 : ty20 = tiOf Tryd.prog 20 := by kernel_rfl
theorem ty_21 : ty21 = tiOf Tryd.prog 21 := by kernel_rfl
theorem ty_22 : ty22 = tiOf Tryd.prog 22 := by kernel_rfl
theorem ty_23 : ty23 = tiOf Tryd.prog 23 := by kernel_rfl
theorem ty_24 : ty24 = tiOf Tryd.prog 24 := by kernel_rfl
theorem ty_25 : ty25 = tiOf Tryd.prog 25 := by kernel_rfl
theorem ty_26 : ty26 = tiOf Tryd.prog 26 := by kernel_rfl
theorem ty_27 : ty27 = tiOf Tryd.prog 27 := by kernel_rfl
theorem ty_28 : ty28 = tiOf Tryd.prog 28 := by kernel_rfl
theorem ty_29 : ty29 = tiOf Tryd.prog 29 := by kernel_rfl
theorem ty_30 : ty30 = tiOf Tryd.prog 30 := by kernel_rfl
theorem ty_31 : ty31 = tiOf Tryd.prog 31 := by kernel_rfl
theorem ty_32 : ty32 = tiOf Tryd.prog 32 := by kernel_rfl
theorem ty_33 : ty33 = tiOf Tryd.prog 33 := by kernel_rfl
theorem ty_34 : ty34 = tiOf Tryd.prog 34 := by kernel_rfl
theorem ty_35 : ty35 = tiOf Tryd.prog 35 := by kernel_rfl
theorem ty_36 : ty36 = tiOf Tryd.prog 36 := by kernel_rfl
theorem ty_37 : ty37 = tiOf Tryd.prog 37 := by kernel_rfl
theorem ty_38 : ty38 = tiOf Tryd.prog 38 := by kernel_rfl
theorem ty_39 : ty39 = tiOf Tryd.prog 39 := by kernel_rfl
theorem ty_40 : ty40 = tiOf Tryd.prog 40 := by kernel_rfl
theorem ty_41 : ty41 = tiOf Tryd.prog 41 := by kernel_rfl
theorem ty_42 : ty42 = tiOf Tryd.prog 42 := by kernel_rfl
theorem ty_43 : ty43 = tiOf Tryd.prog 43 := by kernel_rfl
theorem ty_44 : ty44 = tiOf Tryd.prog 44 := by kernel_rfl
theorem ty_45 : ty45 = tiOf Tryd.prog 45 := by kernel_rfl
theorem ty_46 : ty46 = tiOf Tryd.prog 46 := by kernel_rfl
theorem ty_47 : ty47 = tiOf Tryd.prog 47 := by kernel_rfl
theorem ty_48 : ty48 = tiOf Tryd.prog 48 := by kernel_rfl
theorem ty_49 : ty49 = tiOf Tryd.prog 49 := by kernel_rfl
theorem ty_50 : ty50 = tiOf Tryd.prog 50 := by kernel_rfl
theorem ty_51 : ty51 = tiOf Tryd.prog 51 := by kernel_rfl
theorem ty_52 : ty52 = tiOf Tryd.prog 52 := by kernel_rfl
theorem ty_53 : ty53 = tiOf Tryd.prog 53 := by kernel_rfl
theorem ty_54 : ty54 = tiOf Tryd.prog 54 := by kernel_rfl
theorem ty_55 : ty55 = tiOf Tryd.prog 55 := by kernel_rfl
theorem ty_56 : ty56 = tiOf Tryd.prog 56 := by kernel_rfl
theorem ty_57 : ty57 = tiOf Tryd.prog 57 := by kernel_rfl
theorem ty_58 : ty58 = tiOf Tryd.prog 58 := by kernel_rfl
theorem ty_59 : ty59 = tiOf Tryd.prog 59 := by kernel_rfl
theorem ty_60 : ty60 = tiOf Tryd.prog 60 := by kernel_rfl
theorem ty_61 : ty61 = tiOf Tryd.prog 61 := by kernel_rfl
theorem ty_62 : ty62 = tiOf Tryd.prog 62 := by kernel_rfl
theorem ty_63 : ty63 = tiOf Tryd.prog 63 := by kernel_rfl
theorem ty_64 : ty64 = tiOf Tryd.prog 64 := by kernel_rfl
theorem ty_65 : ty65 = tiOf Tryd.prog 65 := by kernel_rfl
theorem ty_66 : ty66 = tiOf Tryd.prog 66 := by kernel_rfl
theorem ty_67 : ty67 = tiOf Tryd.prog 67 := by kernel_rfl
theorem ty_68 : ty68 = tiOf Tryd.prog 68 := by kernel_rfl
theorem ty_69 : ty69 = tiOf Tryd.prog 69 := by kernel_rfl
theorem ty_70 : ty70 = tiOf Tryd.prog 70 := by kernel_rfl
theorem ty_71 : ty71 = tiOf Tryd.prog 71 := by kernel_rfl
theorem ty_72 : ty72 = tiOf Tryd.prog 72 := by kernel_rfl
theorem ty_73 : ty73 = tiOf Tryd.prog 73 := by kernel_rfl
theorem ty_74 : ty74 = tiOf Tryd.prog 74 := by kernel_rfl
theorem ty_75 : ty75 = tiOf Tryd.prog 75 := by kernel_rfl
theorem ty_76 : ty76 = tiOf Tryd.prog 76 := by kernel_rfl
theorem ty_eq (t : Nat) : ty Tryd.prog t = tiOf Tryd.prog t := TT.ok (tt := tt) (And.intro ty_0 (And.intro (And.intro ty_1 (And.intro (And.intro ty_3 (And.intro (And.intro ty_7 (And.intro (And.intro ty_15 (And.intro (And.intro ty_31 (And.intro (And.intro ty_63 (And.intro (Nat.le_of_ble_eq_true rfl) (Nat.le_of_ble_eq_true rfl))) (Nat.le_of_ble_eq_true rfl))) (And.intro ty_47 (And.intro (Nat.le_of_ble_eq_true rfl) (Nat.le_of_ble_eq_true rfl))))) (And.intro ty_23 (And.intro (And.intro ty_39 (And.intro (And.intro ty_71 (And.intro (Nat.le_of_ble_eq_true rfl) (Nat.le_of_ble_eq_true rfl))) (Nat.le_of_ble_eq_true rfl))) (And.intro ty_55 (And.intro (Nat.le_of_ble_eq_true rfl) (Nat.le_of_ble_eq_true rfl))))))) (And.intro ty_11 (And.intro (And.intro ty_19 (And.intro (And.intro ty_35 (And.intro (And.intro ty_67 (And.intro (Nat.le_of_ble_eq_true rfl) (Nat.le_of_ble_eq_true rfl))) (Nat.le_of_ble_eq_true rfl))) (And.intro ty_51 (And.intro (Nat.le_of_ble_eq_true rfl) (Nat.le_of_ble_eq_true rfl))))) (And.intro ty_27 (And.intro (And.intro ty_43 (And.intro (And.intro ty_75 (And.intro (Nat.le_of_ble_eq_true rfl) (Nat.le_of_ble_eq_true rfl))) (Nat.le_of_ble_eq_true rfl))) (And.intro ty_59 (And.intro (Nat.le_of_ble_eq_true rfl) (Nat.le_of_ble_eq_true rfl))))))))) (And.intro ty_5 (And.intro (And.intro ty_9 (And.intro (And.intro ty_17 (And.intro (And.intro ty_33 (And.intro (And.intro ty_65 (And.intro (Nat.le_of_ble_eq_true rfl) (Nat.le_of_ble_eq_true rfl))) (Nat.le_of_ble_eq_true rfl))) (And.intro ty_49 (And.intro (Nat.le_of_ble_eq_true rfl) (Nat.le_of_ble_eq_true rfl))))) (And.intro ty_25 (And.intro (And.intro ty_41 (And.intro (And.intro ty_73 (And.intro (Nat.le_of_ble_eq_true rfl) (Nat.le_of_ble_eq_true rfl))) (Nat.le_of_ble_eq_true rfl))) (And.intro ty_57 (And.intro (Nat.le_of_ble_eq_true rfl) (Nat.le_of_ble_eq_true rfl))))))) (And.intro ty_13 (And.intro (And.intro ty_21 (And.intro (And.intro ty_37 (And.intro (And.intro ty_69 (And.intro (Nat.le_of_ble_eq_true rfl) (Nat.le_of_ble_eq_true rfl))) (Nat.le_of_ble_eq_true rfl))) (And.intro ty_53 (And.intro (Nat.le_of_ble_eq_true rfl) (Nat.le_of_ble_eq_true rfl))))) (And.intro ty_29 (And.intro (And.intro ty_45 (And.intro (Nat.le_of_ble_eq_true rfl) (Nat.le_of_ble_eq_true rfl))) (And.intro ty_61 (And.intro (Nat.le_of_ble_eq_true rfl) (Nat.le_of_ble_eq_true rfl))))))))))) (And.intro ty_2 (And.intro (And.intro ty_4 (And.intro (And.intro ty_8 (And.intro (And.intro ty_16 (And.intro (And.intro ty_32 (And.intro (And.intro ty_64 (And.intro (Nat.le_of_ble_eq_true rfl) (Nat.le_of_ble_eq_true rfl))) (Nat.le_of_ble_eq_true rfl))) (And.intro ty_48 (And.intro (Nat.le_of_ble_eq_true rfl) (Nat.le_of_ble_eq_true rfl))))) (And.intro ty_24 (And.intro (And.intro ty_40 (And.intro (And.intro ty_72 (And.intro (Nat.le_of_ble_eq_true rfl) (Nat.le_of_ble_eq_true rfl))) (Nat.le_of_ble_eq_true rfl))) (And.intro ty_56 (And.intro (Nat.le_of_ble_eq_true rfl) (Nat.le_of_ble_eq_true rfl))))))) (And.intro ty_12 (And.intro (And.intro ty_20 (And.intro (And.intro ty_36 (And.intro (And.intro ty_68 (And.intro (Nat.le_of_ble_eq_true rfl) (Nat.le_of_ble_eq_true rfl))) (Nat.le_of_ble_eq_true rfl))) (And.intro ty_52 (And.intro (Nat.le_of_ble_eq_true rfl) (Nat.le_of_ble_eq_true rfl))))) (And.intro ty_28 (And.intro (And.intro ty_44 (And.intro (And.intro ty_76 (And.intro (Nat.le_of_ble_eq_true rfl) (Nat.le_of_ble_eq_true rfl))) (Nat.le_of_ble_eq_true rfl))) (And.intro ty_60 (And.intro (Nat.le_of_ble_eq_true rfl) (Nat.le_of_ble_eq_true rfl))))))))) (And.intro ty_6 (And.intro (And.intro ty_10 (And.intro (And.intro ty_18 (And.intro (And.intro ty_34 (And.intro (And.intro ty_66 (And.intro (Nat.le_of_ble_eq_true rfl) (Nat.le_of_ble_eq_true rfl))) (Nat.le_of_ble_eq_true rfl))) (And.intro ty_50 (And.intro (Nat.le_of_ble_eq_true rfl) (Nat.le_of_ble_eq_true rfl))))) (And.intro ty_26 (And.intro (And.intro ty_42 (And.intro (And.intro ty_74 (And.intro (Nat.le_of_ble_eq_true rfl) (Nat.le_of_ble_eq_true rfl))) (Nat.le_of_ble_eq_true rfl))) (And.intro ty_58 (And.intro (Nat.le_of_ble_eq_true rfl) (Nat.le_of_ble_eq_true rfl))))))) (And.intro ty_14 (And.intro (And.intro ty_22 (And.intro (And.intro ty_38 (And.intro (And.intro ty_70 (And.intro (Nat.le_of_ble_eq_true rfl) (Nat.le_of_ble_eq_true rfl))) (Nat.le_of_ble_eq_true rfl))) (And.intro ty_54 (And.intro (Nat.le_of_ble_eq_true rfl) (Nat.le_of_ble_eq_true rfl))))) (And.intro ty_30 (And.intro (And.intro ty_46 (And.intro (Nat.le_of_ble_eq_true rfl) (Nat.le_of_ble_eq_true rfl))) (And.intro ty_62 (And.intro (Nat.le_of_ble_eq_true rfl) (Nat.le_of_ble_eq_true rfl))))))))))))) t
end Go.AL.Rl

namespace Go.AL.Rl
open Go Go.AL Go.Proofs

theorem mo : Tryd.prog.follows .mixedOrders = true := by kernel_rfl

/-! ### reading data -/
@[simp] theorem nc (n : Nat) : (NatCast.natCast n : Int) = (n : Int) := rfl
theorem nct (i : Nat) : (NatCast.natCast i : Int).toNat = i := rfl
theorem w64_of {n : Int} (h0 : -9223372036854775808 ≤ n) (h1 : n < 9223372036854775808) : w64 n = n := by
  show (if (true && decide (n % 18446744073709551616 ≥ 9223372036854775808)) = true then n % 18446744073709551616 - 18446744073709551616 else n % 18446744073709551616) = n
  split <;> rename_i h <;> simp at h <;> omega
theorem at_u (x : Unit → BitVec 64) : ((AV.u x).at 0).asU = x () := rfl
theorem at_i (x : Unit → Int) : ((AV.i x).at 0).asI = x () := rfl

def us (rows : List (BitVec 64)) : LV := LV.of (rows.map fun x => .u fun _ => x)
@[simp] theorem us_len (rows : List (BitVec 64)) : (us rows).l.length = rows.length := by simp [us]
theorem us_get (rows : List (BitVec 64)) (i : Nat) (h : i < rows.length) : (us rows).l.getD i .any = .u fun _ => rows.getD i 0 := by
  simp [us, h]
def is (l : List Int) : LV := LV.of (l.map fun x => .i fun _ => x)
@[simp] theorem is_len (l : List Int) : (is l).l.length = l.length := by simp [is]
theorem is_get (l : List Int) (i : Nat) (h : i < l.length) : (is l).l.getD i .any = .i fun _ => l.getD i 0 := by
  simp [is, h]

section
variable (n : Int) (f : Unit → Int) (u : Unit → BitVec 64) (b : Unit → Bool) (k j : Nat) (es : Unit → LV) (l vs : List AV) (c : CK) (cs : List CK) (v : AV)
@[simp] theorem nrm1_lit : nrm1 .i (.lit n) = .i fun _ => n := rfl
@[simp] theorem nrm1_i : nrm1 .i (.i f) = .i f := rfl
@[simp] theorem nrm1_u : nrm1 .u (.u u) = .u u := rfl
@[simp] theorem nrm1_tt : nrm1 .b .tt = .b fun _ => true := rfl
@[simp] theorem nrm1_ff : nrm1 .b .ff = .b fun _ => false := rfl
@[simp] theorem nrm1_b : nrm1 .b (.b b) = .b b := rfl
@[simp] theorem nrm1_nils : nrm1 (.sl k) .nils = .vs k fun _ => .nil := rfl
@[simp] theorem nrm1_vs : nrm1 (.sl k) (.vs j es) = .vs j es := rfl
@[simp] theorem nrm_agg : AV.nrm cs (.agg l) = .agg (nrms cs l) := rfl
@[simp] theorem nrm_lit : AV.nrm [c] (.lit n) = nrm1 c (.lit n) := rfl
@[simp] theorem nrm_i : AV.nrm [c] (.i f) = nrm1 c (.i f) := rfl
@[simp] theorem nrm_u : AV.nrm [c] (.u u) = nrm1 c (.u u) := rfl
@[simp] theorem nrm_tt : AV.nrm [c] .tt = nrm1 c .tt := rfl
@[simp] theorem nrm_ff : AV.nrm [c] .ff = nrm1 c .ff := rfl
@[simp] theorem nrm_b : AV.nrm [c] (.b b) = nrm1 c (.b b) := rfl
@[simp] theorem nrm_nils : AV.nrm [c] .nils = nrm1 c .nils := rfl
@[simp] theorem nrm_vs : AV.nrm [c] (.vs k es) = nrm1 c (.vs k es) := rfl
@[simp] theorem nrms_nil : nrms [] l = l := rfl
@[simp] theorem nrms_cons : nrms (c :: cs) (v :: vs) = nrm1 c v :: nrms cs vs := rfl
@[simp] theorem nrms_nil' : nrms cs [] = [] := by cases cs <;> rfl
@[simp] theorem setAll_nil : setAll l [] = l := rfl
@[simp] theorem setAll_cons (i : Nat) (ps : List (Nat × AV)) : setAll l ((i, v) :: ps) = setAll (l.set i v) ps := rfl
end

/-! ### truths that are known -/
theorem br_t {b : Bool} {p q : Prop} (h : b = true) (hp : p) : (∀ _ : Unit, b = true → p) ∧ (∀ _ : Unit, b = false → q) := ⟨fun _ _ => hp, fun _ h' => by rw [h] at h'; cases h'⟩
theorem br_f {b : Bool} {p q : Prop} (h : b = false) (hq : q) : (∀ _ : Unit, b = true → p) ∧ (∀ _ : Unit, b = false → q) := ⟨fun _ h' => (by rw [h] at h'; cases h'), fun _ _ => hq⟩

/-- a relation, as it is told -/
abbrev encRel (n : Int) (rows : List (BitVec 64)) : AV := .agg [.i fun _ => n, .vs 1 fun _ => us rows]
end Go.AL.Rl

namespace Go.AL.Rl
open Go Go.AL Go.Proofs
variable {γ : Nat → Option AV}
set_option maxRecDepth 100000

/-! ### rel.full, Check, None -/
def fullM (n : Int) : BitVec 64 := 1#64 <<< (BitVec.ofInt 64 n).toNat - 1#64
theorem full_ok (n : Int) : Pure Tryd.prog γ false 47 [.i fun _ => n] (.u fun _ => fullM n) := by
  refine Pure.go (ty := ty) ty_eq mo Tryd.func47 rfl Tryd.ntmps47 Tryd.results47 Tryd.call47 (by simp) fun P C CQ D W F E hF => ?_
  cbv
  exact hF fun _ => rfl

def Fits (n : Int) (rows : List (BitVec 64)) : Prop := 0 ≤ n ∧ n ≤ 64 ∧ (rows.length : Int) = n ∧ ∀ r ∈ rows, r &&& ~~~ fullM n = 0#64
instance (n : Int) (rows : List (BitVec 64)) : Decidable (Fits n rows) :=
  decidable_of_iff (0 ≤ n ∧ n ≤ 64 ∧ (rows.length : Int) = n ∧ rows.all (fun r => r &&& ~~~ fullM n == 0#64) = true) (by simp [Fits])
def checkM (n : Int) (rows : List (BitVec 64)) : Int := if Fits n rows then 0 else 2

theorem check_ok (n : Int) (rows : List (BitVec 64)) : Pure Tryd.prog γ false 10 [encRel n rows] (.i fun _ => checkM n rows) := by
  refine Pure.go (ty := ty) ty_eq mo Tryd.func10 rfl Tryd.ntmps10 Tryd.results10 Tryd.call10 (by simp) fun P C CQ D W F E hF => ?_
  cbv
  refine ⟨fun _ h0 => ?_, fun _ h0 => ?_⟩
  · cbv
    refine hF ?_
    simp at h0
    intro _
    simp [checkM, Fits]; omega
  cbv
  refine ⟨fun _ h1 => ?_, fun _ h1 => ?_⟩
  · cbv
    refine hF ?_
    simp at h1
    intro _
    simp [checkM, Fits]; omega
  cbv
  refine ⟨fun _ h2 => ?_, fun _ h2 => ?_⟩
  · cbv
    refine hF ?_
    simp at h2
    intro _
    simp [checkM, Fits]; omega
  cbv
  simp at h0 h1 h2
  refine E.loop (ι := Nat) (fun i => i ≤ rows.length ∧ ∀ k < i, rows.getD k 0 &&& ~~~ fullM n = 0#64) (fun i => rows.length - i) (fun i => [(24, .i fun _ => (i : Int))]) (fun _ => [.box (encRel n rows)]) 0 rfl (fun _ => rfl) ⟨Nat.zero_le _, by simp⟩ ?_ fun i hi I hI => ?_
  · cbv
    simp
  cbv
  refine ⟨fun _ h3 => ?_, fun _ h3 => ?_⟩
  · cbv
    simp at h3
    refine ⟨fun _ => ?_, ?_⟩
    · simp; omega
    refine ⟨fun _ => ?_, ?_⟩
    · rw [nct, us_get rows i h3]; rfl
    refine E.c (SCalls.of_le (full_ok n) ?_ ?_)
    · cbv
      simp
    cbv
    refine ⟨fun _ h4 => ?_, fun _ h4 => ?_⟩
    · cbv
      refine hF ?_
      intro _
      clear hI
      rw [nct, us_get rows i h3, at_u] at h4; simp at h4
      simp only [checkM]
      rw [if_neg fun h : Fits n rows => h4 (by have := h.2.2.2 _ (List.getElem_mem h3); simpa [h3] using this)]
    · cbv
      refine hI (i + 1) ?_ ?_ ?_
      · clear hI
        rw [nct, us_get rows i h3, at_u] at h4; simp at h4
        refine ⟨h3, fun k hk => ?_⟩
        rcases Nat.lt_or_ge k i with h | h
        · exact hi.2 k h
        · obtain rfl : k = i := by omega
          simpa [h3] using h4
      · omega
      · cbv
        clear hI
        simp
        simp only [nc] at h2
        exact w64_of (by omega) (by omega)
  · cbv
    refine hF ?_
    intro _
    clear hI
    simp at h3
    simp only [checkM]
    rw [if_pos]
    refine ⟨h0, h1, h2, fun r hr => ?_⟩
    obtain ⟨k, hk, rfl⟩ := List.getElem_of_mem hr
    have := hi.2 k (by omega)
    simpa [hk] using this

/-- None, in memory of its own -/
theorem none_in (n : Int) (h0 : 0 ≤ n) (h1 : n ≤ 64) : Owns Tryd.prog γ 16 [.i fun _ => n] (.agg [.i fun _ => n, .sl 1 0 1 (fun _ => 0) fun _ => n.toNat]) [.any, .run 0 1 fun _ => us (List.replicate n.toNat 0#64)] := by
  refine Owns.go (ty := ty) ty_eq mo Tryd.func16 rfl Tryd.ntmps16 Tryd.results16 Tryd.call16 (by simp) fun P C CQ D W F E hF => ?_
  cbv
  refine br_f (by simp; omega) ?_
  cbv
  refine br_f (by simp; omega) ?_
  cbv
  refine ⟨fun _ => ?_, ?_⟩
  · simp; omega
  cbv
  refine hF ?_ ?_
  · cbv; simp
  · cbv; simp [us]
theorem none_out (n : Int) (h : ¬ (0 ≤ n ∧ n ≤ 64)) : Pure Tryd.prog γ false 16 [.i fun _ => n] (encRel 0 []) := by
  refine Pure.go (ty := ty) ty_eq mo Tryd.func16 rfl Tryd.ntmps16 Tryd.results16 Tryd.call16 (by simp) fun P C CQ D W F E hF => ?_
  cbv
  refine ⟨fun _ h0 => ?_, fun _ h0 => ?_⟩
  · cbv
    refine hF ?_
    cbv; simp [us]
  cbv
  refine br_t (by simp at h0 ⊢; omega) ?_
  cbv
  refine hF ?_
  cbv; simp [us]
end Go.AL.Rl

namespace Go.AL.Rl
open Go Go.AL Go.Proofs
variable {γ : Nat → Option AV}
set_option maxRecDepth 100000

theorem us_take (rows : List (BitVec 64)) (n : Nat) : (us rows).l.take n = (us (rows.take n)).l := by simp [us, List.map_take]
theorem us_drop (rows : List (BitVec 64)) (n : Nat) : (us rows).l.drop n = (us (rows.drop n)).l := by simp [us, List.map_drop]
theorem us_app (a b : List (BitVec 64)) : (us a).l ++ (us b).l = (us (a ++ b)).l := by simp [us]
theorem us_of (a : List (BitVec 64)) : LV.of (us a).l = us a := by simp [us]
theorem us_flat (rows : List (BitVec 64)) : ∀ v ∈ (us rows).l, v.flat = true := by
  intro v hv
  simp only [us, LV.l_of, List.mem_map] at hv
  obtain ⟨x, _, rfl⟩ := hv
  rfl
theorem upd_u (x y : Unit → BitVec 64) : (AV.u x).upd 0 (.u y) = .u y := rfl
theorem us_set (rows : List (BitVec 64)) (i : Nat) (x : BitVec 64) : (us rows).l.set i (.u fun _ => x) = (us (rows.set i x)).l := by simp [us, List.map_set]

theorem copied_ok (n : Int) (rows : List (BitVec 64)) (hf : Fits n rows) : Owns Tryd.prog γ 49 [encRel n rows] (.agg [.i fun _ => n, .sl 3 0 1 (fun _ => 0) fun _ => n.toNat]) [.any, .any, .any, .run 0 1 fun _ => us rows] := by
  refine Owns.go (ty := ty) ty_eq mo Tryd.func49 rfl Tryd.ntmps49 Tryd.results49 Tryd.call49 (by simp) fun P C CQ D W F E hF => ?_
  cbv
  refine E.c (SCalls.of_owns (none_in n hf.1 hf.2.1) ?_ ?_)
  · cbv; simp
  cbv
  obtain ⟨h0, h1, h2, h3⟩ := hf
  refine ⟨fun _ => ⟨rfl, by simp, us_flat rows⟩, ?_⟩
  cbv
  refine hF ?_ ?_
  · cbv; simp
  · cbv
    simp
    have e : n.toNat = rows.length := by simp only [nc] at h2; omega
    rw [e]
    simp [us, List.take_of_length_le]

/-! ### Plus -/
def wStep (by_ : Nat) (rows : List (BitVec 64)) (i : Nat) : List (BitVec 64) :=
  if (rows.getD i 0 >>> by_) &&& 1#64 = 0#64 then rows else rows.set i (rows.getD i 0 ||| rows.getD by_ 0)
def wIn (by_ k : Nat) (rows : List (BitVec 64)) : List (BitVec 64) := (List.range k).foldl (wStep by_) rows
def wOut (m : Nat) (rows : List (BitVec 64)) : List (BitVec 64) := (List.range m).foldl (fun r b => wIn b rows.length r) rows
theorem wStep_len (b : Nat) (rows : List (BitVec 64)) (i : Nat) : (wStep b rows i).length = rows.length := by unfold wStep; split <;> simp
theorem wIn_succ (b k : Nat) (rows : List (BitVec 64)) : wIn b (k + 1) rows = wStep b (wIn b k rows) k := by simp [wIn, List.range_succ]
theorem wIn_len (b : Nat) (rows : List (BitVec 64)) : ∀ k, (wIn b k rows).length = rows.length
  | 0 => rfl
  | k + 1 => by rw [wIn_succ, wStep_len, wIn_len b rows k]
theorem wOut_succ (m : Nat) (rows : List (BitVec 64)) : wOut (m + 1) rows = wIn m rows.length (wOut m rows) := by simp [wOut, List.range_succ]
theorem wOut_len (rows : List (BitVec 64)) : ∀ m, (wOut m rows).length = rows.length
  | 0 => rfl
  | m + 1 => by rw [wOut_succ, wIn_len, wOut_len rows m]
def plusM (n : Int) (rows : List (BitVec 64)) : List (BitVec 64) := wOut n.toNat rows

theorem plus_ok (n : Int) (rows : List (BitVec 64)) (hf : Fits n rows) : Pure Tryd.prog γ false 12 [encRel n rows] (encRel n (plusM n rows)) := by
  refine Pure.go (ty := ty) ty_eq mo Tryd.func12 rfl Tryd.ntmps12 Tryd.results12 Tryd.call12 (by simp) fun P C CQ D W F E hF => ?_
  cbv
  refine E.c (SCalls.of_le (check_ok n rows) ?_ ?_)
  · cbv; simp
  cbv
  refine br_f (by simp [checkM, hf]) ?_
  cbv
  refine E.c (SCalls.of_owns (copied_ok n rows hf) ?_ ?_)
  · cbv; simp
  cbv
  obtain ⟨h0, h1, h2, h3⟩ := hf
  obtain ⟨len, hlen⟩ : ∃ len : Nat, n = len := ⟨n.toNat, by omega⟩
  subst hlen
  simp only [Int.toNat_natCast, nc, nct]
  have h2 : rows.length = len := by first | omega | (simp only [nc] at h2; omega)
  have hl : len ≤ 64 := by omega
  refine E.loop (ι := Nat) (fun m => m ≤ len) (fun m => len - m) (fun m => [(15, .i fun _ => (m : Int))])
    (fun m => [.box (encRel len rows), .box (.agg [.lit 0, .nils]), .any, .any, .any, .run 0 1 fun _ => us (wOut m rows), .box (.agg [.i fun _ => len, .sl 5 0 1 (fun _ => 0) fun _ => len])])
    0 rfl (fun _ => rfl) (Nat.zero_le _) ?_ fun m hm I hI => ?_
  · cbv
    simp [wOut]
  cbv
  refine ⟨fun _ h4 => ?_, fun _ h4 => ?_⟩
  · cbv
    have hmm : m < len := by simpa using h4
    refine E.loop (ι := Nat) (fun k => k ≤ len) (fun k => len - k) (fun k => [(21, .i fun _ => (k : Int))])
      (fun k => [.box (encRel len rows), .box (.agg [.lit 0, .nils]), .any, .any, .any, .run 0 1 fun _ => us (wIn m k (wOut m rows)), .box (.agg [.i fun _ => len, .sl 5 0 1 (fun _ => 0) fun _ => len])])
      0 rfl (fun _ => rfl) (Nat.zero_le _) ?_ fun k hk I2 hI2 => ?_
    · cbv
      simp [wIn]
    cbv
    refine ⟨fun _ h5 => ?_, fun _ h5 => ?_⟩
    · cbv
      have hkk : k < len := by simpa using h5
      have hlw : (wIn m k (wOut m rows)).length = len := by rw [wIn_len, wOut_len, h2]
      have hku : k < (wIn m k (wOut m rows)).length := by omega
      have hmu : m < (wIn m k (wOut m rows)).length := by omega
      have hsh : (BitVec.ofInt 64 (m : Int)).toNat = m := by simp; omega
      refine ⟨fun _ => by simp; omega, fun _ => ⟨rfl, by simp; omega⟩, fun _ => by rw [Nat.zero_add, nct, us_get _ k hku]; rfl, fun _ h6 => ?_, fun _ h6 => ?_⟩
      · cbv
        refine E.d 12 (by kernel_rfl) ?_
        cbv
        refine ⟨fun _ => by simp; omega, fun _ => ⟨rfl, by simp; omega⟩, fun _ => by rw [Nat.zero_add, nct, us_get _ k hku]; rfl, fun _ => by simp; omega, fun _ => ⟨rfl, by simp; omega⟩, fun _ => by rw [Nat.zero_add, nct, us_get _ m hmu]; rfl, fun _ => by simp; omega,
          fun _ => ⟨rfl, by simp; omega, by rw [Nat.zero_add, nct, us_get _ k hku]; rfl⟩, ?_⟩
        refine hI2 (k + 1) (by omega) (by omega) ?_
        cbv
        clear hI hI2
        simp only [Nat.zero_add, nct, us_get _ k hku, at_u, nc, hsh] at h6
        simp only [Nat.zero_add, nct, us_get _ k hku, us_get _ m hmu, at_u, upd_u, us_set, us_of, nc]
        simp only [implies_true, and_true, true_and, forall_const]
        refine ⟨w64_of (by omega) (by omega), ?_⟩
        rw [wIn_succ, wStep, if_neg (by simpa using h6)]
      · cbv
        refine hI2 (k + 1) (by omega) (by omega) ?_
        cbv
        clear hI hI2
        simp
        simp only [Nat.zero_add, nct, us_get _ k hku, at_u, nc, hsh] at h6
        refine ⟨w64_of (by omega) (by omega), ?_⟩
        rw [wIn_succ, wStep, if_pos (by simpa using h6)]
    · cbv
      refine hI (m + 1) (by omega) (by omega) ?_
      cbv
      clear hI hI2
      have : k = len := by simp at h5; omega
      simp
      refine ⟨w64_of (by omega) (by omega), ?_⟩
      rw [wOut_succ, this, h2]
  · cbv
    refine hF ?_
    cbv
    clear hI
    have hml : m = len := by simp at h4; omega
    have hlw : (wOut m rows).length = len := by rw [wOut_len, h2]
    simp [plusM]
    rw [hml] at hlw ⊢
    exact ⟨by omega, by rw [List.take_of_length_le (by simp; omega)]⟩
end Go.AL.Rl

namespace Go.Proofs
/-- the numbers of the shelf's contract here -/
def tz_ren : Go.Shelf.Ren := ⟨fun | 29 => 57 | n => n, fun | 22 => 25 | 3 => 3 | 4 => 4 | 25 => 46 | 54 => 59 | 0 => 0 | 5 => 5 | n => n, fun | 1 => 0 | n => n⟩
theorem tz_lays : Lays7.n29 Tryd.prog tz_ren where
  mixed := by kernel_rfl
  f29 := Tryd.func57.trans (congrArg some (by kernel_rfl))
  t0 := Tryd.underlying0
  a0 := Tryd.isAgg0
  z0 := Tryd.sizeOf0
  v0 := Tryd.zeroValue0
  i0 := by kernel_rfl
  t3 := Tryd.underlying3
  a3 := Tryd.isAgg3
  z3 := Tryd.sizeOf3
  v3 := Tryd.zeroValue3
  i3 := by kernel_rfl
  t4 := Tryd.underlying4
  a4 := Tryd.isAgg4
  z4 := Tryd.sizeOf4
  v4 := Tryd.zeroValue4
  i4 := by kernel_rfl
  t5 := Tryd.underlying5
  a5 := Tryd.isAgg5
  z5 := Tryd.sizeOf5
  v5 := Tryd.zeroValue5
  i5 := by kernel_rfl
  t22 := Tryd.underlying25
  a22 := Tryd.isAgg25
  z22 := Tryd.sizeOf25
  v22 := Tryd.zeroValue25
  i22 := by kernel_rfl
  t25 := Tryd.underlying46
  a25 := Tryd.isAgg46
  z25 := Tryd.sizeOf46
  v25 := Tryd.zeroValue46
  i25 := by kernel_rfl
  t54 := Tryd.underlying59
  a54 := Tryd.isAgg59
  z54 := Tryd.sizeOf59
  g1 := by kernel_rfl
end Go.Proofs
namespace Go.AL.Rl
open Go Go.AL Go.Proofs
variable {γ : Nat → Option AV}
set_option maxRecDepth 100000

/-- the library's table -/
def tabAV : AV := .agg (Lib.deBruijn64tab.map fun (n : Nat) => .raw (.int .u8 n))
theorem Rs_raws {S : Nat → Prop} {w : World} {m : Option (List Loc)} : ∀ (l : List Value) (vals : List Value), Rs S w m (l.map fun v => .raw v) vals → vals = l
  | [], vals, h => h
  | v :: l, vals, h => by
    obtain ⟨x, xs, rfl, h1, h2⟩ := h
    have h1 : x = v := h1
    rw [h1, Rs_raws l xs h2]
theorem tz_ok (hγ : γ 0 = some tabAV) (x : BitVec 64) : Pure Tryd.prog γ false 57 [.u fun _ => x] (.i fun _ => (Lib.ctz 64 x.toNat : Nat)) := by
  refine ⟨Tryd.call57, fun S w vals hS hg hargs => ?_⟩
  obtain ⟨v, _, rfl, hv, rfl⟩ := hargs
  have hv : v = .int .u64 (x.toNat : Nat) := hv
  subst hv
  obtain ⟨a, xv, h1, h2, h3, h4⟩ := hg 0 tabAV hγ
  obtain ⟨vals, rfl, h5⟩ := h2
  have h6 := Rs_raws (Lib.deBruijn64tab.map fun (n : Nat) => Value.int .u8 n) vals (by rw [List.map_map]; exact h5)
  have e1 : a.block = 0 ∧ a.off = 0 := by
    have := h1; simp at this; exact ⟨this.1.symm, this.2.symm⟩
  refine (Any7.bits_TrailingZeros64 tz_lays x.toNat x.isLt w (fun _ j hj => ?_)).mono fun e w' ⟨he, hw⟩ => ?_
  · have := h4 j (.int .u8 (Lib.deBruijn64tab.getD j 0)) (by
      show vals.toArray[j]? = _
      rw [h6]; simp [hj])
    rw [e1.1, e1.2, Nat.zero_add] at this
    exact this
  · subst hw
    exact ⟨_, S, he, rfl, ExtQ.mk (Fr.refl _) (fun _ _ => rfl) (fun k hk => hk.2) (fun k hk => .inl ⟨rfl, hk⟩)⟩

/-! ### each: once a bit, rising -/
theorem ctz_at (m : BitVec 64) (h : m ≠ 0#64) : Lib.ctz 64 m.toNat < 64 ∧ m.getLsbD (Lib.ctz 64 m.toNat) = true ∧ ∀ j < Lib.ctz 64 m.toNat, m.getLsbD j = false := by
  have h0 : m.toNat ≠ 0 := fun e => h (by apply BitVec.eq_of_toNat_eq; simpa using e)
  obtain ⟨a, ha, hk⟩ := Lib.ctzFrom_spec 64 m.toNat (by omega) m.isLt
  have e : Lib.ctz 64 m.toNat = Lib.ctzFrom 64 m.toNat := by simp [Lib.ctz, h0]
  rw [e]
  refine ⟨hk, ?_, fun j hj => ?_⟩
  · show m.toNat.testBit _ = true
    rw [congrArg (fun x => Nat.testBit x (Lib.ctzFrom 64 m.toNat)) ha]
    simp only [Nat.testBit_two_pow_mul]
    simp
  · show m.toNat.testBit _ = false
    rw [congrArg (fun x => Nat.testBit x j) ha]
    simp only [Nat.testBit_two_pow_mul]
    simp; omega
theorem each2_ok (hγ : γ 0 = some tabAV) (mask : BitVec 64) (fn : Nat) (a b : Nat) (H : Nat → List Blk) {Q : AV → List Blk → Prop} (n : Nat) (hlen : ∀ p, (H p).length = n) (ha : a < n) (hb : b < n)
    (step : ∀ p, p < 64 → mask.getLsbD p = true → SCalls Tryd.prog γ fn [.i (fun _ => (p : Int)), .ptr a 0, .ptr b 0] (H p) fun _ h => leH n (H (p + 1)) h)
    (skip : ∀ p, p < 64 → mask.getLsbD p = false → H (p + 1) = H p) (h0 : leH n (H 0) (H 0)) (hQ : Q (.tup []) (H 64)) : SCalls Tryd.prog γ 51 [.u fun _ => mask, .fn fn [] [.ptr a 0, .ptr b 0]] (H 0) Q := by
  refine SCalls.go (ty := ty) ty_eq mo Tryd.func51 rfl Tryd.ntmps51 Tryd.results51 Tryd.call51 (by simp) fun P C CQ D W F E hF => ?_
  have skips : ∀ d p, p + d ≤ 64 → (∀ j < d, mask.getLsbD (p + j) = false) → H (p + d) = H p := by
    intro d
    induction d with
    | zero => intro p _ _; rfl
    | succ d ih =>
      intro p h1 h2
      rw [← Nat.add_assoc, skip (p + d) (by omega) (h2 d (by omega)), ih p (by omega) fun j hj => h2 j (by omega)]
  generalize hH0 : H 0 = H0
  cbv
  subst hH0
  refine E.loopH (ι := Nat) n (fun p => p ≤ 64) (fun p => 64 - p) (fun p => [(0, .u fun _ => mask >>> p), (4, .i fun _ => (p : Int))]) H 0 (hlen 0) hlen (Nat.zero_le _) ?_ h0 fun p hp I hI => ?_
  · cbv
    simp; omega
  generalize hHp : H p = Hp
  cbv
  refine ⟨fun _ h1 => ?_, fun _ h1 => ?_⟩
  · cbv
    refine E.c (SCalls.of_le (tz_ok hγ (mask >>> p)) ?_ ?_)
    · cbv; simp
    cbv
    have hm0 : mask >>> p ≠ 0#64 := by simpa using h1
    obtain ⟨c1, c2, c3⟩ := ctz_at _ hm0
    generalize Lib.ctz 64 (mask >>> p).toNat = t at c1 c2 c3 ⊢
    have hpt : p + t < 64 := by
      rcases Nat.lt_or_ge (p + t) 64 with h | h
      · exact h
      · rw [BitVec.getLsbD_ushiftRight, BitVec.getLsbD_of_ge _ _ (by omega)] at c2; cases c2
    rw [BitVec.getLsbD_ushiftRight] at c2
    have e1 : w64 ((NatCast.natCast p : Int) + (NatCast.natCast t : Int)) = ((p + t : Nat) : Int) := by
      simp only [nc]; rw [w64_of (by omega) (by omega)]; omega
    simp only [e1]
    have hst := step (p + t) hpt c2
    rw [skips t p (by omega) (fun j hj => by have := c3 j hj; rwa [BitVec.getLsbD_ushiftRight] at this), hHp] at hst
    refine E.c (hst.mono fun v h hle => ?_)
    cbv
    refine hI (p + t + 1) (by omega) (by omega) rfl ?_ hle
    cbv
    clear hI
    refine ⟨fun _ => ?_, ⟨⟨ha, hb, trivial⟩, trivial⟩, ⟨fun _ => ?_, trivial⟩, trivial⟩
    · rw [show (BitVec.ofInt 64 (NatCast.natCast t)).toNat = t from by simp; omega, show (BitVec.ofInt 64 1).toNat = 1 from rfl, ← BitVec.shiftRight_add, ← BitVec.shiftRight_add]
      congr 1 <;> omega
    · simp only [nc]; rw [w64_of (by omega) (by omega)]; omega
  · cbv
    refine hF ?_
    clear hI
    have hz : mask >>> p = 0#64 := by simpa using h1
    have := skips (64 - p) p (by omega) fun j hj => by
      have := congrArg (fun x : BitVec 64 => x.getLsbD j) hz
      simpa [BitVec.getLsbD_ushiftRight] using this
    rw [show p + (64 - p) = 64 by omega, hHp] at this
    show Q (.tup []) Hp
    rw [← this]
    exact hQ
end Go.AL.Rl

namespace Go.AL.Rl
open Go Go.AL Go.Proofs
variable {γ : Nat → Option AV}
set_option maxRecDepth 100000

/-! ### reach, Image -/
def reachTo (q : Nat) (rows : List (BitVec 64)) (from_ : BitVec 64) : BitVec 64 := (List.range q).foldl (fun a p => if from_.getLsbD p then a ||| rows.getD p 0 else a) 0#64
theorem reachTo_succ (q : Nat) (rows : List (BitVec 64)) (f : BitVec 64) : reachTo (q + 1) rows f = if f.getLsbD q then reachTo q rows f ||| rows.getD q 0 else reachTo q rows f := by simp [reachTo, List.range_succ]
def reachM (rows : List (BitVec 64)) (from_ : BitVec 64) : BitVec 64 := reachTo 64 rows from_

theorem reach1_ok (n : Int) (rows : List (BitVec 64)) (to : BitVec 64) (p : Nat) (hp : p < rows.length) :
    SCalls Tryd.prog γ 56 [.i (fun _ => (p : Int)), .ptr 1 0, .ptr 0 0] [.box (encRel n rows), .box (.u fun _ => to)] fun _ h => leH 2 [.box (encRel n rows), .box (.u fun _ => to ||| rows.getD p 0)] h := by
  refine SCalls.go (ty := ty) ty_eq mo Tryd.func56 rfl Tryd.ntmps56 Tryd.results56 Tryd.call56 (by simp) fun P C CQ D W F E hF => ?_
  cbv
  refine E.d 7 (by kernel_rfl) ?_
  cbv
  refine ⟨fun _ => by simp; omega, fun _ => by rw [nct, us_get _ p hp]; rfl, ?_⟩
  cbv
  refine hF ?_
  cbv
  simp only [nct, us_get _ p hp, at_u]
  simp

theorem reach_ok (hγ : γ 0 = some tabAV) (n : Int) (rows : List (BitVec 64)) (from_ : BitVec 64) (hr : ∀ p < 64, from_.getLsbD p = true → p < rows.length) :
    Pure Tryd.prog γ false 48 [encRel n rows, .u fun _ => from_] (.u fun _ => reachM rows from_) := by
  refine Pure.go (ty := ty) ty_eq mo Tryd.func48 rfl Tryd.ntmps48 Tryd.results48 Tryd.call48 (by simp) fun P C CQ D W F E hF => ?_
  cbv
  refine E.c (each2_ok hγ from_ 56 1 0 (fun p => [.box (encRel n rows), .box (.u fun _ => reachTo p rows from_)]) 2 (fun _ => rfl) (by omega) (by omega) (fun p h1 h2 => ?_) (fun p h1 h2 => ?_) ?_ ?_)
  · rw [reachTo_succ, if_pos h2]
    exact reach1_ok n rows _ p (hr p h1 h2)
  · rw [reachTo_succ, h2]; rfl
  · cbv; simp
  cbv
  refine hF ?_
  cbv
  simp [reachM]

theorem fullM_bit (k : Nat) (hk : k ≤ 64) (p : Nat) (hp : p < 64) : (fullM k).getLsbD p = decide (p < k) := by
  have e : (fullM k).toNat = 2 ^ k - 1 := by
    unfold fullM
    rw [show (BitVec.ofInt 64 (k : Int)).toNat = k from by simp; omega]
    rcases Nat.lt_or_ge k 64 with h | h
    · have h2 : (1#64 <<< k).toNat = 2 ^ k := by
        rw [BitVec.toNat_shiftLeft, Nat.shiftLeft_eq]
        simp
        exact Nat.pow_lt_pow_right (by omega) h
      have hpos : 0 < 2 ^ k := Nat.pow_pos (by omega)
      rw [BitVec.toNat_sub_of_le (by rw [BitVec.le_def, h2]; exact hpos), h2]
      rfl
    · obtain rfl : k = 64 := by omega
      rfl
  show (fullM k).toNat.testBit p = _
  rw [e, Nat.testBit_two_pow_sub_one]
theorem fits_bit {n : Int} {rows : List (BitVec 64)} (hf : Fits n rows) {f : BitVec 64} {p : Nat} (hp : p < 64) (h : (f &&& fullM n).getLsbD p = true) : p < rows.length := by
  obtain ⟨h0, h1, h2, _⟩ := hf
  obtain ⟨k, rfl⟩ : ∃ k : Nat, n = k := ⟨n.toNat, by omega⟩
  rw [BitVec.getLsbD_and, fullM_bit k (by omega) p hp] at h
  simp at h
  omega
theorem fits_row {n : Int} {rows : List (BitVec 64)} (hf : Fits n rows) {r : BitVec 64} (hr : r ∈ rows) {p : Nat} (hp : p < 64) (h : r.getLsbD p = true) : p < rows.length := by
  refine fits_bit hf (f := r) hp ?_
  have := congrArg (fun x : BitVec 64 => x.getLsbD p) (hf.2.2.2 r hr)
  rw [BitVec.getLsbD_and, h, Bool.true_and, BitVec.getLsbD_eq_getElem hp]
  simpa [h, hp] using this

def imageM (n : Int) (rows : List (BitVec 64)) (f : BitVec 64) : BitVec 64 := if Fits n rows then reachM rows (f &&& fullM n) else 0#64
theorem image_ok (hγ : γ 0 = some tabAV) (n : Int) (rows : List (BitVec 64)) (f : BitVec 64) :
    Pure Tryd.prog γ false 11 [encRel n rows, .u fun _ => f] (.u fun _ => imageM n rows f) := by
  refine Pure.go (ty := ty) ty_eq mo Tryd.func11 rfl Tryd.ntmps11 Tryd.results11 Tryd.call11 (by simp) fun P C CQ D W F E hF => ?_
  cbv
  refine E.c (SCalls.of_le (check_ok n rows) ?_ ?_)
  · cbv; simp
  cbv
  by_cases hf : Fits n rows
  · refine br_f (by simp [checkM, hf]) ?_
    cbv
    refine E.d 7 (by kernel_rfl) ?_
    cbv
    refine E.q (QCalls.of_le (full_ok n) ?_ ?_)
    · cbv; simp
    cbv
    refine E.q (QCalls.of_le (reach_ok hγ n rows (f &&& fullM n) fun p h1 h2 => fits_bit hf h1 h2) ?_ ?_)
    · cbv; simp
    cbv
    refine hF ?_
    cbv
    simp [imageM, hf]
  · refine br_t (by simp [checkM, hf]) ?_
    cbv
    refine hF ?_
    cbv
    simp [imageM, hf]
end Go.AL.Rl
