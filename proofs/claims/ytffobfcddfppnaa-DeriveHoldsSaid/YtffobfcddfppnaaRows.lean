/-
  No cell of these rows narrows 'for every input' (looked for: loops, veiled, ifaces, maps, wideKeys, modest, calm, conditions, laid).
  DERIVED. THE GIVEN ROWS OF THIS SEAT. 11 by the template 'for every input the law returns true; each argument reads behind the call as it read before'; 0 by the template 'total and deterministic' (their statements: YtffobfcddfppnaaTotals.lean).
  GIVEN WITH THE SEED: the statements are not yours to turn. If you find one false, say at which input.
  Laid BY PROGRAM, IN A SANDBOX (cutbox-rows.mjs): the forced cells as the released guide's own fill.sh prints them over the translation 5df7bf6787444879… (all of the seat's roots in one cut). By AI agents, Wed Nov 11 2026. No macro, syntax, notation, axiom, sorry.
-/
import Derived.Test.YtffobfcddfppnaaChecked
import GoSem.Claim
import GoSem.ClaimJoined
import GoSem.ClaimMapViews
import Derived.JoinedTies
import Derived.KernelRfl
namespace Go.Proofs.Ytffobfcddfppnaa
/- THE CELL 'sum', in the pinned program and in every row, IS THE sha256 OF THE DUMP (.gsa) THAT YtffobfcddfppnaaProg.lean LOADS. Nothing in Lean hashes anything: it is a label: what it is worth is what the hold of that sum in a sandbox is worth. -/
noncomputable def Try.pinned : Pinned := { name := "ytffobfcddfppnaa", sum := "5df7bf67874448793f49a9ebacb745f30590ce0c06d50558bf7f5e059f4870c7", checked := Try.checked }
namespace Rows
def none {H : Type} : Left H := { results := [], args := [] }

/-- 'cantileverlaw15.DeriveGrows': WHATEVER THE INPUT: true; the input reads as it did. -/
def deriveGrowsSpec : ChangeSpec := { name := "deriveGrows", fn := fun _ => fun
  | [d1, d2, d3, d4, d5] => { results := [.lit (.bool true)], args := [d1, d2, d3, d4, d5] }
  | _ => none }
def deriveGrowsRow : OpenClaim := { program := "ytffobfcddfppnaa", sum := "5df7bf67874448793f49a9ebacb745f30590ce0c06d50558bf7f5e059f4870c7", func := "cantilever/cantileverlaw15.DeriveGrows", spec := "deriveGrows", unfollowed := true, recurses := true, plainKeys := false, apart := false }
def DeriveGrowsSaid : Prop := deriveGrowsRow.holds Try.pinned (OpenSpec.ofChange deriveGrowsSpec)

/-- ITS FALSE NEIGHBOUR: 'it returns false'. Refute it at one input. -/
def deriveGrowsWrong : ChangeSpec := { name := "deriveGrows", fn := fun _ => fun
  | [d1, d2, d3, d4, d5] => { results := [.lit (.bool false)], args := [d1, d2, d3, d4, d5] }
  | _ => none }
def DeriveGrowsWrongFalsely : Prop := deriveGrowsRow.holds Try.pinned (OpenSpec.ofChange deriveGrowsWrong)

/-- 'cantileverlaw15.DeriveHolds': WHATEVER THE INPUT: true; the input reads as it did. -/
def deriveHoldsSpec : ChangeSpec := { name := "deriveHolds", fn := fun _ => fun
  | [d] => { results := [.lit (.bool true)], args := [d] }
  | _ => none }
def deriveHoldsRow : OpenClaim := { program := "ytffobfcddfppnaa", sum := "5df7bf67874448793f49a9ebacb745f30590ce0c06d50558bf7f5e059f4870c7", func := "cantilever/cantileverlaw15.DeriveHolds", spec := "deriveHolds", unfollowed := true, recurses := true, plainKeys := false, apart := false }
def DeriveHoldsSaid : Prop := deriveHoldsRow.holds Try.pinned (OpenSpec.ofChange deriveHoldsSpec)

/-- ITS FALSE NEIGHBOUR: 'it returns false'. Refute it at one input. -/
def deriveHoldsWrong : ChangeSpec := { name := "deriveHolds", fn := fun _ => fun
  | [d] => { results := [.lit (.bool false)], args := [d] }
  | _ => none }
def DeriveHoldsWrongFalsely : Prop := deriveHoldsRow.holds Try.pinned (OpenSpec.ofChange deriveHoldsWrong)

/-- 'cantileverlaw17.RaceStays': WHATEVER THE INPUT: true; the input reads as it did. -/
def raceStaysSpec : ChangeSpec := { name := "raceStays", fn := fun _ => fun
  | [d1, d2, d3, d4, d5] => { results := [.lit (.bool true)], args := [d1, d2, d3, d4, d5] }
  | _ => none }
def raceStaysRow : OpenClaim := { program := "ytffobfcddfppnaa", sum := "5df7bf67874448793f49a9ebacb745f30590ce0c06d50558bf7f5e059f4870c7", func := "cantilever/cantileverlaw17.RaceStays", spec := "raceStays", unfollowed := true, recurses := true, plainKeys := false, apart := false }
def RaceStaysSaid : Prop := raceStaysRow.holds Try.pinned (OpenSpec.ofChange raceStaysSpec)

/-- ITS FALSE NEIGHBOUR: 'it returns false'. Refute it at one input. -/
def raceStaysWrong : ChangeSpec := { name := "raceStays", fn := fun _ => fun
  | [d1, d2, d3, d4, d5] => { results := [.lit (.bool false)], args := [d1, d2, d3, d4, d5] }
  | _ => none }
def RaceStaysWrongFalsely : Prop := raceStaysRow.holds Try.pinned (OpenSpec.ofChange raceStaysWrong)

/-- 'cantileverlaw17.RacePlain': WHATEVER THE INPUT: true; the input reads as it did. -/
def racePlainSpec : ChangeSpec := { name := "racePlain", fn := fun _ => fun
  | [d1, d2, d3] => { results := [.lit (.bool true)], args := [d1, d2, d3] }
  | _ => none }
def racePlainRow : OpenClaim := { program := "ytffobfcddfppnaa", sum := "5df7bf67874448793f49a9ebacb745f30590ce0c06d50558bf7f5e059f4870c7", func := "cantilever/cantileverlaw17.RacePlain", spec := "racePlain", unfollowed := true, recurses := true, plainKeys := false, apart := false }
def RacePlainSaid : Prop := racePlainRow.holds Try.pinned (OpenSpec.ofChange racePlainSpec)

/-- ITS FALSE NEIGHBOUR: 'it returns false'. Refute it at one input. -/
def racePlainWrong : ChangeSpec := { name := "racePlain", fn := fun _ => fun
  | [d1, d2, d3] => { results := [.lit (.bool false)], args := [d1, d2, d3] }
  | _ => none }
def RacePlainWrongFalsely : Prop := racePlainRow.holds Try.pinned (OpenSpec.ofChange racePlainWrong)

/-- 'cantileverlaw15.DeriveNames': WHATEVER THE INPUT: true; the input reads as it did. -/
def deriveNamesSpec : ChangeSpec := { name := "deriveNames", fn := fun _ => fun
  | [] => { results := [.lit (.bool true)], args := [] }
  | _ => none }
def deriveNamesRow : OpenClaim := { program := "ytffobfcddfppnaa", sum := "5df7bf67874448793f49a9ebacb745f30590ce0c06d50558bf7f5e059f4870c7", func := "cantilever/cantileverlaw15.DeriveNames", spec := "deriveNames", unfollowed := true, recurses := true, plainKeys := false, apart := false }
def DeriveNamesSaid : Prop := deriveNamesRow.holds Try.pinned (OpenSpec.ofChange deriveNamesSpec)

/-- ITS FALSE NEIGHBOUR: 'it returns false'. Refute it at one input. -/
def deriveNamesWrong : ChangeSpec := { name := "deriveNames", fn := fun _ => fun
  | [] => { results := [.lit (.bool false)], args := [] }
  | _ => none }
def DeriveNamesWrongFalsely : Prop := deriveNamesRow.holds Try.pinned (OpenSpec.ofChange deriveNamesWrong)

/-- 'cantileverlaw15.DeriveCalls': WHATEVER THE INPUT: true; the input reads as it did. -/
def deriveCallsSpec : ChangeSpec := { name := "deriveCalls", fn := fun _ => fun
  | [d1, d2, d3, d4] => { results := [.lit (.bool true)], args := [d1, d2, d3, d4] }
  | _ => none }
def deriveCallsRow : OpenClaim := { program := "ytffobfcddfppnaa", sum := "5df7bf67874448793f49a9ebacb745f30590ce0c06d50558bf7f5e059f4870c7", func := "cantilever/cantileverlaw15.DeriveCalls", spec := "deriveCalls", unfollowed := true, recurses := true, plainKeys := false, apart := false }
def DeriveCallsSaid : Prop := deriveCallsRow.holds Try.pinned (OpenSpec.ofChange deriveCallsSpec)

/-- ITS FALSE NEIGHBOUR: 'it returns false'. Refute it at one input. -/
def deriveCallsWrong : ChangeSpec := { name := "deriveCalls", fn := fun _ => fun
  | [d1, d2, d3, d4] => { results := [.lit (.bool false)], args := [d1, d2, d3, d4] }
  | _ => none }
def DeriveCallsWrongFalsely : Prop := deriveCallsRow.holds Try.pinned (OpenSpec.ofChange deriveCallsWrong)

/-- 'cantileverlaw16.ModelOrders': WHATEVER THE INPUT: true; the input reads as it did. -/
def modelOrdersSpec : ChangeSpec := { name := "modelOrders", fn := fun _ => fun
  | [d1, d2] => { results := [.lit (.bool true)], args := [d1, d2] }
  | _ => none }
def modelOrdersRow : OpenClaim := { program := "ytffobfcddfppnaa", sum := "5df7bf67874448793f49a9ebacb745f30590ce0c06d50558bf7f5e059f4870c7", func := "cantilever/cantileverlaw16.ModelOrders", spec := "modelOrders", unfollowed := true, recurses := true, plainKeys := false, apart := false }
def ModelOrdersSaid : Prop := modelOrdersRow.holds Try.pinned (OpenSpec.ofChange modelOrdersSpec)

/-- ITS FALSE NEIGHBOUR: 'it returns false'. Refute it at one input. -/
def modelOrdersWrong : ChangeSpec := { name := "modelOrders", fn := fun _ => fun
  | [d1, d2] => { results := [.lit (.bool false)], args := [d1, d2] }
  | _ => none }
def ModelOrdersWrongFalsely : Prop := modelOrdersRow.holds Try.pinned (OpenSpec.ofChange modelOrdersWrong)

/-- 'cantileverlaw16.ModelGoesOn': WHATEVER THE INPUT: true; the input reads as it did. -/
def modelGoesOnSpec : ChangeSpec := { name := "modelGoesOn", fn := fun _ => fun
  | [d1, d2, d3, d4, d5] => { results := [.lit (.bool true)], args := [d1, d2, d3, d4, d5] }
  | _ => none }
def modelGoesOnRow : OpenClaim := { program := "ytffobfcddfppnaa", sum := "5df7bf67874448793f49a9ebacb745f30590ce0c06d50558bf7f5e059f4870c7", func := "cantilever/cantileverlaw16.ModelGoesOn", spec := "modelGoesOn", inPlace := ["slices.overlaps[cantilever/api.Id]"], unfollowed := true, recurses := true, plainKeys := false, apart := false }
def ModelGoesOnSaid : Prop := modelGoesOnRow.holds Try.pinned (OpenSpec.ofChange modelGoesOnSpec)

/-- ITS FALSE NEIGHBOUR: 'it returns false'. Refute it at one input. -/
def modelGoesOnWrong : ChangeSpec := { name := "modelGoesOn", fn := fun _ => fun
  | [d1, d2, d3, d4, d5] => { results := [.lit (.bool false)], args := [d1, d2, d3, d4, d5] }
  | _ => none }
def ModelGoesOnWrongFalsely : Prop := modelGoesOnRow.holds Try.pinned (OpenSpec.ofChange modelGoesOnWrong)

/-- 'cantileverlaw17.RaceNone': WHATEVER THE INPUT: true; the input reads as it did. -/
def raceNoneSpec : ChangeSpec := { name := "raceNone", fn := fun _ => fun
  | [d] => { results := [.lit (.bool true)], args := [d] }
  | _ => none }
def raceNoneRow : OpenClaim := { program := "ytffobfcddfppnaa", sum := "5df7bf67874448793f49a9ebacb745f30590ce0c06d50558bf7f5e059f4870c7", func := "cantilever/cantileverlaw17.RaceNone", spec := "raceNone", unfollowed := true, recurses := true, plainKeys := false, apart := false }
def RaceNoneSaid : Prop := raceNoneRow.holds Try.pinned (OpenSpec.ofChange raceNoneSpec)

/-- ITS FALSE NEIGHBOUR: 'it returns false'. Refute it at one input. -/
def raceNoneWrong : ChangeSpec := { name := "raceNone", fn := fun _ => fun
  | [d] => { results := [.lit (.bool false)], args := [d] }
  | _ => none }
def RaceNoneWrongFalsely : Prop := raceNoneRow.holds Try.pinned (OpenSpec.ofChange raceNoneWrong)

/-- 'cantileverlaw17.RaceTurned': WHATEVER THE INPUT: true; the input reads as it did. -/
def raceTurnedSpec : ChangeSpec := { name := "raceTurned", fn := fun _ => fun
  | [d] => { results := [.lit (.bool true)], args := [d] }
  | _ => none }
def raceTurnedRow : OpenClaim := { program := "ytffobfcddfppnaa", sum := "5df7bf67874448793f49a9ebacb745f30590ce0c06d50558bf7f5e059f4870c7", func := "cantilever/cantileverlaw17.RaceTurned", spec := "raceTurned", unfollowed := true, recurses := true, plainKeys := false, apart := false }
def RaceTurnedSaid : Prop := raceTurnedRow.holds Try.pinned (OpenSpec.ofChange raceTurnedSpec)

/-- ITS FALSE NEIGHBOUR: 'it returns false'. Refute it at one input. -/
def raceTurnedWrong : ChangeSpec := { name := "raceTurned", fn := fun _ => fun
  | [d] => { results := [.lit (.bool false)], args := [d] }
  | _ => none }
def RaceTurnedWrongFalsely : Prop := raceTurnedRow.holds Try.pinned (OpenSpec.ofChange raceTurnedWrong)

/-- 'cantileverlaw17.RaceNames': WHATEVER THE INPUT: true; the input reads as it did. -/
def raceNamesSpec : ChangeSpec := { name := "raceNames", fn := fun _ => fun
  | [] => { results := [.lit (.bool true)], args := [] }
  | _ => none }
def raceNamesRow : OpenClaim := { program := "ytffobfcddfppnaa", sum := "5df7bf67874448793f49a9ebacb745f30590ce0c06d50558bf7f5e059f4870c7", func := "cantilever/cantileverlaw17.RaceNames", spec := "raceNames", unfollowed := true, recurses := true, plainKeys := false, apart := false }
def RaceNamesSaid : Prop := raceNamesRow.holds Try.pinned (OpenSpec.ofChange raceNamesSpec)

/-- ITS FALSE NEIGHBOUR: 'it returns false'. Refute it at one input. -/
def raceNamesWrong : ChangeSpec := { name := "raceNames", fn := fun _ => fun
  | [] => { results := [.lit (.bool false)], args := [] }
  | _ => none }
def RaceNamesWrongFalsely : Prop := raceNamesRow.holds Try.pinned (OpenSpec.ofChange raceNamesWrong)

/- THE SECOND FORM. 'bulk': how many values and letters a reading holds, each counted each time it is reached (what is shared counts as often as it is met; a slice's spare places count too). A statement '..UptoSaid' is the law's where the arguments, and the package variables that the reading takes, are together of bulk at most 1048576: NARROWER than '..Said'. Prove '..Said' where nothing that the law and all that it calls make is longer than what came in: it says more and counts as full. Else prove '..UptoSaid'. A law counts once. -/
mutual
def uptoBulk {H : Type} : DataW H → Nat
  | .lit (.string bytes) => bytes.length + 1
  | .lit _ => 1
  | .nil => 1
  | .ptr d => uptoBulk d + 1
  | .slice elems spare => uptoBulkAll elems + uptoBulkAll spare + 1
  | .agg parts => uptoBulkAll parts + 1
  | .iface _ d => uptoBulk d + 1
  | .map entries => uptoBulkEntries entries + 1
  | .held _ => 1
def uptoBulkAll {H : Type} : List (DataW H) → Nat
  | [] => 0
  | d :: r => uptoBulk d + uptoBulkAll r
def uptoBulkEntries {H : Type} : List (Lit × DataW H) → Nat
  | [] => 0
  | x :: r => uptoBulkEntry x + uptoBulkEntries r
def uptoBulkEntry {H : Type} : Lit × DataW H → Nat
  | (.string bytes, d) => bytes.length + uptoBulk d + 1
  | (_, d) => uptoBulk d + 1
 end
def uptoSmall : (H : Type) → List (DataW H) → Bool := fun _ ds => decide (uptoBulkAll ds ≤ 1048576)
def OpenSpec.upto (s : _root_.Go.ChangeSpec) : _root_.Go.OpenSpec := { _root_.Go.OpenSpec.ofChange s with cond := some uptoSmall }

/-- 'cantileverlaw15.DeriveGrows', WHERE WHAT IT READS IS OF BULK AT MOST 1048576: true; the input reads as it did. -/
def deriveGrowsUptoRow : OpenClaim := { program := "ytffobfcddfppnaa", sum := "5df7bf67874448793f49a9ebacb745f30590ce0c06d50558bf7f5e059f4870c7", func := "cantilever/cantileverlaw15.DeriveGrows", spec := "deriveGrows", unfollowed := true, recurses := true, plainKeys := false, apart := false, narrowed := true }
def DeriveGrowsUptoSaid : Prop := deriveGrowsUptoRow.holds Try.pinned (OpenSpec.upto deriveGrowsSpec)

/-- 'cantileverlaw15.DeriveHolds', WHERE WHAT IT READS IS OF BULK AT MOST 1048576: true; the input reads as it did. -/
def deriveHoldsUptoRow : OpenClaim := { program := "ytffobfcddfppnaa", sum := "5df7bf67874448793f49a9ebacb745f30590ce0c06d50558bf7f5e059f4870c7", func := "cantilever/cantileverlaw15.DeriveHolds", spec := "deriveHolds", unfollowed := true, recurses := true, plainKeys := false, apart := false, narrowed := true }
def DeriveHoldsUptoSaid : Prop := deriveHoldsUptoRow.holds Try.pinned (OpenSpec.upto deriveHoldsSpec)

/-- 'cantileverlaw17.RaceStays', WHERE WHAT IT READS IS OF BULK AT MOST 1048576: true; the input reads as it did. -/
def raceStaysUptoRow : OpenClaim := { program := "ytffobfcddfppnaa", sum := "5df7bf67874448793f49a9ebacb745f30590ce0c06d50558bf7f5e059f4870c7", func := "cantilever/cantileverlaw17.RaceStays", spec := "raceStays", unfollowed := true, recurses := true, plainKeys := false, apart := false, narrowed := true }
def RaceStaysUptoSaid : Prop := raceStaysUptoRow.holds Try.pinned (OpenSpec.upto raceStaysSpec)

/-- 'cantileverlaw17.RacePlain', WHERE WHAT IT READS IS OF BULK AT MOST 1048576: true; the input reads as it did. -/
def racePlainUptoRow : OpenClaim := { program := "ytffobfcddfppnaa", sum := "5df7bf67874448793f49a9ebacb745f30590ce0c06d50558bf7f5e059f4870c7", func := "cantilever/cantileverlaw17.RacePlain", spec := "racePlain", unfollowed := true, recurses := true, plainKeys := false, apart := false, narrowed := true }
def RacePlainUptoSaid : Prop := racePlainUptoRow.holds Try.pinned (OpenSpec.upto racePlainSpec)

/-- 'cantileverlaw15.DeriveNames', WHERE WHAT IT READS IS OF BULK AT MOST 1048576: true; the input reads as it did. -/
def deriveNamesUptoRow : OpenClaim := { program := "ytffobfcddfppnaa", sum := "5df7bf67874448793f49a9ebacb745f30590ce0c06d50558bf7f5e059f4870c7", func := "cantilever/cantileverlaw15.DeriveNames", spec := "deriveNames", unfollowed := true, recurses := true, plainKeys := false, apart := false, narrowed := true }
def DeriveNamesUptoSaid : Prop := deriveNamesUptoRow.holds Try.pinned (OpenSpec.upto deriveNamesSpec)

/-- 'cantileverlaw15.DeriveCalls', WHERE WHAT IT READS IS OF BULK AT MOST 1048576: true; the input reads as it did. -/
def deriveCallsUptoRow : OpenClaim := { program := "ytffobfcddfppnaa", sum := "5df7bf67874448793f49a9ebacb745f30590ce0c06d50558bf7f5e059f4870c7", func := "cantilever/cantileverlaw15.DeriveCalls", spec := "deriveCalls", unfollowed := true, recurses := true, plainKeys := false, apart := false, narrowed := true }
def DeriveCallsUptoSaid : Prop := deriveCallsUptoRow.holds Try.pinned (OpenSpec.upto deriveCallsSpec)

/-- 'cantileverlaw16.ModelOrders', WHERE WHAT IT READS IS OF BULK AT MOST 1048576: true; the input reads as it did. -/
def modelOrdersUptoRow : OpenClaim := { program := "ytffobfcddfppnaa", sum := "5df7bf67874448793f49a9ebacb745f30590ce0c06d50558bf7f5e059f4870c7", func := "cantilever/cantileverlaw16.ModelOrders", spec := "modelOrders", unfollowed := true, recurses := true, plainKeys := false, apart := false, narrowed := true }
def ModelOrdersUptoSaid : Prop := modelOrdersUptoRow.holds Try.pinned (OpenSpec.upto modelOrdersSpec)

/-- 'cantileverlaw16.ModelGoesOn', WHERE WHAT IT READS IS OF BULK AT MOST 1048576: true; the input reads as it did. -/
def modelGoesOnUptoRow : OpenClaim := { program := "ytffobfcddfppnaa", sum := "5df7bf67874448793f49a9ebacb745f30590ce0c06d50558bf7f5e059f4870c7", func := "cantilever/cantileverlaw16.ModelGoesOn", spec := "modelGoesOn", inPlace := ["slices.overlaps[cantilever/api.Id]"], unfollowed := true, recurses := true, plainKeys := false, apart := false, narrowed := true }
def ModelGoesOnUptoSaid : Prop := modelGoesOnUptoRow.holds Try.pinned (OpenSpec.upto modelGoesOnSpec)

/-- 'cantileverlaw17.RaceNone', WHERE WHAT IT READS IS OF BULK AT MOST 1048576: true; the input reads as it did. -/
def raceNoneUptoRow : OpenClaim := { program := "ytffobfcddfppnaa", sum := "5df7bf67874448793f49a9ebacb745f30590ce0c06d50558bf7f5e059f4870c7", func := "cantilever/cantileverlaw17.RaceNone", spec := "raceNone", unfollowed := true, recurses := true, plainKeys := false, apart := false, narrowed := true }
def RaceNoneUptoSaid : Prop := raceNoneUptoRow.holds Try.pinned (OpenSpec.upto raceNoneSpec)

/-- 'cantileverlaw17.RaceTurned', WHERE WHAT IT READS IS OF BULK AT MOST 1048576: true; the input reads as it did. -/
def raceTurnedUptoRow : OpenClaim := { program := "ytffobfcddfppnaa", sum := "5df7bf67874448793f49a9ebacb745f30590ce0c06d50558bf7f5e059f4870c7", func := "cantilever/cantileverlaw17.RaceTurned", spec := "raceTurned", unfollowed := true, recurses := true, plainKeys := false, apart := false, narrowed := true }
def RaceTurnedUptoSaid : Prop := raceTurnedUptoRow.holds Try.pinned (OpenSpec.upto raceTurnedSpec)

/-- 'cantileverlaw17.RaceNames', WHERE WHAT IT READS IS OF BULK AT MOST 1048576: true; the input reads as it did. -/
def raceNamesUptoRow : OpenClaim := { program := "ytffobfcddfppnaa", sum := "5df7bf67874448793f49a9ebacb745f30590ce0c06d50558bf7f5e059f4870c7", func := "cantilever/cantileverlaw17.RaceNames", spec := "raceNames", unfollowed := true, recurses := true, plainKeys := false, apart := false, narrowed := true }
def RaceNamesUptoSaid : Prop := raceNamesUptoRow.holds Try.pinned (OpenSpec.upto raceNamesSpec)

end Rows
end Go.Proofs.Ytffobfcddfppnaa
