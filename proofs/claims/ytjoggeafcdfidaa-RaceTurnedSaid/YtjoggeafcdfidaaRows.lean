/-
  No cell of these rows narrows 'for every input' (looked for: loops, veiled, ifaces, maps, wideKeys, modest, calm, conditions, laid).
  DERIVED. THE GIVEN ROWS OF THIS SEAT. 5 by the template 'for every input the law returns true; each argument reads behind the call as it read before'; 0 by the template 'total and deterministic' (their statements: YtjoggeafcdfidaaTotals.lean).
  GIVEN WITH THE SEED: the statements are not yours to turn. If you find one false, say at which input.
  Laid BY PROGRAM, IN A SANDBOX (cutbox-rows.mjs): the forced cells as the released guide's own fill.sh prints them over the translation c53467f615094d48… (all of the seat's roots in one cut). By AI agents, Wed Nov 11 2026. No macro, syntax, notation, axiom, sorry.
-/
import Derived.Test.YtjoggeafcdfidaaChecked
import GoSem.Claim
import GoSem.ClaimJoined
import GoSem.ClaimMapViews
import Derived.JoinedTies
import Derived.KernelRfl
namespace Go.Proofs.Ytjoggeafcdfidaa
/- THE CELL 'sum', in the pinned program and in every row, IS THE sha256 OF THE DUMP (.gsa) THAT YtjoggeafcdfidaaProg.lean LOADS. Nothing in Lean hashes anything: it is a label: what it is worth is what the hold of that sum in a sandbox is worth. -/
noncomputable def Try.pinned : Pinned := { name := "ytjoggeafcdfidaa", sum := "c53467f615094d48b244122c3ad29de60c911875bbf7200345b5bde597695596", checked := Try.checked }
namespace Rows
def none {H : Type} : Left H := { results := [], args := [] }

/-- 'cantileverlaw17.RaceStays': WHATEVER THE INPUT: true; the input reads as it did. -/
def raceStaysSpec : ChangeSpec := { name := "raceStays", fn := fun _ => fun
  | [d1, d2, d3, d4, d5] => { results := [.lit (.bool true)], args := [d1, d2, d3, d4, d5] }
  | _ => none }
def raceStaysRow : OpenClaim := { program := "ytjoggeafcdfidaa", sum := "c53467f615094d48b244122c3ad29de60c911875bbf7200345b5bde597695596", func := "cantilever/cantileverlaw17.RaceStays", spec := "raceStays", unfollowed := true, recurses := true, plainKeys := false, apart := false }
def RaceStaysSaid : Prop := raceStaysRow.holds Try.pinned (OpenSpec.ofChange raceStaysSpec)

/-- ITS FALSE NEIGHBOUR: 'it returns false'. Refute it at one input. -/
def raceStaysWrong : ChangeSpec := { name := "raceStays", fn := fun _ => fun
  | [d1, d2, d3, d4, d5] => { results := [.lit (.bool false)], args := [d1, d2, d3, d4, d5] }
  | _ => none }
def RaceStaysWrongFalsely : Prop := raceStaysRow.holds Try.pinned (OpenSpec.ofChange raceStaysWrong)

/-- 'cantileverlaw17.RacePlain': WHATEVER THE INPUT: true; the input reads as it did. -/
def racePlainSpec : ChangeSpec := { name := "racePlain", fn := fun _ => fun
  | [d1, d2, d3] => { results := [.lit (.bool true)], args := [d1, d2, d3] }
  | _ => none }
def racePlainRow : OpenClaim := { program := "ytjoggeafcdfidaa", sum := "c53467f615094d48b244122c3ad29de60c911875bbf7200345b5bde597695596", func := "cantilever/cantileverlaw17.RacePlain", spec := "racePlain", unfollowed := true, recurses := true, plainKeys := false, apart := false }
def RacePlainSaid : Prop := racePlainRow.holds Try.pinned (OpenSpec.ofChange racePlainSpec)

/-- ITS FALSE NEIGHBOUR: 'it returns false'. Refute it at one input. -/
def racePlainWrong : ChangeSpec := { name := "racePlain", fn := fun _ => fun
  | [d1, d2, d3] => { results := [.lit (.bool false)], args := [d1, d2, d3] }
  | _ => none }
def RacePlainWrongFalsely : Prop := racePlainRow.holds Try.pinned (OpenSpec.ofChange racePlainWrong)

/-- 'cantileverlaw17.RaceNone': WHATEVER THE INPUT: true; the input reads as it did. -/
def raceNoneSpec : ChangeSpec := { name := "raceNone", fn := fun _ => fun
  | [d] => { results := [.lit (.bool true)], args := [d] }
  | _ => none }
def raceNoneRow : OpenClaim := { program := "ytjoggeafcdfidaa", sum := "c53467f615094d48b244122c3ad29de60c911875bbf7200345b5bde597695596", func := "cantilever/cantileverlaw17.RaceNone", spec := "raceNone", unfollowed := true, recurses := true, plainKeys := false, apart := false }
def RaceNoneSaid : Prop := raceNoneRow.holds Try.pinned (OpenSpec.ofChange raceNoneSpec)

/-- ITS FALSE NEIGHBOUR: 'it returns false'. Refute it at one input. -/
def raceNoneWrong : ChangeSpec := { name := "raceNone", fn := fun _ => fun
  | [d] => { results := [.lit (.bool false)], args := [d] }
  | _ => none }
def RaceNoneWrongFalsely : Prop := raceNoneRow.holds Try.pinned (OpenSpec.ofChange raceNoneWrong)

/-- 'cantileverlaw17.RaceTurned': WHATEVER THE INPUT: true; the input reads as it did. -/
def raceTurnedSpec : ChangeSpec := { name := "raceTurned", fn := fun _ => fun
  | [d] => { results := [.lit (.bool true)], args := [d] }
  | _ => none }
def raceTurnedRow : OpenClaim := { program := "ytjoggeafcdfidaa", sum := "c53467f615094d48b244122c3ad29de60c911875bbf7200345b5bde597695596", func := "cantilever/cantileverlaw17.RaceTurned", spec := "raceTurned", unfollowed := true, recurses := true, plainKeys := false, apart := false }
def RaceTurnedSaid : Prop := raceTurnedRow.holds Try.pinned (OpenSpec.ofChange raceTurnedSpec)

/-- ITS FALSE NEIGHBOUR: 'it returns false'. Refute it at one input. -/
def raceTurnedWrong : ChangeSpec := { name := "raceTurned", fn := fun _ => fun
  | [d] => { results := [.lit (.bool false)], args := [d] }
  | _ => none }
def RaceTurnedWrongFalsely : Prop := raceTurnedRow.holds Try.pinned (OpenSpec.ofChange raceTurnedWrong)

/-- 'cantileverlaw17.RaceNames': WHATEVER THE INPUT: true; the input reads as it did. -/
def raceNamesSpec : ChangeSpec := { name := "raceNames", fn := fun _ => fun
  | [] => { results := [.lit (.bool true)], args := [] }
  | _ => none }
def raceNamesRow : OpenClaim := { program := "ytjoggeafcdfidaa", sum := "c53467f615094d48b244122c3ad29de60c911875bbf7200345b5bde597695596", func := "cantilever/cantileverlaw17.RaceNames", spec := "raceNames", unfollowed := true, recurses := true, plainKeys := false, apart := false }
def RaceNamesSaid : Prop := raceNamesRow.holds Try.pinned (OpenSpec.ofChange raceNamesSpec)

/-- ITS FALSE NEIGHBOUR: 'it returns false'. Refute it at one input. -/
def raceNamesWrong : ChangeSpec := { name := "raceNames", fn := fun _ => fun
  | [] => { results := [.lit (.bool false)], args := [] }
  | _ => none }
def RaceNamesWrongFalsely : Prop := raceNamesRow.holds Try.pinned (OpenSpec.ofChange raceNamesWrong)

/- THE SECOND FORM. 'bulk': how many values and letters a reading holds, each counted each time it is reached (what is shared counts as often as it is met; a slice's spare places count too). A statement '..UptoSaid' is the law's where the arguments, and the package variables that the reading takes, are together of bulk at most 1048576: NARROWER than '..Said'. Prove '..Said' where nothing that the law and all that it calls make is longer than what came in: it says more and counts as full. Else prove '..UptoSaid'. A law counts once. -/
mutual
def uptoBulk {H : Type} : DataW H → Nat
  | .lit (.string bytes) => bytes.length + 1
  | .lit _ => 1
  | .nil => 1
  | .ptr d => uptoBulk d + 1
  | .slice elems spare => uptoBulkAll elems + uptoBulkAll spare + 1
  | .agg parts => uptoBulkAll parts + 1
  | .iface _ d => uptoBulk d + 1
  | .map entries => uptoBulkEntries entries + 1
  | .held _ => 1
def uptoBulkAll {H : Type} : List (DataW H) → Nat
  | [] => 0
  | d :: r => uptoBulk d + uptoBulkAll r
def uptoBulkEntries {H : Type} : List (Lit × DataW H) → Nat
  | [] => 0
  | x :: r => uptoBulkEntry x + uptoBulkEntries r
def uptoBulkEntry {H : Type} : Lit × DataW H → Nat
  | (.string bytes, d) => bytes.length + uptoBulk d + 1
  | (_, d) => uptoBulk d + 1
 end
def uptoSmall : (H : Type) → List (DataW H) → Bool := fun _ ds => decide (uptoBulkAll ds ≤ 1048576)
def OpenSpec.upto (s : _root_.Go.ChangeSpec) : _root_.Go.OpenSpec := { _root_.Go.OpenSpec.ofChange s with cond := some uptoSmall }

/-- 'cantileverlaw17.RaceStays', WHERE WHAT IT READS IS OF BULK AT MOST 1048576: true; the input reads as it did. -/
def raceStaysUptoRow : OpenClaim := { program := "ytjoggeafcdfidaa", sum := "c53467f615094d48b244122c3ad29de60c911875bbf7200345b5bde597695596", func := "cantilever/cantileverlaw17.RaceStays", spec := "raceStays", unfollowed := true, recurses := true, plainKeys := false, apart := false, narrowed := true }
def RaceStaysUptoSaid : Prop := raceStaysUptoRow.holds Try.pinned (OpenSpec.upto raceStaysSpec)

/-- 'cantileverlaw17.RacePlain', WHERE WHAT IT READS IS OF BULK AT MOST 1048576: true; the input reads as it did. -/
def racePlainUptoRow : OpenClaim := { program := "ytjoggeafcdfidaa", sum := "c53467f615094d48b244122c3ad29de60c911875bbf7200345b5bde597695596", func := "cantilever/cantileverlaw17.RacePlain", spec := "racePlain", unfollowed := true, recurses := true, plainKeys := false, apart := false, narrowed := true }
def RacePlainUptoSaid : Prop := racePlainUptoRow.holds Try.pinned (OpenSpec.upto racePlainSpec)

/-- 'cantileverlaw17.RaceNone', WHERE WHAT IT READS IS OF BULK AT MOST 1048576: true; the input reads as it did. -/
def raceNoneUptoRow : OpenClaim := { program := "ytjoggeafcdfidaa", sum := "c53467f615094d48b244122c3ad29de60c911875bbf7200345b5bde597695596", func := "cantilever/cantileverlaw17.RaceNone", spec := "raceNone", unfollowed := true, recurses := true, plainKeys := false, apart := false, narrowed := true }
def RaceNoneUptoSaid : Prop := raceNoneUptoRow.holds Try.pinned (OpenSpec.upto raceNoneSpec)

/-- 'cantileverlaw17.RaceTurned', WHERE WHAT IT READS IS OF BULK AT MOST 1048576: true; the input reads as it did. -/
def raceTurnedUptoRow : OpenClaim := { program := "ytjoggeafcdfidaa", sum := "c53467f615094d48b244122c3ad29de60c911875bbf7200345b5bde597695596", func := "cantilever/cantileverlaw17.RaceTurned", spec := "raceTurned", unfollowed := true, recurses := true, plainKeys := false, apart := false, narrowed := true }
def RaceTurnedUptoSaid : Prop := raceTurnedUptoRow.holds Try.pinned (OpenSpec.upto raceTurnedSpec)

/-- 'cantileverlaw17.RaceNames', WHERE WHAT IT READS IS OF BULK AT MOST 1048576: true; the input reads as it did. -/
def raceNamesUptoRow : OpenClaim := { program := "ytjoggeafcdfidaa", sum := "c53467f615094d48b244122c3ad29de60c911875bbf7200345b5bde597695596", func := "cantilever/cantileverlaw17.RaceNames", spec := "raceNames", unfollowed := true, recurses := true, plainKeys := false, apart := false, narrowed := true }
def RaceNamesUptoSaid : Prop := raceNamesUptoRow.holds Try.pinned (OpenSpec.upto raceNamesSpec)

end Rows
end Go.Proofs.Ytjoggeafcdfidaa
