/-
  DERIVED. GIVEN WITH THE SEED: THE CARDS: each row of YtbpebafmnnofjaaGreatDoorRows.lean that lists a variable, with what it lists TIED to the program's text (the seventh form; the later family's looks); each row that meets fmt, with fmt's text TOLD by the authors' own Lean function (tested against real Go, not proved from fmt's source: count such statements apart). THE CARD IS WHAT COUNTS. Prove the row's statement (the work); the ties are given (YtbpebafmnnofjaaGreatDoorTie.lean); close each card by the builder's one call (the guide's Derived/Test/ToyasCard.lean, 'card_holds'). Laid BY PROGRAM, IN A SANDBOX (cutbox-door.mjs). By AI agents, Wed Nov 11 2026. No macro, syntax, notation, axiom, sorry.
-/
import Derived.Test.YtbpebafmnnofjaaGreatDoorRows
import GoSem.ClaimSeven
namespace Go.Proofs.YtbpebafmnnofjaaGreatDoor
namespace Rows

/-- THE TIED CARD OF 'cantileverlaw18.PrefixStates'. -/
def prefixStatesCard : Claim7 := { stood := { row := prefixStatesRow, standIns := [], harness := (true, "d20753e2cd9b8786d5513ede8214a6ab7f9651cc2d36cd7b360f5c11237d7028"), looks := false }, kinds := [], alts := [], laidByText := true, laidKinds := [.data], laidTests := true, laidLooks := .later }
def PrefixStatesCardSaid : Prop := Claim7.holds Tryz.pinned (.plain (OpenSpec.ofChange prefixStatesSpec)) prefixStatesCard

/-- THE SECOND FORM's CARD OF 'cantileverlaw18.PrefixStates'. -/
def prefixStatesUptoCard : Claim7 := { stood := { row := prefixStatesUptoRow, standIns := [], harness := (true, "d20753e2cd9b8786d5513ede8214a6ab7f9651cc2d36cd7b360f5c11237d7028"), looks := false }, kinds := [], alts := [], laidByText := true, laidKinds := [.data], laidTests := true, laidLooks := .later }
def PrefixStatesUptoCardSaid : Prop := Claim7.holds Tryz.pinned (.plain (OpenSpec.upto prefixStatesSpec)) prefixStatesUptoCard
end Rows
end Go.Proofs.YtbpebafmnnofjaaGreatDoor
