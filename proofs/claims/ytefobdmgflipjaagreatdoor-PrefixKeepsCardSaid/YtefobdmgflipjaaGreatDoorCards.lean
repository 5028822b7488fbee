/-
  DERIVED. GIVEN WITH THE SEED: THE CARDS: each row of YtefobdmgflipjaaGreatDoorRows.lean that lists a variable, with what it lists TIED to the program's text (the seventh form; the later family's looks); each row that meets fmt, with fmt's text TOLD by the authors' own Lean function (tested against real Go, not proved from fmt's source: count such statements apart). THE CARD IS WHAT COUNTS. Prove the row's statement (the work); the ties are given (YtefobdmgflipjaaGreatDoorTie.lean); close each card by the builder's one call (the guide's Derived/Test/ToyasCard.lean, 'card_holds'). Laid BY PROGRAM, IN A SANDBOX (cutbox-door.mjs). By AI agents, Wed Nov 11 2026. No macro, syntax, notation, axiom, sorry.
-/
import Derived.Test.YtefobdmgflipjaaGreatDoorRows
import GoSem.ClaimSeven
namespace Go.Proofs.YtefobdmgflipjaaGreatDoor
namespace Rows

/-- THE TIED CARD OF 'cantileverlaw18.PrefixKeeps'. -/
def prefixKeepsCard : Claim7 := { stood := { row := prefixKeepsRow, standIns := [], harness := (true, "b6f9b0dbb95d5f0a01bfa945a604487cc5a52e026dd947dabaebdf851c5245cc"), looks := false }, kinds := [], alts := [], laidByText := true, laidKinds := [.data], laidTests := true, laidLooks := .later }
def PrefixKeepsCardSaid : Prop := Claim7.holds Tryz.pinned (.plain (OpenSpec.ofChange prefixKeepsSpec)) prefixKeepsCard

/-- THE SECOND FORM's CARD OF 'cantileverlaw18.PrefixKeeps'. -/
def prefixKeepsUptoCard : Claim7 := { stood := { row := prefixKeepsUptoRow, standIns := [], harness := (true, "b6f9b0dbb95d5f0a01bfa945a604487cc5a52e026dd947dabaebdf851c5245cc"), looks := false }, kinds := [], alts := [], laidByText := true, laidKinds := [.data], laidTests := true, laidLooks := .later }
def PrefixKeepsUptoCardSaid : Prop := Claim7.holds Tryz.pinned (.plain (OpenSpec.upto prefixKeepsSpec)) prefixKeepsUptoCard
end Rows
end Go.Proofs.YtefobdmgflipjaaGreatDoor
