/-
  DERIVED. GIVEN WITH THE SEED: THE CARDS: each row of YtjhpgccalopngaaGreatDoorRows.lean that lists a variable, with what it lists TIED to the program's text (the seventh form; the later family's looks); each row that meets fmt, with fmt's text TOLD by the authors' own Lean function (tested against real Go, not proved from fmt's source: count such statements apart). THE CARD IS WHAT COUNTS. Prove the row's statement (the work); the ties are given (YtjhpgccalopngaaGreatDoorTie.lean); close each card by the builder's one call (the guide's Derived/Test/ToyasCard.lean, 'card_holds'). Laid BY PROGRAM, IN A SANDBOX (cutbox-door.mjs). By AI agents, Wed Nov 11 2026. No macro, syntax, notation, axiom, sorry.
-/
import Derived.Test.YtjhpgccalopngaaGreatDoorRows
import GoSem.ClaimSeven
namespace Go.Proofs.YtjhpgccalopngaaGreatDoor
namespace Rows

/-- THE TIED CARD OF 'cantileverlaw16.ModelWeaker'. -/
def modelWeakerCard : Claim7 := { stood := { row := modelWeakerRow, standIns := [], harness := (true, "826756e7f5c3af255b482ae29c90a593f0113275c8e2c2347849b2ddb63628cb"), looks := false }, kinds := [], alts := [], laidByText := true, laidKinds := [.data], laidTests := true, laidLooks := .later }
def ModelWeakerCardSaid : Prop := Claim7.holds Tryz.pinned (.plain (OpenSpec.ofChange modelWeakerSpec)) modelWeakerCard

/-- THE SECOND FORM's CARD OF 'cantileverlaw16.ModelWeaker'. -/
def modelWeakerUptoCard : Claim7 := { stood := { row := modelWeakerUptoRow, standIns := [], harness := (true, "826756e7f5c3af255b482ae29c90a593f0113275c8e2c2347849b2ddb63628cb"), looks := false }, kinds := [], alts := [], laidByText := true, laidKinds := [.data], laidTests := true, laidLooks := .later }
def ModelWeakerUptoCardSaid : Prop := Claim7.holds Tryz.pinned (.plain (OpenSpec.upto modelWeakerSpec)) modelWeakerUptoCard
end Rows
end Go.Proofs.YtjhpgccalopngaaGreatDoor
