/-
  DERIVED. GIVEN WITH THE SEED: THE CARDS: each row of YtjhpgccalopngaaDoorRows.lean that lists a variable, with what it lists TIED to the program's text (the seventh form; the later family's looks); each row that meets fmt, with fmt's text TOLD by the authors' own Lean function (tested against real Go, not proved from fmt's source: count such statements apart). THE CARD IS WHAT COUNTS. Prove the row's statement (the work); the ties are given (YtjhpgccalopngaaDoorTie.lean); close each card by the builder's one call (the guide's Derived/Test/ToyasCard.lean, 'card_holds'). Laid BY PROGRAM, IN A SANDBOX (cutbox-door.mjs). By AI agents, Wed Nov 11 2026. No macro, syntax, notation, axiom, sorry.
-/
import Derived.Test.YtjhpgccalopngaaDoorRows
import GoSem.ClaimSeven
namespace Go.Proofs.YtjhpgccalopngaaDoor
namespace Rows

/-- THE TIED CARD OF 'cantileverlaw16.ModelNames'. -/
def modelNamesCard : Claim7 := { stood := { row := modelNamesRow, standIns := [], harness := (true, "20c26c578ba412ff7945e359648cda83aabe27cd9be293caeb32c74d79133d7b"), looks := false }, kinds := [], alts := [], laidByText := true, laidKinds := [.data], laidTests := true, laidLooks := .later }
def ModelNamesCardSaid : Prop := Claim7.holds Tryd.pinned (.plain (OpenSpec.ofChange modelNamesSpec)) modelNamesCard

/-- THE SECOND FORM's CARD OF 'cantileverlaw16.ModelNames'. -/
def modelNamesUptoCard : Claim7 := { stood := { row := modelNamesUptoRow, standIns := [], harness := (true, "20c26c578ba412ff7945e359648cda83aabe27cd9be293caeb32c74d79133d7b"), looks := false }, kinds := [], alts := [], laidByText := true, laidKinds := [.data], laidTests := true, laidLooks := .later }
def ModelNamesUptoCardSaid : Prop := Claim7.holds Tryd.pinned (.plain (OpenSpec.upto modelNamesSpec)) modelNamesUptoCard
end Rows
end Go.Proofs.YtjhpgccalopngaaDoor
