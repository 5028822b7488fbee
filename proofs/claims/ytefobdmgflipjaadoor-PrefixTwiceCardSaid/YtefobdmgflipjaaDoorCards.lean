/-
  DERIVED. GIVEN WITH THE SEED: THE CARDS: each row of YtefobdmgflipjaaDoorRows.lean that lists a variable, with what it lists TIED to the program's text (the seventh form; the later family's looks); each row that meets fmt, with fmt's text TOLD by the authors' own Lean function (tested against real Go, not proved from fmt's source: count such statements apart). THE CARD IS WHAT COUNTS. Prove the row's statement (the work); the ties are given (YtefobdmgflipjaaDoorTie.lean); close each card by the builder's one call (the guide's Derived/Test/ToyasCard.lean, 'card_holds'). Laid BY PROGRAM, IN A SANDBOX (cutbox-door.mjs). By AI agents, Wed Nov 11 2026. No macro, syntax, notation, axiom, sorry.
-/
import Derived.Test.YtefobdmgflipjaaDoorRows
import GoSem.ClaimSeven
namespace Go.Proofs.YtefobdmgflipjaaDoor
namespace Rows

/-- THE TIED CARD OF 'cantileverlaw18.PrefixNames'. -/
def prefixNamesCard : Claim7 := { stood := { row := prefixNamesRow, standIns := [], harness := (true, "1e02910a4df6780579e19771f9724b4e34268e8a66a578d202137a22cf0c19a9"), looks := false }, kinds := [], alts := [], laidByText := true, laidKinds := [.data], laidTests := true, laidLooks := .later }
def PrefixNamesCardSaid : Prop := Claim7.holds Tryd.pinned (.plain (OpenSpec.ofChange prefixNamesSpec)) prefixNamesCard

/-- THE TIED CARD OF 'cantileverlaw18.PrefixTwice'. -/
def prefixTwiceCard : Claim7 := { stood := { row := prefixTwiceRow, standIns := [], harness := (true, "1e02910a4df6780579e19771f9724b4e34268e8a66a578d202137a22cf0c19a9"), looks := false }, kinds := [], alts := [], laidByText := true, laidKinds := [.data], laidTests := true, laidLooks := .later }
def PrefixTwiceCardSaid : Prop := Claim7.holds Tryd.pinned (.plain (OpenSpec.ofChange prefixTwiceSpec)) prefixTwiceCard

/-- THE SECOND FORM's CARD OF 'cantileverlaw18.PrefixNames'. -/
def prefixNamesUptoCard : Claim7 := { stood := { row := prefixNamesUptoRow, standIns := [], harness := (true, "1e02910a4df6780579e19771f9724b4e34268e8a66a578d202137a22cf0c19a9"), looks := false }, kinds := [], alts := [], laidByText := true, laidKinds := [.data], laidTests := true, laidLooks := .later }
def PrefixNamesUptoCardSaid : Prop := Claim7.holds Tryd.pinned (.plain (OpenSpec.upto prefixNamesSpec)) prefixNamesUptoCard

/-- THE SECOND FORM's CARD OF 'cantileverlaw18.PrefixTwice'. -/
def prefixTwiceUptoCard : Claim7 := { stood := { row := prefixTwiceUptoRow, standIns := [], harness := (true, "1e02910a4df6780579e19771f9724b4e34268e8a66a578d202137a22cf0c19a9"), looks := false }, kinds := [], alts := [], laidByText := true, laidKinds := [.data], laidTests := true, laidLooks := .later }
def PrefixTwiceUptoCardSaid : Prop := Claim7.holds Tryd.pinned (.plain (OpenSpec.upto prefixTwiceSpec)) prefixTwiceUptoCard
end Rows
end Go.Proofs.YtefobdmgflipjaaDoor
