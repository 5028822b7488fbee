/-
  DERIVED. GIVEN WITH THE SEED: THE CARDS: each row of YtmhkblagbfaflaaDoorRows.lean that lists a variable, with what it lists TIED to the program's text (the seventh form; the later family's looks); each row that meets fmt, with fmt's text TOLD by the authors' own Lean function (tested against real Go, not proved from fmt's source: count such statements apart). THE CARD IS WHAT COUNTS. Prove the row's statement (the work); the ties are given (YtmhkblagbfaflaaDoorTie.lean); close each card by the builder's one call (the guide's Derived/Test/ToyasCard.lean, 'card_holds'). Laid BY PROGRAM, IN A SANDBOX (cutbox-door.mjs). By AI agents, Wed Nov 11 2026. No macro, syntax, notation, axiom, sorry.
-/
import Derived.Test.YtmhkblagbfaflaaDoorRows
import GoSem.ClaimSeven
namespace Go.Proofs.YtmhkblagbfaflaaDoor
namespace Rows

/-- THE TIED CARD OF 'cantileverlaw01.RelReach'. -/
def relReachCard : Claim7 := { stood := { row := relReachRow, standIns := [], harness := (true, "57e09731b57539553413636e48efcef2244e104071d8fe934e5548e04064878a"), looks := false }, kinds := [], alts := [], laidByText := true, laidKinds := [.data], laidTests := true, laidLooks := .later }
def RelReachCardSaid : Prop := Claim7.holds Tryd.pinned (.plain (OpenSpec.ofChange relReachSpec)) relReachCard

/-- THE TIED CARD OF 'cantileverlaw01.RelMakes'. -/
def relMakesCard : Claim7 := { stood := { row := relMakesRow, standIns := [], harness := (true, "57e09731b57539553413636e48efcef2244e104071d8fe934e5548e04064878a"), looks := false }, kinds := [], alts := [], laidByText := true, laidKinds := [.data], laidTests := true, laidLooks := .later }
def RelMakesCardSaid : Prop := Claim7.holds Tryd.pinned (.plain (OpenSpec.ofChange relMakesSpec)) relMakesCard

/-- THE TIED CARD OF 'cantileverlaw01.RelNames'. -/
def relNamesCard : Claim7 := { stood := { row := relNamesRow, standIns := [], harness := (true, "57e09731b57539553413636e48efcef2244e104071d8fe934e5548e04064878a"), looks := false }, kinds := [], alts := [], laidByText := true, laidKinds := [.data], laidTests := true, laidLooks := .later }
def RelNamesCardSaid : Prop := Claim7.holds Tryd.pinned (.plain (OpenSpec.ofChange relNamesSpec)) relNamesCard

/-- THE TIED CARD OF 'cantileverlaw01.RelAlgebra'. -/
def relAlgebraCard : Claim7 := { stood := { row := relAlgebraRow, standIns := [], harness := (true, "57e09731b57539553413636e48efcef2244e104071d8fe934e5548e04064878a"), looks := false }, kinds := [], alts := [], laidByText := true, laidKinds := [.data], laidTests := true, laidLooks := .later }
def RelAlgebraCardSaid : Prop := Claim7.holds Tryd.pinned (.plain (OpenSpec.ofChange relAlgebraSpec)) relAlgebraCard

/-- THE TIED CARD OF 'cantileverlaw01.RelPlus'. -/
def relPlusCard : Claim7 := { stood := { row := relPlusRow, standIns := [], harness := (true, "57e09731b57539553413636e48efcef2244e104071d8fe934e5548e04064878a"), looks := false }, kinds := [], alts := [], laidByText := true, laidKinds := [.data], laidTests := true, laidLooks := .later }
def RelPlusCardSaid : Prop := Claim7.holds Tryd.pinned (.plain (OpenSpec.ofChange relPlusSpec)) relPlusCard

/-- THE TIED CARD OF 'cantileverlaw01.RelCalls'. -/
def relCallsCard : Claim7 := { stood := { row := relCallsRow, standIns := [], harness := (true, "57e09731b57539553413636e48efcef2244e104071d8fe934e5548e04064878a"), looks := false }, kinds := [], alts := [], laidByText := true, laidKinds := [.data], laidTests := true, laidLooks := .later }
def RelCallsCardSaid : Prop := Claim7.holds Tryd.pinned (.plain (OpenSpec.ofChange relCallsSpec)) relCallsCard

/-- THE SECOND FORM's CARD OF 'cantileverlaw01.RelReach'. -/
def relReachUptoCard : Claim7 := { stood := { row := relReachUptoRow, standIns := [], harness := (true, "57e09731b57539553413636e48efcef2244e104071d8fe934e5548e04064878a"), looks := false }, kinds := [], alts := [], laidByText := true, laidKinds := [.data], laidTests := true, laidLooks := .later }
def RelReachUptoCardSaid : Prop := Claim7.holds Tryd.pinned (.plain (OpenSpec.upto relReachSpec)) relReachUptoCard

/-- THE SECOND FORM's CARD OF 'cantileverlaw01.RelMakes'. -/
def relMakesUptoCard : Claim7 := { stood := { row := relMakesUptoRow, standIns := [], harness := (true, "57e09731b57539553413636e48efcef2244e104071d8fe934e5548e04064878a"), looks := false }, kinds := [], alts := [], laidByText := true, laidKinds := [.data], laidTests := true, laidLooks := .later }
def RelMakesUptoCardSaid : Prop := Claim7.holds Tryd.pinned (.plain (OpenSpec.upto relMakesSpec)) relMakesUptoCard

/-- THE SECOND FORM's CARD OF 'cantileverlaw01.RelNames'. -/
def relNamesUptoCard : Claim7 := { stood := { row := relNamesUptoRow, standIns := [], harness := (true, "57e09731b57539553413636e48efcef2244e104071d8fe934e5548e04064878a"), looks := false }, kinds := [], alts := [], laidByText := true, laidKinds := [.data], laidTests := true, laidLooks := .later }
def RelNamesUptoCardSaid : Prop := Claim7.holds Tryd.pinned (.plain (OpenSpec.upto relNamesSpec)) relNamesUptoCard

/-- THE SECOND FORM's CARD OF 'cantileverlaw01.RelAlgebra'. -/
def relAlgebraUptoCard : Claim7 := { stood := { row := relAlgebraUptoRow, standIns := [], harness := (true, "57e09731b57539553413636e48efcef2244e104071d8fe934e5548e04064878a"), looks := false }, kinds := [], alts := [], laidByText := true, laidKinds := [.data], laidTests := true, laidLooks := .later }
def RelAlgebraUptoCardSaid : Prop := Claim7.holds Tryd.pinned (.plain (OpenSpec.upto relAlgebraSpec)) relAlgebraUptoCard

/-- THE SECOND FORM's CARD OF 'cantileverlaw01.RelPlus'. -/
def relPlusUptoCard : Claim7 := { stood := { row := relPlusUptoRow, standIns := [], harness := (true, "57e09731b57539553413636e48efcef2244e104071d8fe934e5548e04064878a"), looks := false }, kinds := [], alts := [], laidByText := true, laidKinds := [.data], laidTests := true, laidLooks := .later }
def RelPlusUptoCardSaid : Prop := Claim7.holds Tryd.pinned (.plain (OpenSpec.upto relPlusSpec)) relPlusUptoCard

/-- THE SECOND FORM's CARD OF 'cantileverlaw01.RelCalls'. -/
def relCallsUptoCard : Claim7 := { stood := { row := relCallsUptoRow, standIns := [], harness := (true, "57e09731b57539553413636e48efcef2244e104071d8fe934e5548e04064878a"), looks := false }, kinds := [], alts := [], laidByText := true, laidKinds := [.data], laidTests := true, laidLooks := .later }
def RelCallsUptoCardSaid : Prop := Claim7.holds Tryd.pinned (.plain (OpenSpec.upto relCallsSpec)) relCallsUptoCard
end Rows
end Go.Proofs.YtmhkblagbfaflaaDoor
