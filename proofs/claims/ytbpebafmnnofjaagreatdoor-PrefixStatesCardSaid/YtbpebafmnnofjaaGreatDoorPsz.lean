/-
  PrefixStates: for any two states that a machine can tell, any Ids and any mark, the law's call returns true: the state's check, its cut, a mark's place, the comparison and the copy are those that the document tells, within the bounds that the law itself sets (60 events, 60 Ids); beyond them it answers true. No condition stands ahead of it but those of the given statement.
-/
import Derived.Test.YtbpebafmnnofjaaGreatDoorPs9
namespace Go.Proofs.YtbpebafmnnofjaaGreatDoor
theorem prefixStates_holds : Rows.PrefixStatesCardSaid := Go.AL.Rl.PrefixStates.card
end Go.Proofs.YtbpebafmnnofjaaGreatDoor
