/-
  PrefixKeeps, with its card: of any graph and any list of Ids the law answers true; no condition but that the library's table is as laid.
-/
import Derived.Test.YtefobdmgflipjaaGreatDoorPk8
namespace Go.Proofs.YtefobdmgflipjaaGreatDoor
theorem prefixKeeps_holds : Rows.PrefixKeepsCardSaid := Go.AL.Rl.PrefixKeeps.card
end Go.Proofs.YtefobdmgflipjaaGreatDoor
