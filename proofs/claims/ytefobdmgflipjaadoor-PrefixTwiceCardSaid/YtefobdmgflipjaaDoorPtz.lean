/-
  PrefixTwice, with its card: of any state and any two lists of Ids the law answers true; no condition but that the library's table is as laid.
-/
import Derived.Test.YtefobdmgflipjaaDoorPt7
namespace Go.Proofs.YtefobdmgflipjaaDoor
theorem prefixTwice_holds : Rows.PrefixTwiceCardSaid := Go.AL.Rl.PrefixTwice.card
end Go.Proofs.YtefobdmgflipjaaDoor
