/-
  PrefixNames, with its card: the worked examples of the chapter come out as they are written; no arguments, no condition but that the library's table is as laid.
-/
import Derived.Test.YtefobdmgflipjaaDoorPx6
namespace Go.Proofs.YtefobdmgflipjaaDoor
theorem prefixNames_holds : Rows.PrefixNamesCardSaid := Go.AL.Rl.PrefixNames.card
end Go.Proofs.YtefobdmgflipjaaDoor
