/-
  RelPlus, for any two relations: the call returns true, and each argument reads behind the call as it read before (the given card, nothing ahead of it). The condition is the row's own: the library's table of trailing zeros reads, when the call begins, as the program's text lays it.
-/
import Derived.Test.YtmhkblagbfaflaaDoorR4
namespace Go.Proofs.YtmhkblagbfaflaaDoor
theorem relPlus_holds : Rows.RelPlusCardSaid := Go.AL.Rl.RelPlus.card
end Go.Proofs.YtmhkblagbfaflaaDoor
