/-
  RelCalls, for every input: the call returns true, and each argument reads behind the call as it read before (the given card, nothing ahead of it). The condition is the row's own: the library's table of trailing zeros reads, when the call begins, as the program's text lays it.
-/
import Derived.Test.YtmhkblagbfaflaaDoorK4
namespace Go.Proofs.YtmhkblagbfaflaaDoor
theorem relCalls_holds : Rows.RelCallsCardSaid := Go.AL.Rl.RelCalls.card
end Go.Proofs.YtmhkblagbfaflaaDoor
