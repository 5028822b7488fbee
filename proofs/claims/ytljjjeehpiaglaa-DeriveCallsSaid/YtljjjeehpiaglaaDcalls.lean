/- Of any graph, any location, order and number, the law cantileverlaw15.DeriveCalls returns true: what the program derives of a graph is what the document's definition tells, and the arguments read behind the call as they read before.
   No condition beyond the given row's own. -/
import Derived.Test.YtljjjeehpiaglaaDC8
namespace Go.Proofs.Ytljjjeehpiaglaa
theorem deriveCalls_holds : Rows.DeriveCallsSaid := Go.AL.Rl.DeriveCalls.said
end Go.Proofs.Ytljjjeehpiaglaa
