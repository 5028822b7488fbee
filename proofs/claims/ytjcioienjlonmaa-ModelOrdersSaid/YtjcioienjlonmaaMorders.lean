/- ModelOrders, for every input: the call returns true, and the arguments read behind the call as they read before (the given row, nothing ahead of it).
No conditions beyond the statement's own. -/
import Derived.Test.YtjcioienjlonmaaMo7
namespace Go.Proofs.Ytjcioienjlonmaa
theorem modelOrders_holds : Rows.ModelOrdersSaid := Go.AL.Rl.ModelOrders.said
end Go.Proofs.Ytjcioienjlonmaa
