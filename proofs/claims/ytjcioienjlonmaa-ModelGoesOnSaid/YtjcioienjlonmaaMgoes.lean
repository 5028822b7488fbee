/- Consistent graphs can always go on, and stay so when something that nobody read from is taken away: the last write is among the sources, a write has its last place, and a graph without a thread's last unread event stays consistent.
No conditions beyond the statement's own. -/
import Derived.Test.YtjcioienjlonmaaMg8
namespace Go.Proofs.Ytjcioienjlonmaa
theorem modelGoesOn_holds : Rows.ModelGoesOnSaid := Go.AL.Rl.ModelGoesOn.said
end Go.Proofs.Ytjcioienjlonmaa
