/- RaceTurned, for every input: the call returns true, and the arguments read behind the call as they read before (the given row, nothing ahead of it).
No conditions beyond the statement's own. -/
import Derived.Test.YtjoggeafcdfidaaRt7
namespace Go.Proofs.Ytjoggeafcdfidaa
theorem raceTurned_holds : Rows.RaceTurnedSaid := Go.AL.Rl.RaceTurned.said
end Go.Proofs.Ytjoggeafcdfidaa
