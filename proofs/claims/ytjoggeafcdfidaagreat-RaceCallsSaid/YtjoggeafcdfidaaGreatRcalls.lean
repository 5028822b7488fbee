/- RaceCalls, for every input: the call returns true, and the arguments read behind the call as they read before (the given row, nothing ahead of it).
No conditions beyond the statement's own. -/
import Derived.Test.YtjoggeafcdfidaaGreatRc8
namespace Go.Proofs.YtjoggeafcdfidaaGreat
theorem raceCalls_holds : Rows.RaceCallsSaid := Go.AL.Rl.RaceCalls.said
end Go.Proofs.YtjoggeafcdfidaaGreat
