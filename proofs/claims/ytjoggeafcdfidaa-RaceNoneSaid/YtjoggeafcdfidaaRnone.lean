/- RaceNone, for every input: the call returns true, and the arguments read behind the call as they read before (the given row, nothing ahead of it).
No conditions beyond the statement's own. -/
import Derived.Test.YtjoggeafcdfidaaRn7
namespace Go.Proofs.Ytjoggeafcdfidaa
theorem raceNone_holds : Rows.RaceNoneSaid := Go.AL.Rl.RaceNone.said
end Go.Proofs.Ytjoggeafcdfidaa
