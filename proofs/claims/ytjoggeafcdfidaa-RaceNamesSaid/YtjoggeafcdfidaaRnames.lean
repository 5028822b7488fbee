/- RaceNames: the call returns true (the given row, nothing ahead of it).
No conditions beyond the statement's own. -/
import Derived.Test.YtjoggeafcdfidaaRm6
namespace Go.Proofs.Ytjoggeafcdfidaa
theorem raceNames_holds : Rows.RaceNamesSaid := Go.AL.Rl.RaceNames.said
end Go.Proofs.Ytjoggeafcdfidaa
