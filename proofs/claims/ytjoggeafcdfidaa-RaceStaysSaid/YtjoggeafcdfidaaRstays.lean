/-
  RaceStays, for every input: the call returns true, and the arguments read behind the call as they read before (the given row, nothing ahead of it). No condition of its own.
-/
import Derived.Test.YtjoggeafcdfidaaRs7
namespace Go.Proofs.Ytjoggeafcdfidaa
theorem raceStays_holds : Rows.RaceStaysSaid := Go.AL.Rl.RaceStays.said
end Go.Proofs.Ytjoggeafcdfidaa
