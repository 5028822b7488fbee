/-
  RacePlain, for every input: the call returns true, and the arguments read behind the call as they read before (the given row, nothing ahead of it). No condition of its own.
-/
import Derived.Test.YtjoggeafcdfidaaRp6
namespace Go.Proofs.Ytjoggeafcdfidaa
theorem racePlain_holds : Rows.RacePlainSaid := Go.AL.Rl.RacePlain.said
end Go.Proofs.Ytjoggeafcdfidaa
