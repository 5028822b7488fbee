/-
  DeriveHolds, for every input: the call returns true, and the argument reads behind the call as it read before (the given row, nothing ahead of it). No condition of its own.
-/
import Derived.Test.YtffobfcddfppnaaDh8
namespace Go.Proofs.Ytffobfcddfppnaa
theorem deriveHolds_holds : Rows.DeriveHoldsSaid := Go.AL.Rl.DeriveHolds.said
end Go.Proofs.Ytffobfcddfppnaa
