/-
  DeriveGrows, for every input: the call returns true, and the arguments read behind the call as they read before (the given row, nothing ahead of it). No condition of its own.
-/
import Derived.Test.YtbpebafmnnofjaaDg7
namespace Go.Proofs.Ytbpebafmnnofjaa
theorem deriveGrows_holds : Rows.DeriveGrowsSaid := Go.AL.Rl.DeriveGrows.said
end Go.Proofs.Ytbpebafmnnofjaa
