/-
  DeriveNames, for every input: the call returns true (the given row, nothing ahead of it). No condition of its own.
-/
import Derived.Test.YtffobfcddfppnaaDn7
namespace Go.Proofs.Ytffobfcddfppnaa
theorem deriveNames_holds : Rows.DeriveNamesSaid := Go.AL.Rl.DeriveNames.said
end Go.Proofs.Ytffobfcddfppnaa
