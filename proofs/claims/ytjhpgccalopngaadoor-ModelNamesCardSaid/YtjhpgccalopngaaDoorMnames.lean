/- The law cantileverlaw16.ModelNames returns true: the worked examples of the chapter on models come out as it tells; the card of the row, the library's table tied.
   No condition beyond the given card's own. -/
import Derived.Test.YtjhpgccalopngaaDoorMn7
namespace Go.Proofs.YtjhpgccalopngaaDoor
theorem modelNames_holds : Rows.ModelNamesCardSaid := Go.AL.Rl.ModelNames.card
end Go.Proofs.YtjhpgccalopngaaDoor
