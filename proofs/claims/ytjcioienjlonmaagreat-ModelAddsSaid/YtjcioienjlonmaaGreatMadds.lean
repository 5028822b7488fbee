/- From whom one may read, and where a write may stand, is what the document says: the program's model.Sources and model.Places answer as the document's do, at every graph, model, thread, question and event.
No conditions beyond the statement's own. -/
import Derived.Test.YtjcioienjlonmaaGreatMa9
namespace Go.Proofs.YtjcioienjlonmaaGreat
theorem modelAdds_holds : Rows.ModelAddsSaid := Go.AL.Rl.ModelAdds.said
end Go.Proofs.YtjcioienjlonmaaGreat
