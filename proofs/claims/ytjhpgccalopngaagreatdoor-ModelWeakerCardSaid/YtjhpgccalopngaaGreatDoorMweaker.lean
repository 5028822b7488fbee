/- The law cantileverlaw16.ModelWeaker returns true of every graph: what may happen one step after the other may happen by release and acquire, and an order that explains it has all that it must; the card of the row, the library's table tied.
   No condition beyond the given card's own. -/
import Derived.Test.YtjhpgccalopngaaGreatDoorMw8
namespace Go.Proofs.YtjhpgccalopngaaGreatDoor
theorem modelWeaker_holds : Rows.ModelWeakerCardSaid := Go.AL.Rl.ModelWeaker.card
end Go.Proofs.YtjhpgccalopngaaGreatDoor
