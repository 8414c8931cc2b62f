/-
  A slice that came in reads as a list, where each of its elements reads.
-/
import Derived.Test.YtngippiilgdnoaaMcae
import Derived.Test.YtngippiilgdnoaaMcag
set_option maxRecDepth 100000
set_option maxHeartbeats 25600000
namespace Go.Proofs.Ytngippiilgdnoaa
open Go.ChangeShapes Go.WideShapes Go.ChangeAt Go.RowKit Go.Deep
section
variable {H : Type} {enc : TypeId × Value → H}
end
end Go.Proofs.Ytngippiilgdnoaa
