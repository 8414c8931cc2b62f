/-
  The walk of the form of an event, by the fields that its kind uses.
-/
import Derived.Test.YtngippiilgdnoaaMcam
set_option maxRecDepth 100000
set_option maxHeartbeats 25600000
namespace Go.Proofs.Ytngippiilgdnoaa
open Go.RowKit
end Go.Proofs.Ytngippiilgdnoaa
