/-
  The walks of the reference's Has and of its list of the products of a subscription.
-/
import Derived.Test.YtngippiilgdnoaaGreatMhbg
import Derived.Test.YtngippiilgdnoaaGreatMhaw
set_option maxRecDepth 100000
set_option maxHeartbeats 25600000
namespace Go.Proofs.YtngippiilgdnoaaGreat
open Go.RowKit
open Go.RowKit
end Go.Proofs.YtngippiilgdnoaaGreat
