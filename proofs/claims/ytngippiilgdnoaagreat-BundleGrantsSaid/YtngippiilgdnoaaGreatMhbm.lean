/-
  The walk of the laws' alive of chapter 44, and of the law of Prorate: they return true.
-/
import Derived.Test.YtngippiilgdnoaaGreatMhba
import Derived.Test.YtngippiilgdnoaaGreatMhbl
set_option maxRecDepth 100000
set_option maxHeartbeats 25600000
namespace Go.Proofs.YtngippiilgdnoaaGreat
open Go.RowKit
open Go.RowKit
end Go.Proofs.YtngippiilgdnoaaGreat
