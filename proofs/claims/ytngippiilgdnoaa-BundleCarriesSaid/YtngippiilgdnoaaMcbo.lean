/-
  The walk of the laws' valid of chapter 35.
-/
import Derived.Test.YtngippiilgdnoaaMcbn
set_option maxRecDepth 100000
set_option maxHeartbeats 25600000
namespace Go.Proofs.Ytngippiilgdnoaa
open Go.RowKit
open Go.RowKit
open Go.RowKit
open Go.RowKit
end Go.Proofs.Ytngippiilgdnoaa
