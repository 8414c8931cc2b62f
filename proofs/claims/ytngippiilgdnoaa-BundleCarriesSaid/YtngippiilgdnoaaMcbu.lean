/-
  Arguments that are events, opened; arrays of three numbers.
-/
import Derived.Test.YtngippiilgdnoaaMcau
import Derived.Test.YtngippiilgdnoaaMcam
set_option maxRecDepth 100000
set_option maxHeartbeats 25600000
namespace Go.Proofs.Ytngippiilgdnoaa
open Go.ChangeShapes Go.WideShapes Go.ChangeAt Go.RowKit Go.Deep
theorem Try.textCells17 : Try.prog.cellsOf 9 = 1 := by kernel_rfl
section
variable {H : Type} {enc : TypeId × Value → H}
end
end Go.Proofs.Ytngippiilgdnoaa
