/-
  An argument that is a slice of products, opened.
-/
import Derived.Test.YtngippiilgdnoaaMcae
import Derived.Test.YtngippiilgdnoaaMcbc
set_option maxRecDepth 100000
set_option maxHeartbeats 25600000
namespace Go.Proofs.Ytngippiilgdnoaa
open Go.ChangeShapes Go.WideShapes Go.ChangeAt Go.RowKit Go.Deep
theorem Try.stringCells1 : Try.prog.cellsOf 9 = 1 := by kernel_rfl
theorem Try.boolCells : Try.prog.cellsOf 4 = 1 := by kernel_rfl
theorem Try.textsCells : Try.prog.cellsOf 22 = 1 := by kernel_rfl
section
variable {H : Type} {enc : TypeId × Value → H}
end
end Go.Proofs.Ytngippiilgdnoaa
