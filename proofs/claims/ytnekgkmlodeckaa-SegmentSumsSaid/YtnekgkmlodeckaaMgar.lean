/-
  The numbers of the library's sorting functions at this seat: each laying is a table of numbers and one theorem, a field a fact of the program's own or the kernel's comparison. (Printed by the kit's lay-plain.)
-/
import Derived.Shelf.SlLaysH
import Derived.Ground.SlgfProg
import Derived.Test.YtnekgkmlodeckaaProg
namespace Go.Proofs.Ytnekgkmlodeckaa
open Go.Shelf
def Try.delInts_ren : Go.Shelf.Ren := ⟨fun | 10 => 102 | 6 => 130 | n => n, fun | 22 => 38 | 23 => 3 | 25 => 142 | 3 => 3 | 4 => 4 | 0 => 0 | n => n, fun | n => n⟩
theorem Try.delInts : Go.Proofs.SlLaysH.n10 Try.prog Try.delInts_ren := {
  mixed := by kernel_rfl
  f6 := ⟨Try.f130.name, by decide, Try.func130.trans (congrArg some (by kernel_rfl))⟩
  f10 := ⟨Try.f102.name, by decide, Try.func102.trans (congrArg some (by kernel_rfl))⟩
  t0 := Try.underlying0
  a0 := Try.isAgg0
  z0 := Try.sizeOf0
  v0 := Try.zeroValue0
  t3 := Try.underlying3
  a3 := Try.isAgg3
  z3 := Try.sizeOf3
  v3 := Try.zeroValue3
  t4 := Try.underlying4
  a4 := Try.isAgg4
  z4 := Try.sizeOf4
  v4 := Try.zeroValue4
  t22 := Try.underlying38
  a22 := Try.isAgg38
  z22 := Try.sizeOf38
  v22 := Try.zeroValue38
  a23 := Try.isAgg3
  z23 := Try.sizeOf3
  t25 := Try.underlying142
  a25 := Try.isAgg142
  z25 := Try.sizeOf142
  v25 := Try.zeroValue142 }
end Go.Proofs.Ytnekgkmlodeckaa
