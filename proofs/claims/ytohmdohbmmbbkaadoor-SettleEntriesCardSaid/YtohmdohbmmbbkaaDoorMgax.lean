/-
  The numbers of the library's sorting functions at this seat: each laying is a table of numbers and one theorem, a field a fact of the program's own or the kernel's comparison. (Printed by the kit's lay-plain.)
-/
import Derived.Shelf.SlLaysF0
import Derived.Ground.SlsfProg
import Derived.Test.YtohmdohbmmbbkaaDoorProg
namespace Go.Proofs.YtohmdohbmmbbkaaDoor
open Go.Shelf
def Tryd.insAg_ren : Go.Shelf.Ren := ⟨fun | 20 => 62 | n => n, fun | 24 => 53 | 22 => 22 | 3 => 3 | 25 => 63 | 4 => 4 | 0 => 0 | n => n, fun | n => n⟩
theorem Tryd.insAg : Go.Proofs.SlLaysF0.n20 Tryd.prog Tryd.insAg_ren := {
  mixed := by kernel_rfl
  f20 := ⟨Tryd.f62.name, by decide, Tryd.func62.trans (congrArg some (by kernel_rfl))⟩
  t0 := Tryd.underlying0
  a0 := Tryd.isAgg0
  z0 := Tryd.sizeOf0
  v0 := Tryd.zeroValue0
  t3 := Tryd.underlying3
  a3 := Tryd.isAgg3
  z3 := Tryd.sizeOf3
  v3 := Tryd.zeroValue3
  t4 := Tryd.underlying4
  a4 := Tryd.isAgg4
  z4 := Tryd.sizeOf4
  v4 := Tryd.zeroValue4
  t22 := Tryd.underlying22
  a22 := Tryd.isAgg22
  z22 := Tryd.sizeOf22
  v22 := Tryd.zeroValue22
  t25 := Tryd.underlying63
  a25 := Tryd.isAgg63
  z25 := Tryd.sizeOf63
  v25 := Tryd.zeroValue63 }
end Go.Proofs.YtohmdohbmmbbkaaDoor
