/-
  The numbers of the library's sorting functions at this seat: each laying is a table of numbers and one theorem, a field a fact of the program's own or the kernel's comparison. (Printed by the kit's lay-plain.)
-/
import Derived.Shelf.SlLaysF0
import Derived.Ground.SlsfProg
import Derived.Test.YtngippiilgdnoaaProg
import Derived.Test.YtngippiilgdnoaaMcroot
set_option maxRecDepth 100000
set_option maxHeartbeats 25600000
namespace Go.Proofs.Ytngippiilgdnoaa
open Go.Shelf
def Try.sortCh_ren : Go.Shelf.Ren := ⟨fun | 6 => 45 | 15 => 56 | 14 => 55 | 28 => 68 | 29 => 69 | 20 => 60 | 21 => 61 | 22 => 62 | 23 => 63 | 24 => 64 | 25 => 65 | 26 => 66 | 27 => 67 | 46 => 72 | 47 => 73 | 48 => 74 | 49 => 75 | 50 => 76 | 57 => 77 | n => n, fun | 22 => 100 | 24 => 102 | 25 => 105 | 3 => 3 | 39 => 123 | 0 => 0 | 53 => 136 | 55 => 138 | 4 => 4 | 46 => 129 | 45 => 128 | 50 => 133 | 5 => 5 | 9 => 9 | 66 => 140 | 70 => 144 | 76 => 146 | 77 => 147 | n => n, fun | n => n⟩
theorem Try.sortCh : Go.Proofs.SlLaysF0.n6 Try.prog Try.sortCh_ren := {
 mixed := by kernel_rfl
 f6 := ⟨Try.f45.name, by decide, Try.func45.trans (congrArg some (by kernel_rfl))⟩
 f14 := ⟨Try.f55.name, by decide, Try.func55.trans (congrArg some (by kernel_rfl))⟩
 f15 := Try.func56.trans (congrArg some (by kernel_rfl))
 f20 := ⟨Try.f60.name, by decide, Try.func60.trans (congrArg some (by kernel_rfl))⟩
 f21 := ⟨Try.f61.name, by decide, Try.func61.trans (congrArg some (by kernel_rfl))⟩
 f22 := ⟨Try.f62.name, by decide, Try.func62.trans (congrArg some (by kernel_rfl))⟩
 f23 := ⟨Try.f63.name, by decide, Try.func63.trans (congrArg some (by kernel_rfl))⟩
 f24 := ⟨Try.f64.name, by decide, Try.func64.trans (congrArg some (by kernel_rfl))⟩
 f25 := ⟨Try.f65.name, by decide, Try.func65.trans (congrArg some (by kernel_rfl))⟩
 f26 := ⟨Try.f66.name, by decide, Try.func66.trans (congrArg some (by kernel_rfl))⟩
 f27 := ⟨Try.f67.name, by decide, Try.func67.trans (congrArg some (by kernel_rfl))⟩
 f28 := Try.func68.trans (congrArg some (by kernel_rfl))
 f29 := Try.func69.trans (congrArg some (by kernel_rfl))
 f46 := ⟨Try.f72.name, by decide, Try.func72.trans (congrArg some (by kernel_rfl))⟩
 f47 := Try.func73.trans (congrArg some (by kernel_rfl))
 f48 := Try.func74.trans (congrArg some (by kernel_rfl))
 f49 := ⟨Try.f75.name, by decide, Try.func75.trans (congrArg some (by kernel_rfl))⟩
 f50 := ⟨Try.f76.name, by decide, Try.func76.trans (congrArg some (by kernel_rfl))⟩
 f57 := ⟨Try.f77.name, by decide, Try.func77.trans (congrArg some (by kernel_rfl))⟩
 t0 := Try.underlying0
 a0 := Try.isAgg0
 z0 := Try.sizeOf0
 v0 := Try.zeroValue0
 t3 := Try.underlying3
 a3 := Try.isAgg3
 z3 := Try.sizeOf3
 v3 := Try.zeroValue3
 t4 := Try.underlying4
 a4 := Try.isAgg4
 z4 := Try.sizeOf4
 v4 := Try.zeroValue4
 t5 := Try.underlying5
 a5 := Try.isAgg5
 z5 := Try.sizeOf5
 v5 := Try.zeroValue5
 t9 := Try.underlying9
 a9 := Try.isAgg9
 z9 := Try.sizeOf9
 v9 := Try.zeroValue9
 t22 := Try.underlying100
 a22 := Try.isAgg100
 z22 := Try.sizeOf100
 v22 := Try.zeroValue100
 t25 := Try.underlying105
 a25 := Try.isAgg105
 z25 := Try.sizeOf105
 v25 := Try.zeroValue105
 t39 := Try.underlying123
 a39 := Try.isAgg123
 z39 := Try.sizeOf123
 v39 := Try.zeroValue123
 t45 := Try.underlying128
 a45 := Try.isAgg128
 z45 := Try.sizeOf128
 v45 := Try.zeroValue128
 t46 := Try.underlying129
 a46 := Try.isAgg129
 z46 := Try.sizeOf129
 v46 := Try.zeroValue129
 t50 := Try.underlying133
 a50 := Try.isAgg133
 z50 := Try.sizeOf133
 v50 := Try.zeroValue133
 t53 := Try.underlying136
 a53 := Try.isAgg136
 z53 := Try.sizeOf136
 v53 := Try.zeroValue136
 t55 := Try.underlying138
 a55 := Try.isAgg138
 z55 := Try.sizeOf138
 v55 := Try.zeroValue138
 t66 := Try.underlying140
 a66 := Try.isAgg140
 z66 := Try.sizeOf140
 v66 := Try.zeroValue140
 t70 := Try.underlying144
 a70 := Try.isAgg144
 z70 := Try.sizeOf144
 v70 := Try.zeroValue144
 t76 := Try.underlying146
 a76 := Try.isAgg146
 z76 := Try.sizeOf146
 v76 := Try.zeroValue146
 t77 := Try.underlying147
 a77 := Try.isAgg147
 z77 := Try.sizeOf147
 v77 := Try.zeroValue147 }
end Go.Proofs.Ytngippiilgdnoaa
