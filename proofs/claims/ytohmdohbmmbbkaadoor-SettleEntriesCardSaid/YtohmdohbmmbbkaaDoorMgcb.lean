/-
  A statement that came in, opened; the table of powers of ten that the row lists.
-/
import Derived.Test.YtohmdohbmmbbkaaDoorMgbi
import Derived.Test.YtohmdohbmmbbkaaDoorRows
import Derived.LaidMore
import Derived.Stop.Joined
import Derived.Lib.LaidTab
import Derived.Lib.SmallJoins
import Derived.Shelf.Strconv.Itoa3
import Derived.Stop.LaidErr
import Derived.Sort.Grow
namespace Go.Proofs.YtohmdohbmmbbkaaDoor
open Go Go.ChangeShapes Go.WideShapes Go.ChangeAt Go.RowKit Go.Deep

theorem Tryd.stmCells51 : Tryd.prog.cellsOf 32 = 5 := by kernel_rfl
theorem Tryd.chsCells51 : Tryd.prog.cellsOf 30 = 1 := by kernel_rfl
theorem Tryd.chCells51 : Tryd.prog.cellsOf 49 = 5 := by kernel_rfl
theorem Tryd.gPow : Tryd.prog.globalNamed "internal/strconv.uint64pow10" = some 0 := by kernel_rfl
section
variable {H : Type} {enc : TypeId × Value → H}
theorem open_stm {W : World} {sp : Nat → Bool} {fuel : Nat} {cs : List Value} {x : DataW H × List MemPlace} (hl : cs.length = 5) (h : DataW.trod enc Tryd.prog W 0 sp true fuel 32 cs = some x) :
    ∃ (pa mf mt : Int) (ca : Option Addr) (cn cc : Nat) (net : Int), cs = [.int .i64 pa, .int .i64 mf, .int .i64 mt, .slice ca cn cc, .int .i64 net] ∧ cn ≤ maxLen ∧ (-9223372036854775808 ≤ pa ∧ pa ≤ 9223372036854775807) := by
  obtain ⟨pa, e0, wp⟩ := int_field Tryd.underlying32 h Tryd.underlying3 Tryd.intCells 0 0 rfl
  obtain ⟨n2, y2, e1⟩ := struct_field Tryd.underlying32 h 1 1 25 2 rfl Tryd.periodCells
  obtain ⟨n, y, e3⟩ := struct_field Tryd.underlying32 h 2 3 30 1 rfl Tryd.chsCells51
  obtain ⟨net, e4, -⟩ := int_field Tryd.underlying32 h Tryd.underlying3 Tryd.intCells 3 4 rfl
  match cs, hl with
  | [v0, v1, v2, v3, v4], _ =>
    simp only [List.drop, List.take, List.cons.injEq, and_true] at e0 e1 e3 e4
    subst e0; subst e4
    obtain ⟨f, t, he, -, -⟩ := open_period rfl e1
    simp only [List.cons.injEq, and_true] at he
    obtain ⟨rfl, rfl⟩ := he
    obtain ⟨ca, cn, cc, rfl, hcn, hcm, -⟩ := slice_cells Tryd.underlying30 Tryd.chCells51 (by omega) e3
    exact ⟨pa, f, t, ca, cn, cc, net, rfl, Nat.le_trans hcn hcm, wp⟩
end
theorem below_grow_drewN (w : World) (k : Nat) (os : Array Obj) : Below w.heap.size w (Go.Sort.grow (w.drewN k) os) := by
  refine ⟨rfl, rfl, rfl, ?_, fun i hi => ?_⟩
  · simp [Go.Sort.grow]
  · exact Go.Sort.heap_grow_old _ _ (by simpa using hi)
theorem pow10_of_laid {W : World} (h : laidMetH Tryd.prog Rows.settleEntriesRow.laid W) : Lib.TabIs Tryd.prog W "internal/strconv.uint64pow10" .u64 Lib.pow10Tab := by
  rw [MakeChecks.laidMetH_plain _ _ _ (by kernel_rfl)] at h
  have h3 : laidMet Tryd.prog [("internal/strconv.uint64pow10", Lib.tabData .u64 Lib.pow10Tab)] W := h.tail.tail
  exact Lib.tabIs_of_head Tryd.gPow (by kernel_rfl : (Tryd.prog.globals[0]?).map (·.type) = some 138) Tryd.underlying138 Tryd.underlying120 (by kernel_rfl) (by kernel_rfl) h3
end Go.Proofs.YtohmdohbmmbbkaaDoor
