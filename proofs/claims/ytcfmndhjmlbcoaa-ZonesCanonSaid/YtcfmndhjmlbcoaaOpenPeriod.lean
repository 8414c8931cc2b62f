/-
  An argument that is a period, opened.
-/
import Derived.Test.YtcfmndhjmlbcoaaKit
namespace Go.Proofs.Ytcfmndhjmlbcoaa
open Go.ChangeShapes Go.WideShapes Go.ChangeAt Go.RowKit Go.Deep

theorem Try.periodCells : Try.prog.cellsOf 37 = 2 := by kernel_rfl
theorem Try.intCells2 : Try.prog.cellsOf 3 = 1 := by kernel_rfl

theorem open_period {H : Type} {enc : TypeId × Value → H} {W : World} {sp : Nat → Bool} {fuel : Nat} {cs : List Value} {x : DataW H × List MemPlace} (hl : cs.length = 2) (h : DataW.trod enc Try.prog W 0 sp true fuel 37 cs = some x) :
    ∃ f t : Int, cs = [.int .i64 f, .int .i64 t] ∧ (-9223372036854775808 ≤ f ∧ f ≤ 9223372036854775807) ∧ (-9223372036854775808 ≤ t ∧ t ≤ 9223372036854775807) := by
  obtain ⟨f, e0, b0⟩ := int_field Try.underlying37 h Try.underlying3 Try.intCells2 0 0 rfl
  obtain ⟨t, e1, b1⟩ := int_field Try.underlying37 h Try.underlying3 Try.intCells2 1 1 rfl
  match cs, hl with
  | [v0, v1], _ =>
    simp only [List.drop, List.take, List.cons.injEq, and_true] at e0 e1
    subst e0; subst e1
    exact ⟨f, t, rfl, b0, b1⟩
end Go.Proofs.Ytcfmndhjmlbcoaa
