/-
  An argument that is a meter, opened.
-/
import Derived.Test.YtkipebdhagccbaaOpenSteps
namespace Go.Proofs.Ytkipebdhagccbaa
open Go.ChangeShapes Go.WideShapes Go.ChangeAt Go.RowKit Go.Deep

theorem Try.meterCells : Try.prog.cellsOf 43 = 13 := by kernel_rfl
theorem Try.rateCells : Try.prog.cellsOf 41 = 5 := by kernel_rfl
theorem Try.stringCells : Try.prog.cellsOf 9 = 1 := by kernel_rfl
theorem Try.stepsCells : Try.prog.cellsOf 22 = 1 := by kernel_rfl

section
variable {H : Type} {enc : TypeId × Value → H}

theorem open_rate {W : World} {sp : Nat → Bool} {fuel : Nat} {cs : List Value} {x : DataW H × List MemPlace} (hl : cs.length = 5) (h : DataW.trod enc Try.prog W 0 sp true fuel 41 cs = some x) :
    ∃ (rk : Int) (rz rb : ByteArray) (st : Int) (sv : Value), cs = [.int .i64 rk, .string rz, .string rb, .int .i64 st, sv] ∧ ∃ l, StepsAt W sv l := by
  obtain ⟨rk, e0, -⟩ := int_field Try.underlying41 h Try.underlying3 Try.intCells 0 0 rfl
  obtain ⟨rz, e1, -⟩ := string_field Try.underlying41 h Try.underlying9 Try.stringCells 1 1 rfl
  obtain ⟨rb, e2, -⟩ := string_field Try.underlying41 h Try.underlying9 Try.stringCells 2 2 rfl
  obtain ⟨st, e3, -⟩ := int_field Try.underlying41 h Try.underlying3 Try.intCells 3 3 rfl
  obtain ⟨n, y, e4⟩ := struct_field Try.underlying41 h 4 4 22 1 rfl Try.stepsCells
  match cs, hl with
  | [v0, v1, v2, v3, v4], _ =>
    simp only [List.drop, List.take, List.cons.injEq, and_true] at e0 e1 e2 e3 e4
    subst e0; subst e1; subst e2; subst e3
    exact ⟨rk, rz, rb, st, v4, rfl, steps_of e4⟩

theorem open_meter {W : World} {sp : Nat → Bool} {fuel : Nat} {cs : List Value} {x : DataW H × List MemPlace} (hl : cs.length = 13) (h : DataW.trod enc Try.prog W 0 sp true fuel 43 cs = some x) :
    ∃ (a s kd : Int) (z pl : ByteArray) (vr rk : Int) (rz rb : ByteArray) (st : Int) (sv : Value) (fr pd : Int), cs = [.int .i64 a, .int .i64 s, .int .i64 kd, .string z, .string pl, .int .i64 vr, .int .i64 rk, .string rz, .string rb, .int .i64 st, sv, .int .i64 fr, .int .i64 pd] ∧
      (∃ l, StepsAt W sv l) ∧ -9223372036854775808 ≤ fr ∧ fr ≤ 9223372036854775807 := by
  obtain ⟨a, e0, -⟩ := int_field Try.underlying43 h Try.underlying3 Try.intCells 0 0 rfl
  obtain ⟨s, e1, -⟩ := int_field Try.underlying43 h Try.underlying3 Try.intCells 1 1 rfl
  obtain ⟨kd, e2, -⟩ := int_field Try.underlying43 h Try.underlying3 Try.intCells 2 2 rfl
  obtain ⟨z, e3, -⟩ := string_field Try.underlying43 h Try.underlying9 Try.stringCells 3 3 rfl
  obtain ⟨pl, e4, -⟩ := string_field Try.underlying43 h Try.underlying9 Try.stringCells 4 4 rfl
  obtain ⟨vr, e5, -⟩ := int_field Try.underlying43 h Try.underlying3 Try.intCells 5 5 rfl
  obtain ⟨n, y, e6⟩ := struct_field Try.underlying43 h 6 6 41 5 rfl Try.rateCells
  obtain ⟨fr, e7, b7⟩ := int_field Try.underlying43 h Try.underlying3 Try.intCells 7 11 rfl
  obtain ⟨pd, e8, -⟩ := int_field Try.underlying43 h Try.underlying3 Try.intCells 8 12 rfl
  match cs, hl with
  | [v0, v1, v2, v3, v4, v5, v6, v7, v8, v9, v10, v11, v12], _ =>
    simp only [List.drop, List.take, List.cons.injEq, and_true] at e0 e1 e2 e3 e4 e5 e6 e7 e8
    subst e0; subst e1; subst e2; subst e3; subst e4; subst e5; subst e7; subst e8
    obtain ⟨rk, rz, rb, st, sv, he, hst⟩ := open_rate rfl e6
    simp only [List.cons.injEq, and_true] at he
    obtain ⟨rfl, rfl, rfl, rfl, rfl⟩ := he
    exact ⟨a, s, kd, z, pl, vr, rk, rz, rb, st, v10, fr, pd, rfl, hst, b7⟩
end
end Go.Proofs.Ytkipebdhagccbaa
