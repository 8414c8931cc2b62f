/-
  Arguments that are lists of zones, opened.
-/
import Derived.Test.YtnekgkmlodeckaaMgal
import Derived.Test.YtnekgkmlodeckaaMgav
namespace Go.Proofs.Ytnekgkmlodeckaa
open Go.ChangeShapes Go.WideShapes Go.ChangeAt Go.RowKit Go.Deep

theorem Try.zoneCells : Try.prog.cellsOf 83 = 2 := by kernel_rfl
theorem Try.textsCells6 : Try.prog.cellsOf 81 = 1 := by kernel_rfl
theorem Try.textCells6 : Try.prog.cellsOf 9 = 1 := by kernel_rfl

section
variable {H : Type} {enc : TypeId × Value → H}
theorem texts_of {W : World} {sp : Nat → Bool} {fuel : Nat} {v : Value} {x : DataW H × List MemPlace} (h : DataW.trod enc Try.prog W 0 sp true fuel 81 [v] = some x) : ∃ l, StrsAt W v l :=
  sliceOf (R := StrR) (c := 1) Try.underlying81 Try.textCells6 (by omega) h fun b o cs n y hl hc ht => by
    obtain ⟨k, rfl, -, hw⟩ := DataW.trod_string Try.underlying9 ht
    exact ⟨k, hc 0 (by omega), hw⟩
theorem zns_of {W : World} {sp : Nat → Bool} {fuel : Nat} {v : Value} {x : DataW H × List MemPlace} (h : DataW.trod enc Try.prog W 0 sp true fuel 22 [v] = some x) : ∃ l, ZnsAt W v l :=
  sliceOf (R := ZnR) (c := 2) Try.underlying22 Try.zoneCells (by omega) h fun b o cs n y hl hc ht => by
    obtain ⟨nm, e0, s0⟩ := string_field Try.underlying83 ht Try.underlying9 Try.textCells6 0 0 rfl
    obtain ⟨m, z, e1⟩ := struct_field Try.underlying83 ht 1 1 81 1 rfl Try.textsCells6
    match cs, hl with
    | [v0, v1], _ =>
      simp only [List.drop, List.take, List.cons.injEq, and_true] at e0 e1
      subst e0
      obtain ⟨ss, hs⟩ := texts_of e1
      exact ⟨(nm, ss), ⟨hc 0 (by omega), s0⟩, v1, hc 1 (by omega), hs⟩
end
end Go.Proofs.Ytnekgkmlodeckaa
