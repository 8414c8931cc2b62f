/-
  Arguments that are lists of bands, or weeks, opened.
-/
import Derived.Test.YtnekgkmlodeckaaMgal
import Derived.Test.YtnekgkmlodeckaaMgai
namespace Go.Proofs.Ytnekgkmlodeckaa
open Go.ChangeShapes Go.WideShapes Go.ChangeAt Go.RowKit Go.Deep

theorem Try.slotCells : Try.prog.cellsOf 96 = 3 := by kernel_rfl
theorem Try.bandCells : Try.prog.cellsOf 86 = 2 := by kernel_rfl
theorem Try.weekCells : Try.prog.cellsOf 57 = 2 := by kernel_rfl
theorem Try.slotsCells5 : Try.prog.cellsOf 84 = 1 := by kernel_rfl
theorem Try.bandsCells5 : Try.prog.cellsOf 23 = 1 := by kernel_rfl
theorem Try.intsCells5 : Try.prog.cellsOf 38 = 1 := by kernel_rfl
theorem Try.intCells5 : Try.prog.cellsOf 3 = 1 := by kernel_rfl
theorem Try.stringCells5 : Try.prog.cellsOf 9 = 1 := by kernel_rfl

section
variable {H : Type} {enc : TypeId × Value → H}
theorem sls_of {W : World} {sp : Nat → Bool} {fuel : Nat} {v : Value} {x : DataW H × List MemPlace} (h : DataW.trod enc Try.prog W 0 sp true fuel 84 [v] = some x) : ∃ l, SlsAt W v l :=
  sliceOf (R := SlR) (c := 3) Try.underlying84 Try.slotCells (by omega) h fun b o cs n y hl hc ht => by
    obtain ⟨d, e0, -⟩ := int_field Try.underlying96 ht Try.underlying3 Try.intCells5 0 0 rfl
    obtain ⟨f, e1, -⟩ := int_field Try.underlying96 ht Try.underlying3 Try.intCells5 1 1 rfl
    obtain ⟨t, e2, -⟩ := int_field Try.underlying96 ht Try.underlying3 Try.intCells5 2 2 rfl
    match cs, hl with
    | [v0, v1, v2], _ =>
      simp only [List.drop, List.take, List.cons.injEq, and_true] at e0 e1 e2
      subst e0; subst e1; subst e2
      exact ⟨(d, f, t), hc 0 (by omega), hc 1 (by omega), hc 2 (by omega)⟩
theorem bns_of {W : World} {sp : Nat → Bool} {fuel : Nat} {v : Value} {x : DataW H × List MemPlace} (h : DataW.trod enc Try.prog W 0 sp true fuel 23 [v] = some x) : ∃ l, BnsAt W v l :=
  sliceOf (R := BnR) (c := 2) Try.underlying23 Try.bandCells (by omega) h fun b o cs n y hl hc ht => by
    obtain ⟨nm, e0, s0⟩ := string_field Try.underlying86 ht Try.underlying9 Try.stringCells5 0 0 rfl
    obtain ⟨m, z, e1⟩ := struct_field Try.underlying86 ht 1 1 84 1 rfl Try.slotsCells5
    match cs, hl with
    | [v0, v1], _ =>
      simp only [List.drop, List.take, List.cons.injEq, and_true] at e0 e1
      subst e0
      obtain ⟨ss, hs⟩ := sls_of e1
      exact ⟨(nm, ss), ⟨hc 0 (by omega), s0⟩, v1, hc 1 (by omega), hs⟩
theorem open_week {W : World} {sp : Nat → Bool} {fuel : Nat} {cs : List Value} {x : DataW H × List MemPlace} (hl : cs.length = 2) (h : DataW.trod enc Try.prog W 0 sp true fuel 57 cs = some x) :
    ∃ (bv hv : Value) (l : List Bn) (hol : List Int), cs = [bv, hv] ∧ BnsAt W bv l ∧ IcsAt W hv hol := by
  obtain ⟨m, z, e0⟩ := struct_field Try.underlying57 h 0 0 23 1 rfl Try.bandsCells5
  obtain ⟨m2, z2, e1⟩ := struct_field Try.underlying57 h 1 1 38 1 rfl Try.intsCells5
  match cs, hl with
  | [v0, v1], _ =>
    simp only [List.drop, List.take] at e0 e1
    obtain ⟨l, hl⟩ := bns_of e0
    obtain ⟨hol, hh⟩ := ics_of e1
    exact ⟨v0, v1, l, hol, rfl, hl, hh⟩
end
end Go.Proofs.Ytnekgkmlodeckaa
