/-
  An argument that is a slice of steps, opened.
-/
import Derived.Test.YtohmdohbmmbbkaaDoorMgab
import Derived.Test.YtohmdohbmmbbkaaDoorMgam
namespace Go.Proofs.YtohmdohbmmbbkaaDoor
open Go.ChangeShapes Go.WideShapes Go.ChangeAt Go.RowKit Go.Deep

theorem Tryd.stepCells : Tryd.prog.cellsOf 79 = 3 := by kernel_rfl
theorem Tryd.intCells : Tryd.prog.cellsOf 3 = 1 := by kernel_rfl

section
variable {H : Type} {enc : TypeId × Value → H}

set_option maxRecDepth 100000 in
theorem open_step {W : World} {sp : Nat → Bool} {fuel : Nat} {cs : List Value} {x : DataW H × List MemPlace} (h : DataW.trod enc Tryd.prog W 0 sp true fuel 79 cs = some x) :
    ∃ s : St, cs = [.int .i64 s.u, .int .i64 s.q, .int .i64 s.p] := by
  obtain ⟨y0, y1, y2, k, -, hl, u0, u1, u2⟩ := trod_struct3 Tryd.underlying79 h
  rw [Tryd.stepCells] at hl
  match cs, hl with
  | [v0, v1, v2], _ =>
    simp only [Tryd.intCells, List.drop, List.take] at u0 u1 u2
    obtain ⟨a, e0, -, -⟩ := DataW.trod_int Tryd.underlying3 u0
    obtain ⟨b, e1, -, -⟩ := DataW.trod_int Tryd.underlying3 u1
    obtain ⟨c, e2, -, -⟩ := DataW.trod_int Tryd.underlying3 u2
    simp only [List.cons.injEq, and_true] at e0 e1 e2
    subst e0; subst e1; subst e2
    exact ⟨⟨a, b, c⟩, rfl⟩

theorem steps_of {W : World} {sp : Nat → Bool} {fuel : Nat} {v : Value} {x : DataW H × List MemPlace} (h : DataW.trod enc Tryd.prog W 0 sp true fuel 51 [v] = some x) : ∃ l, StepsAt W v l := by
  obtain ⟨av, len, cap, rfl, hl, hm, hc⟩ := slice_cells Tryd.underlying51 Tryd.stepCells (by omega) h
  by_cases h0 : 0 < len
  · obtain ⟨b, off, rfl, hB, hx⟩ := hc h0
    have each : ∀ i, i < len → ∃ s : St, StCells W b (off + i * 3) s := by
      intro i hi
      obtain ⟨cs, n, y, -, hcell, ht⟩ := hx i hi
      obtain ⟨s, rfl⟩ := open_step ht
      exact ⟨s, hcell 0 (by omega), hcell 1 (by omega), hcell 2 (by omega)⟩
    obtain ⟨q, hq⟩ := choose_lt each
    refine ⟨(List.range len).map q, some ⟨b, off, none⟩, cap, by simp, by simp; omega, fun _ => ⟨b, off, rfl, hB, fun i hi => ?_⟩⟩
    simp only [List.getElem_map, List.getElem_range]
    exact hq i (by simpa using hi)
  · obtain rfl : len = 0 := by omega
    exact ⟨[], av, cap, rfl, Nat.zero_le _, fun h => absurd rfl h⟩

set_option maxRecDepth 100000 in
theorem okWide_arr {n : Nat} {t e : TypeId} {W : World} {r : Reach} {base : Nat} {v : Value} (ht : Tryd.prog.underlying t = some (.array n e)) (h : Value.okWide Tryd.prog W r base t v) : ∃ cs, v = .agg cs ∧ cs.size = Tryd.prog.cellsOf t := by
  simp only [Value.okWide, ht] at h
  obtain ⟨cs, h1, h2, _⟩ := h
  exact ⟨cs, h1, h2⟩
end
end Go.Proofs.YtohmdohbmmbbkaaDoor
