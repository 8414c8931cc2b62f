/-
  Arguments of the settlement's laws, opened: usages, cases; what the rows list.
-/
import Derived.Test.YtohmdohbmmbbkaaDoorMgbi
import Derived.Test.YtohmdohbmmbbkaaDoorMgah
import Derived.Test.YtohmdohbmmbbkaaDoorMgbo
import Derived.LaidMore
import Derived.Stop.Joined
namespace Go.Proofs.YtohmdohbmmbbkaaDoor
open Go.ChangeShapes Go.WideShapes Go.ChangeAt Go.RowKit Go.Deep

theorem Tryd.usageCells : Tryd.prog.cellsOf 47 = 12 := by kernel_rfl
theorem Tryd.textCells51 : Tryd.prog.cellsOf 9 = 1 := by kernel_rfl
theorem Tryd.caseCells51 : Tryd.prog.cellsOf 27 = 5 := by kernel_rfl
theorem Tryd.agsCells51 : Tryd.prog.cellsOf 22 = 1 := by kernel_rfl
theorem Tryd.ussCells51 : Tryd.prog.cellsOf 23 = 1 := by kernel_rfl

section
variable {H : Type} {enc : TypeId × Value → H}
theorem open_usage {W : World} {sp : Nat → Bool} {fuel : Nat} {cs : List Value} {x : DataW H × List MemPlace} (hl : cs.length = 12) (h : DataW.trod enc Tryd.prog W 0 sp true fuel 47 cs = some x) : ∃ u : Us, cs = u.row.toList := by
  obtain ⟨id, e0, -⟩ := int_field Tryd.underlying47 h Tryd.underlying3 Tryd.intCells 0 0 rfl
  obtain ⟨kd, e1, -⟩ := int_field Tryd.underlying47 h Tryd.underlying3 Tryd.intCells 1 1 rfl
  obtain ⟨ac, e2, -⟩ := int_field Tryd.underlying47 h Tryd.underlying3 Tryd.intCells 2 2 rfl
  obtain ⟨sb, e3, -⟩ := int_field Tryd.underlying47 h Tryd.underlying3 Tryd.intCells 3 3 rfl
  obtain ⟨ua, e4, -⟩ := string_field Tryd.underlying47 h Tryd.underlying9 Tryd.textCells51 4 4 rfl
  obtain ⟨ub, e5, -⟩ := string_field Tryd.underlying47 h Tryd.underlying9 Tryd.textCells51 5 5 rfl
  obtain ⟨st, e6, -⟩ := int_field Tryd.underlying47 h Tryd.underlying3 Tryd.intCells 6 6 rfl
  obtain ⟨un, e7, -⟩ := int_field Tryd.underlying47 h Tryd.underlying3 Tryd.intCells 7 7 rfl
  obtain ⟨tr, e8, -⟩ := int_field Tryd.underlying47 h Tryd.underlying3 Tryd.intCells 8 8 rfl
  obtain ⟨ib, e9⟩ := bool_field Tryd.underlying47 h Tryd.underlying4 Tryd.boolCells1 9 9 rfl
  obtain ⟨so, e10, -⟩ := int_field Tryd.underlying47 h Tryd.underlying3 Tryd.intCells 10 10 rfl
  obtain ⟨se, e11, -⟩ := int_field Tryd.underlying47 h Tryd.underlying3 Tryd.intCells 11 11 rfl
  match cs, hl with
  | [v0, v1, v2, v3, v4, v5, v6, v7, v8, v9, v10, v11], _ =>
    simp only [List.drop, List.take, List.cons.injEq, and_true] at e0 e1 e2 e3 e4 e5 e6 e7 e8 e9 e10 e11
    subst e0; subst e1; subst e2; subst e3; subst e4; subst e5; subst e6; subst e7; subst e8; subst e9; subst e10; subst e11
    exact ⟨⟨id, kd, ac, sb, ua, ub, st, un, tr, ib, so, se⟩, rfl⟩
theorem uss_of {W : World} {sp : Nat → Bool} {fuel : Nat} {v : Value} {x : DataW H × List MemPlace} (h : DataW.trod enc Tryd.prog W 0 sp true fuel 23 [v] = some x) : ∃ l, UssAt W v l :=
  sliceOf (R := UsR) (c := 12) Tryd.underlying23 Tryd.usageCells (by omega) h fun b o cs n y hl hc ht => by
    obtain ⟨u, rfl⟩ := open_usage hl ht
    exact ⟨u, fun j hj => by
      rw [hc j hj]
      exact (Array.getElem?_toList ..)⟩
theorem open_case {W : World} {sp : Nat → Bool} {fuel : Nat} {cs : List Value} {x : DataW H × List MemPlace} (hl : cs.length = 5) (h : DataW.trod enc Tryd.prog W 0 sp true fuel 27 cs = some x) :
    ∃ (vl vu : Value) (l : List Ag) (us : List Us) (pa mf mt : Int), cs = [vl, vu, .int .i64 pa, .int .i64 mf, .int .i64 mt] ∧ AgsAt W vl l ∧ UssAt W vu us := by
  obtain ⟨n, y, e0⟩ := struct_field Tryd.underlying27 h 0 0 22 1 rfl Tryd.agsCells51
  obtain ⟨n', y', e1⟩ := struct_field Tryd.underlying27 h 1 1 23 1 rfl Tryd.ussCells51
  obtain ⟨pa, e2, -⟩ := int_field Tryd.underlying27 h Tryd.underlying3 Tryd.intCells 2 2 rfl
  obtain ⟨n2, y2, e3⟩ := struct_field Tryd.underlying27 h 3 3 25 2 rfl Tryd.periodCells
  match cs, hl with
  | [v0, v1, v2, v3, v4], _ =>
    simp only [List.drop, List.take, List.cons.injEq, and_true] at e0 e1 e2 e3
    subst e2
    obtain ⟨f, t, he, -, -⟩ := open_period rfl e3
    simp only [List.cons.injEq, and_true] at he
    obtain ⟨rfl, rfl⟩ := he
    obtain ⟨l, hl⟩ := ags_of e0
    obtain ⟨us, hu⟩ := uss_of e1
    exact ⟨v0, v1, l, us, pa, f, t, rfl, hl, hu⟩
end
end Go.Proofs.YtohmdohbmmbbkaaDoor
