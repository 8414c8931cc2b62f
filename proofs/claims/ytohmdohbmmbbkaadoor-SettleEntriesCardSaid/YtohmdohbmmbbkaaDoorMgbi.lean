/-
  Arguments that are agreements, lists of them, lists of numbers, opened.
-/
import Derived.Test.YtohmdohbmmbbkaaDoorMgbh
import Derived.Test.YtohmdohbmmbbkaaDoorMgba
import Derived.Test.YtohmdohbmmbbkaaDoorMgab
import Derived.Test.YtohmdohbmmbbkaaDoorMgao
namespace Go.Proofs.YtohmdohbmmbbkaaDoor
open Go.ChangeShapes Go.WideShapes Go.ChangeAt Go.RowKit Go.Deep

theorem Tryd.agCells : Tryd.prog.cellsOf 53 = 7 := by kernel_rfl
theorem Tryd.stepsCells1 : Tryd.prog.cellsOf 51 = 1 := by kernel_rfl

section
variable {H : Type} {enc : TypeId × Value → H}

/-- Steps that came in: a nil slice is empty. -/
theorem stepsN_of {W : World} {sp : Nat → Bool} {fuel : Nat} {v : Value} {x : DataW H × List MemPlace} (h : DataW.trod enc Tryd.prog W 0 sp true fuel 51 [v] = some x) : ∃ l, StepsAt W v l ∧ NilOk v := by
  obtain ⟨l, av, cap, rfl, hl, hc, hx⟩ := sliceOf (R := StCells) (c := 3) Tryd.underlying51 Tryd.stepCells (by omega) h fun b o cs n y hl hc ht => by
    obtain ⟨s, rfl⟩ := open_step ht
    exact ⟨s, hc 0 (by omega), hc 1 (by omega), hc 2 (by omega)⟩
  refine ⟨l, ⟨av, cap, rfl, Nat.le_trans hl hc.1, hx⟩, fun n cap' he => ?_⟩
  simp only [Value.slice.injEq] at he
  obtain ⟨rfl, rfl, rfl⟩ := he
  have := hc.2 rfl
  omega

theorem open_ag {W : World} {sp : Nat → Bool} {fuel : Nat} {cs : List Value} {x : DataW H × List MemPlace} (hl : cs.length = 7) (h : DataW.trod enc Tryd.prog W 0 sp true fuel 53 cs = some x) :
    ∃ (a : Ag) (sv : Value), cs = [.int .i64 a.pa, .int .i64 a.kd, .bool a.ib, .int .i64 a.fr, .int .i64 a.tt, sv, .int .i64 a.cap] ∧ StepsAt W sv a.st ∧ NilOk sv := by
  obtain ⟨pa, e0, -⟩ := int_field Tryd.underlying53 h Tryd.underlying3 Tryd.intCells 0 0 rfl
  obtain ⟨kd, e1, -⟩ := int_field Tryd.underlying53 h Tryd.underlying3 Tryd.intCells 1 1 rfl
  obtain ⟨ib, e2⟩ := bool_field Tryd.underlying53 h Tryd.underlying4 Tryd.boolCells1 2 2 rfl
  obtain ⟨n, y, e3⟩ := struct_field Tryd.underlying53 h 3 3 25 2 rfl Tryd.periodCells
  obtain ⟨n', y', e5⟩ := struct_field Tryd.underlying53 h 4 5 51 1 rfl Tryd.stepsCells1
  obtain ⟨cap, e6, -⟩ := int_field Tryd.underlying53 h Tryd.underlying3 Tryd.intCells 5 6 rfl
  match cs, hl with
  | [v0, v1, v2, v3, v4, v5, v6], _ =>
    simp only [List.drop, List.take, List.cons.injEq, and_true] at e0 e1 e2 e3 e5 e6
    subst e0; subst e1; subst e2; subst e6
    obtain ⟨f, t, he, -, -⟩ := open_period rfl e3
    simp only [List.cons.injEq, and_true] at he
    obtain ⟨rfl, rfl⟩ := he
    obtain ⟨st, hs, hn⟩ := stepsN_of e5
    exact ⟨⟨pa, kd, ib, f, t, st, cap⟩, v5, rfl, hs, hn⟩

theorem ags_of {W : World} {sp : Nat → Bool} {fuel : Nat} {v : Value} {x : DataW H × List MemPlace} (h : DataW.trod enc Tryd.prog W 0 sp true fuel 22 [v] = some x) : ∃ l, AgsAt W v l :=
  sliceOf (R := AgR) (c := 7) Tryd.underlying22 Tryd.agCells (by omega) h fun b o cs n y hl hc ht => by
    obtain ⟨a, sv, rfl, hs, hn⟩ := open_ag hl ht
    exact ⟨a, hc 0 (by omega), hc 1 (by omega), hc 2 (by omega), hc 3 (by omega), hc 4 (by omega), ⟨sv, hc 5 (by omega), hs, hn⟩, hc 6 (by omega)⟩

/-- A number in a cell. -/
def IntR (w : World) (b o : Nat) (n : Int) : Prop := w.cell? ⟨b, o, none⟩ = some (.int .i64 n) ∧ -9223372036854775808 ≤ n ∧ n ≤ 9223372036854775807
theorem IntR.stays : Stays IntR := fun _ _ b o _ hb hB h => ⟨(hb.cell (p := ⟨b, o, none⟩) hB).trans h.1, h.2⟩
def IntsAt (w : World) (v : Value) (l : List Int) : Prop := SliceAt 1 IntR w v l
theorem IntsAt.below {w w' : World} {v : Value} {l : List Int} (h : IntsAt w v l) (hb : Below w.heap.size w w') : IntsAt w' v l := SliceAt.below IntR.stays h hb
theorem ints_of {W : World} {sp : Nat → Bool} {fuel : Nat} {v : Value} {x : DataW H × List MemPlace} (h : DataW.trod enc Tryd.prog W 0 sp true fuel 57 [v] = some x) : ∃ l, IntsAt W v l :=
  sliceOf (R := IntR) (c := 1) Tryd.underlying57 Tryd.intCells (by omega) h fun b o cs n y hl hc ht => by
    obtain ⟨k, rfl, -, hw⟩ := DataW.trod_int Tryd.underlying3 ht
    exact ⟨k, hc 0 (by omega), bounds_i64 hw⟩
end
end Go.Proofs.YtohmdohbmmbbkaaDoor
