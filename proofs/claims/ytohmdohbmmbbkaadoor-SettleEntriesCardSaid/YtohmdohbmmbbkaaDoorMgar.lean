/-
  When an agreement fits a usage; steps as cells.
-/
import Derived.Test.YtohmdohbmmbbkaaDoorMgap
import Derived.Test.YtohmdohbmmbbkaaDoorMgad
import Derived.Laws.AppendOwnNone
namespace Go.Proofs.YtohmdohbmmbbkaaDoor
open Go.RowKit

theorem Tryd.stepInfo : (Tryd.prog.info? 79).map (fun i => (i.zero, i.size, i.bytes)) = some (some (.agg #[.int .i64 0, .int .i64 0, .int .i64 0]), 3, 24) := by kernel_rfl

/-- Does an agreement fit a usage? -/
def fitsB (pa kd : Int) (ib : Bool) (t : Int) (a : Ag) : Bool := decide (a.pa = pa) && decide (a.kd = kd) && decide (a.ib = ib) && containsB a.fr a.tt t

/-- What Find returns, as far as the laws look at it. -/
def FindTo (w : World) (r : Bool) (e : Ending) (w' : World) : Prop :=
  ∃ (p k : Int) (i : Bool) (f t : Int) (av : Option Addr) (n cap : Nat) (c : Int), e = .returned (.tuple #[.agg #[.int .i64 p, .int .i64 k, .bool i, .int .i64 f, .int .i64 t, .slice av n cap, .int .i64 c], .bool r]) ∧ Below w.heap.size w w'

def ZeroAt (w : World) (B : Nat) : Prop :=
  (w.cell? ⟨B, 0, none⟩ = some (.int .i64 0) ∧ w.cell? ⟨B, 1, none⟩ = some (.int .i64 0) ∧ w.cell? ⟨B, 2, none⟩ = some (.bool false) ∧ w.cell? ⟨B, 3, none⟩ = some (.int .i64 0) ∧ w.cell? ⟨B, 4, none⟩ = some (.int .i64 0) ∧ w.cell? ⟨B, 5, none⟩ = some (.slice none 0 0) ∧ w.cell? ⟨B, 6, none⟩ = some (.int .i64 0)) ∧
    w.frozen? ⟨B, 0, none⟩ = false ∧ w.frozen? ⟨B, 1, none⟩ = false ∧ w.frozen? ⟨B, 2, none⟩ = false ∧ w.frozen? ⟨B, 3, none⟩ = false ∧ w.frozen? ⟨B, 4, none⟩ = false ∧ w.frozen? ⟨B, 5, none⟩ = false ∧ w.frozen? ⟨B, 6, none⟩ = false
theorem zero_of {w : World} {B : Nat} (h : w.heap[B]? = some (Obj.cells #[.int .i64 0, .int .i64 0, .bool false, .int .i64 0, .int .i64 0, .slice none 0 0, .int .i64 0] 53)) : ZeroAt w B :=
  ⟨⟨cell_of_row w _ 0 _ _ _ h, cell_of_row w _ 1 _ _ _ h, cell_of_row w _ 2 _ _ _ h, cell_of_row w _ 3 _ _ _ h, cell_of_row w _ 4 _ _ _ h, cell_of_row w _ 5 _ _ _ h, cell_of_row w _ 6 _ _ _ h⟩,
    by simp [World.frozen?, h], by simp [World.frozen?, h], by simp [World.frozen?, h], by simp [World.frozen?, h], by simp [World.frozen?, h], by simp [World.frozen?, h], by simp [World.frozen?, h]⟩

def stCells (s : St) : List Value := [.int .i64 s.u, .int .i64 s.q, .int .i64 s.p]
theorem st_cells {w : World} {b o : Nat} {l : List St} (h : ∀ i (hi : i < l.length), StCells w b (o + i * 3) l[i]) : ∀ j u, (l.flatMap stCells)[j]? = some u → w.cell? (Addr.add ⟨b, o, none⟩ j) = some u := by
  intro j u hu
  have hj : j < l.length * 3 := by
    have := (List.getElem?_eq_some_iff.1 hu).1
    rwa [flat_length stCells 3 (fun _ => rfl)] at this
  have hi : j / 3 < l.length := by omega
  have e := flat_get stCells 3 (fun _ => rfl) l (j / 3) (j % 3) hi (by omega)
  rw [show j / 3 * 3 + j % 3 = j by omega, hu] at e
  obtain ⟨h0, h1, h2⟩ := h (j / 3) hi
  rw [Go.WideShapes.add_plain]
  rw [show o + j = o + j / 3 * 3 + j % 3 by omega]
  have hm : j % 3 < 3 := by omega
  match j % 3, hm, e with
  | 0, _, e => rw [Nat.add_zero, h0]; exact e.symm
  | 1, _, e => rw [h1]; exact e.symm
  | 2, _, e => rw [h2]; exact e.symm
end Go.Proofs.YtohmdohbmmbbkaaDoor
