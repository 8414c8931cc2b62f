/-
  The walk of slices.Clone at slices of steps: a copy in new memory.
-/
import Derived.Test.YtkipebdhagccbaaSteps
import Derived.Laws.AppendOwn
import Derived.OwnWalk
namespace Go.Proofs.Ytkipebdhagccbaa
open Go.RowKit

theorem Try.stepInfo : (Try.prog.info? 37).map (fun i => (i.zero, i.size, i.bytes)) = some (some (.agg #[.int .i64 0, .int .i64 0, .int .i64 0]), 3, 24) := by kernel_rfl

/-- The cells of a list of steps. -/
def stCells (l : List St) : List Value := l.flatMap fun s => [.int .i64 s.u, .int .i64 s.q, .int .i64 s.p]

theorem stCells_length (l : List St) : (stCells l).length = l.length * 3 := by
  induction l with
  | nil => rfl
  | cons s l ih => simp only [stCells, List.flatMap_cons, List.length_append, List.length_cons, List.length_nil] at *; omega

theorem stCells_get (l : List St) : ∀ (i : Nat) (h : i < l.length), (stCells l)[i * 3]? = some (.int .i64 l[i].u) ∧ (stCells l)[i * 3 + 1]? = some (.int .i64 l[i].q) ∧ (stCells l)[i * 3 + 2]? = some (.int .i64 l[i].p) := by
  induction l with
  | nil => intro i h; cases h
  | cons s l ih =>
    intro i h
    match i, h with
    | 0, _ => exact ⟨rfl, rfl, rfl⟩
    | i + 1, h =>
      have := ih i (by simpa using h)
      have e : (i + 1) * 3 = i * 3 + 1 + 1 + 1 := by omega
      rw [e]
      exact this

theorem stCells_cell {w : World} {b o : Nat} {l : List St} (h : ∀ i (h : i < l.length), StCells w b (o + i * 3) l[i]) : ∀ j u, (stCells l)[j]? = some u → w.cell? (Addr.add ⟨b, o, none⟩ j) = some u := by
  intro j u hu
  have hj : j < l.length * 3 := by
    rw [← stCells_length]; exact (List.getElem?_eq_some_iff.1 hu).1
  obtain ⟨i, hi, hc⟩ : ∃ i, i < l.length ∧ (j = i * 3 ∨ j = i * 3 + 1 ∨ j = i * 3 + 2) := ⟨j / 3, by omega, by omega⟩
  obtain ⟨c0, c1, c2⟩ := h i hi
  obtain ⟨g0, g1, g2⟩ := stCells_get l i hi
  rw [Go.WideShapes.add_plain]
  rcases hc with rfl | rfl | rfl
  · rw [g0] at hu; cases hu; exact c0
  · rw [g1] at hu; cases hu; rw [← Nat.add_assoc]; exact c1
  · rw [g2] at hu; cases hu; rw [← Nat.add_assoc]; exact c2

theorem stCells_one (l : List St) : ∀ u ∈ stCells l, u.oneCell' = true := by
  intro u hu
  simp only [stCells, List.mem_flatMap] at hu
  obtain ⟨s, -, hs⟩ := hu
  simp only [List.mem_cons, List.not_mem_nil, or_false] at hs
  rcases hs with rfl | rfl | rfl <;> rfl

/-- A list of steps in blocks from a number on. -/
def StepsFrom (base : Nat) (w : World) (v : Value) (l : List St) : Prop :=
  ∃ (av : Option Addr) (cap : Nat), v = .slice av l.length cap ∧ l.length ≤ maxLen ∧ (l ≠ [] → ∃ b o, av = some ⟨b, o, none⟩ ∧ base ≤ b ∧ b < w.heap.size ∧ ∀ i (h : i < l.length), StCells w b (o + i * 3) l[i])

theorem StepsFrom.at {base : Nat} {w : World} {v : Value} {l : List St} (h : StepsFrom base w v l) : StepsAt w v l := by
  obtain ⟨av, cap, rfl, hm, hc⟩ := h
  exact ⟨av, cap, rfl, hm, fun hne => let ⟨b, o, e, _, h1, h2⟩ := hc hne; ⟨b, o, e, h1, h2⟩⟩

theorem StepsFrom.mono {base base' : Nat} {w : World} {v : Value} {l : List St} (h : StepsFrom base w v l) (hb : base' ≤ base) : StepsFrom base' w v l := by
  obtain ⟨av, cap, rfl, hm, hc⟩ := h
  exact ⟨av, cap, rfl, hm, fun hne => let ⟨b, o, e, h0, h1, h2⟩ := hc hne; ⟨b, o, e, Nat.le_trans hb h0, h1, h2⟩⟩

theorem StepsFrom.setCell {base : Nat} {w : World} {v : Value} {l : List St} (h : StepsFrom base w v l) {p : Addr} (hp : p.block < base) (u : Value) : StepsFrom base (w.setCell p u) v l := by
  obtain ⟨av, cap, rfl, hm, hc⟩ := h
  refine ⟨av, cap, rfl, hm, fun hne => ?_⟩
  obtain ⟨b, o, e, hB, h1, h2⟩ := hc hne
  have hk : ∀ j, (w.setCell p u).cell? ⟨b, j, none⟩ = w.cell? ⟨b, j, none⟩ := fun j => World.cell?_of_block (w := w) (Below.heap_setCell w p u b (by omega))
  exact ⟨b, o, e, hB, by simpa [World.setCell] using h1, fun i hi => ⟨(hk _).trans (h2 i hi).1, (hk _).trans (h2 i hi).2.1, (hk _).trans (h2 i hi).2.2⟩⟩

/-- An owned row that holds a list's cells reads as that list. -/
theorem steps_own {w : World} {base : Nat} {e : TypeId} {v : Value} {l : List St} (h : w.ownsRow base e 3 v l.length (stCells l)) : StepsFrom base w v l := by
  obtain ⟨-, h⟩ := h
  rcases h with ⟨rfl, h0⟩ | ⟨g, cap, cur, rfl, hg, hh, hc, hm, hs, ht⟩
  · obtain rfl : l = [] := List.length_eq_zero_iff.1 h0
    exact ⟨none, 0, rfl, Nat.zero_le _, fun h => absurd rfl h⟩
  · refine ⟨some ⟨g, 0, none⟩, cap, rfl, by omega, fun _ => ⟨g, 0, rfl, hg, ?_, fun i hi => ?_⟩⟩
    · exact (Array.getElem?_eq_some_iff.1 hh).1
    · have cell : ∀ j u, (stCells l)[j]? = some u → w.cell? ⟨g, j, none⟩ = some u := by
        intro j u hu
        have hj : j < l.length * 3 := by rw [← stCells_length]; exact (List.getElem?_eq_some_iff.1 hu).1
        rw [← ht, List.getElem?_take_of_lt hj] at hu
        simp only [World.cell?, hh, Option.isSome_none, Bool.false_eq_true, if_false]
        simpa using hu
      obtain ⟨g0, g1, g2⟩ := stCells_get l i hi
      rw [Nat.zero_add]
      exact ⟨cell _ _ g0, cell _ _ g1, cell _ _ g2⟩

/-- A copy was made: it reads as the list, and nothing that was there has turned. -/
def ClonedTo (w : World) (l : List St) (e : Ending) (w' : World) : Prop := ∃ av cap, e = .returned (.slice av l.length cap) ∧ StepsFrom w.heap.size w' (.slice av l.length cap) l ∧ Below w.heap.size w w'

set_option maxHeartbeats 400000 in
theorem clone_calls (v : Value) (l : List St) (w : World) (h : StepsAt w v l) (h0 : 0 < l.length) (h64 : l.length ≤ 64) :
    Calls Try.prog 57 #[v] w (ClonedTo w l) := by
  obtain ⟨av, cap, rfl, hm, hc⟩ := h
  obtain ⟨b, o, rfl, hB, hs⟩ := hc (by rintro rfl; cases h0)
  clear hc
  clear hm
  have Hs := Lib.hid hs
  clear hs
  go_enter Try.func57, Try.ntmps57
  have heq := fun w' => Lib.run_eql_slice_nil (P := Try.prog) w' 22 37 (some ⟨b, o, none⟩) l.length cap 0 0 Try.underlying22
  obtain ⟨i0, hi, hz0, hz1, hz2⟩ := info_parts Try.stepInfo
  have Hi := Lib.hid (And.intro hi (And.intro hz0 (And.intro hz1 hz2)))
  clear hi hz0 hz1 hz2
  have hown : (w.alloc (Obj.cells #[] 37)).ownsRow w.heap.size 37 3 (.slice (some ⟨w.heap.size, 0, none⟩) 0 0) 0 [] :=
    ⟨rfl, Or.inr ⟨w.heap.size, 0, #[], rfl, Nat.le_refl _, heap_alloc_new w _, Nat.le_refl _, Nat.zero_le _, rfl, rfl⟩⟩
  go_wp2_with (at_builtin; refine wpList_append_own _ rfl _ _ 22 rfl w.heap.size 37 i0 _ 3 24 Try.underlying22 Hi.out.1 Hi.out.2.1 Hi.out.2.2.1 Hi.out.2.2.2 rfl (by decide) _ 0 [] rfl hown ⟨b, o, none⟩ l.length cap (stCells l) rfl (stCells_length l) ?c1 (stCells_one l) ?c2 ?c3 ?c4 ?_)
  case c1 => exact stCells_cell fun i h => (Hs.out i h).below (Below.alloc (Below.refl _ _) (Nat.le_refl _) _) hB
  case c2 => unfold maxLen; omega
  case c3 => omega
  case c4 => simp
  intro v' w1 hown1 hgrow _
  have hat := steps_own hown1
  have hb : Below w.heap.size w w1 := (Below.alloc (Below.refl _ _) (Nat.le_refl _) _).grown hgrow (by simp) (by simp [Value.ownBlock])
  clear hown1 hgrow hown
  go_wp2
  go_ret
  obtain ⟨av, cap', rfl, -⟩ := id hat
  exact ⟨av, cap', rfl, hat, hb⟩

/-- A rate was copied. -/
def RateTo (w : World) (l : List St) (rk : Int) (rz rb : ByteArray) (st : Int) (e : Ending) (w' : World) : Prop :=
  ∃ av cap, e = .returned (.agg #[.int .i64 rk, .string rz, .string rb, .int .i64 st, .slice av l.length cap]) ∧ StepsFrom w.heap.size w' (.slice av l.length cap) l ∧ Below w.heap.size w w'

set_option maxHeartbeats 800000 in
theorem copyRate_calls (v : Value) (l : List St) (rk : Int) (rz rb : ByteArray) (st : Int) (w : World) (h : StepsAt w v l) (h0 : 0 < l.length) (h64 : l.length ≤ 64) :
    Calls Try.prog 58 #[.agg #[.int .i64 rk, .string rz, .string rb, .int .i64 st, v]] w (RateTo w l rk rz rb st) := by
  obtain ⟨av, cap, rfl, hm, hc⟩ := h
  obtain ⟨b, o, rfl, hB, hs⟩ := hc (by rintro rfl; cases h0)
  clear hc hm
  have Hs := Lib.hid hs
  clear hs
  obtain ⟨i0, hi, hz0, hz1, hz2⟩ := info_parts Try.stepInfo
  have Hi := Lib.hid (And.intro hi (And.intro hz0 (And.intro hz1 hz2)))
  clear hi hz0 hz1 hz2
  obtain ⟨W, hW⟩ : ∃ W, W = ((w.alloc (Obj.cells #[Value.int IntKind.i64 rk, Value.string rz, Value.string rb, Value.int IntKind.i64 st, Value.slice (some ⟨b, o, none⟩) l.length cap] 41)).alloc (Obj.cells #[Value.int IntKind.i64 0, Value.string ⟨#[]⟩, Value.string ⟨#[]⟩, Value.int IntKind.i64 0, Value.slice none 0 0] 41)).alloc (Obj.cells #[] 37) := ⟨_, rfl⟩
  have hw0 : Below w.heap.size w W := by rw [hW]; go_grown
  have hz : W.heap.size = w.heap.size + 3 := by rw [hW]; simp
  have b0 : W.heap[w.heap.size]? = some (Obj.cells #[Value.int IntKind.i64 rk, Value.string rz, Value.string rb, Value.int IntKind.i64 st, Value.slice (some ⟨b, o, none⟩) l.length cap] 41) := by rw [hW, Below.heap_alloc _ _ _ (by simp; omega), Below.heap_alloc _ _ _ (by simp)]; exact heap_alloc_new _ _
  have b1 : W.heap[w.heap.size + 1]? = some (Obj.cells #[Value.int IntKind.i64 0, Value.string ⟨#[]⟩, Value.string ⟨#[]⟩, Value.int IntKind.i64 0, Value.slice none 0 0] 41) := by rw [hW, Below.heap_alloc _ _ _ (by simp)]; simpa using heap_alloc_new (w.alloc _) _
  have hown : W.ownsRow (w.heap.size + 2) 37 3 (.slice (some ⟨w.heap.size + 1 + 1, 0, none⟩) 0 0) 0 [] :=
    ⟨rfl, Or.inr ⟨w.heap.size + 1 + 1, 0, #[], rfl, Nat.le_refl _, by rw [hW]; simpa using heap_alloc_new ((w.alloc _).alloc _) _, Nat.le_refl _, Nat.zero_le _, rfl, rfl⟩⟩
  have HW := Lib.hid hW
  have Hz := Lib.hid hz
  have Hb := Lib.hid (And.intro b0 b1)
  clear hW hz b0 b1
  go_enter Try.func58, Try.ntmps58
  go_wp2_with (at_builtin; refine wpList_append_own _ rfl _ _ 22 rfl (w.heap.size + 2) 37 i0 _ 3 24 Try.underlying22 Hi.out.1 Hi.out.2.1 Hi.out.2.2.1 Hi.out.2.2.2 rfl (by decide) _ 0 [] rfl ?hown ⟨b, o, none⟩ l.length cap (stCells l) rfl (stCells_length l) ?c1 (stCells_one l) ?c2 ?c3 ?c4 ?_)
  case hown => rw [← HW.out]; exact hown
  case c1 => rw [← HW.out]; exact stCells_cell fun i h => (Hs.out i h).below hw0 hB
  case c2 => unfold maxLen; omega
  case c3 => omega
  case c4 => simp
  rw [← HW.out]
  intro v' w1 hown1 hgrow _
  have hat := steps_own hown1
  have hb := hw0.grown hgrow hw0.size (by simp [Value.ownBlock]; omega)
  have hz1 := hgrow.size
  rw [Hz.out] at hz1
  have g0 := (hgrow.block w.heap.size (by rw [Hz.out]; omega) (by simp [Value.ownBlock]; omega)).trans Hb.out.1
  have g1 := (hgrow.block (w.heap.size + 1) (by rw [Hz.out]; omega) (by simp [Value.ownBlock])).trans Hb.out.2
  clear hown1 hgrow hown hw0
  obtain ⟨av, cap', rfl, -⟩ := id hat
  have k0 : w1.cell? ⟨w.heap.size, 0, none⟩ = some (Value.int .i64 rk) := cell_of_row w1 _ 0 _ _ _ g0
  have n0 : w1.cell? ⟨w.heap.size + 1, 0, none⟩ = some (Value.int .i64 0) := cell_of_row w1 _ 0 _ _ _ g1
  have f0 : w1.frozen? ⟨w.heap.size, 0, none⟩ = false := by simp [World.frozen?, g0]
  have e0 : w1.frozen? ⟨w.heap.size + 1, 0, none⟩ = false := by simp [World.frozen?, g1]
  have k1 : w1.cell? ⟨w.heap.size, 1, none⟩ = some (Value.string rz) := cell_of_row w1 _ 1 _ _ _ g0
  have n1 : w1.cell? ⟨w.heap.size + 1, 1, none⟩ = some (Value.string ⟨#[]⟩) := cell_of_row w1 _ 1 _ _ _ g1
  have f1 : w1.frozen? ⟨w.heap.size, 1, none⟩ = false := by simp [World.frozen?, g0]
  have e1 : w1.frozen? ⟨w.heap.size + 1, 1, none⟩ = false := by simp [World.frozen?, g1]
  have k2 : w1.cell? ⟨w.heap.size, 2, none⟩ = some (Value.string rb) := cell_of_row w1 _ 2 _ _ _ g0
  have n2 : w1.cell? ⟨w.heap.size + 1, 2, none⟩ = some (Value.string ⟨#[]⟩) := cell_of_row w1 _ 2 _ _ _ g1
  have f2 : w1.frozen? ⟨w.heap.size, 2, none⟩ = false := by simp [World.frozen?, g0]
  have e2 : w1.frozen? ⟨w.heap.size + 1, 2, none⟩ = false := by simp [World.frozen?, g1]
  have k3 : w1.cell? ⟨w.heap.size, 3, none⟩ = some (Value.int .i64 st) := cell_of_row w1 _ 3 _ _ _ g0
  have n3 : w1.cell? ⟨w.heap.size + 1, 3, none⟩ = some (Value.int .i64 0) := cell_of_row w1 _ 3 _ _ _ g1
  have f3 : w1.frozen? ⟨w.heap.size, 3, none⟩ = false := by simp [World.frozen?, g0]
  have e3 : w1.frozen? ⟨w.heap.size + 1, 3, none⟩ = false := by simp [World.frozen?, g1]
  have k4 : w1.cell? ⟨w.heap.size, 4, none⟩ = some (Value.slice (some ⟨b, o, none⟩) l.length cap) := cell_of_row w1 _ 4 _ _ _ g0
  have n4 : w1.cell? ⟨w.heap.size + 1, 4, none⟩ = some (Value.slice none 0 0) := cell_of_row w1 _ 4 _ _ _ g1
  have f4 : w1.frozen? ⟨w.heap.size, 4, none⟩ = false := by simp [World.frozen?, g0]
  have e4 : w1.frozen? ⟨w.heap.size + 1, 4, none⟩ = false := by simp [World.frozen?, g1]
  clear g0 g1
  go_wp2
  refine bodyPost_ret (v := .agg #[.int .i64 rk, .string rz, .string rb, .int .i64 st, .slice av l.length cap']) (by simp [results, Try.results58, go_sem, n0, n1, n2, n3, n4]) rfl ⟨av, cap', rfl, ?_, ?_⟩
  · exact ((((((hat.setCell (by simp) _).setCell (by simp) _).setCell (by simp) _).setCell (by simp) _).setCell (by simp) _).setCell (by simp) _).mono (by omega)
  · exact (((((hb.setCell (by simp) _).setCell (by simp) _).setCell (by simp) _).setCell (by simp) _).setCell (by simp) _).setCell (by simp) _
end Go.Proofs.Ytkipebdhagccbaa
