/-
  The walks of the reference's Common and Intersect.
-/
import Derived.Test.YtmilpaibkemmdaaMgbh
namespace Go.Proofs.Ytmilpaibkemmdaa
open Go.RowKit

theorem common_calls (va vb : Value) (a b : List (Int × Int)) (w : World) (ha : PersAt w va a) (hb : PersAt w vb b) (hn : a.length + b.length ≤ 2000) :
    Calls Try.prog 62 #[va, vb] w (PersTo w (chooseL a b false true)) := by
  have H := Lib.hid (choose_calls va vb a b false true w ha hb hn)
  obtain ⟨aa, ca, rfl, -⟩ := ha
  obtain ⟨ab, cb, rfl, -⟩ := hb
  go_enter Try.func62, Try.ntmps62
  go_wp2_with fail
  refine H.out.mono ?_
  rintro e w1 ⟨v1, rfl, hp, hb1⟩
  have HP := Lib.hid hp
  obtain ⟨a1, c1, rfl, -⟩ := hp
  go_wp2
  go_ret
  exact ⟨_, rfl, HP.out, hb1⟩

theorem pers_one {w : World} (f t : Int) : PersAt (w.alloc (Obj.cells #[.int .i64 f, .int .i64 t] 26)) (.slice (some ⟨w.heap.size, 0, none⟩) 1 1) [(f, t)] := by
  have r := heap_alloc_new w (Obj.cells #[.int .i64 f, .int .i64 t] 26)
  refine ⟨some ⟨w.heap.size, 0, none⟩, 1, rfl, Nat.le_refl _, ⟨by decide, fun h => by cases h⟩, fun _ => ⟨w.heap.size, 0, rfl, by simp, fun i hi => ?_⟩⟩
  match i, hi with
  | 0, _ => exact ⟨cell_of_row _ _ 0 _ _ _ r, cell_of_row _ _ 1 _ _ _ r⟩

set_option linter.unusedSimpArgs false in
set_option maxRecDepth 100000 in
set_option maxHeartbeats 1600000 in
theorem rintersect_calls (f t f2 t2 : Int) (w : World) : Calls Try.prog 42 #[.agg #[.int .i64 f, .int .i64 t], .agg #[.int .i64 f2, .int .i64 t2]] w fun e w' => e = .returned (.tuple #[meetV f t f2 t2, .bool (meetB f t f2 t2)]) ∧ Below w.heap.size w w' := by
  obtain ⟨W, hW⟩ : ∃ W, W = ((w.alloc (Obj.cells #[.int .i64 f, .int .i64 t] 26)).alloc (Obj.cells #[.int .i64 f2, .int .i64 t2] 26)).alloc (Obj.cells #[.int .i64 0, .int .i64 0] 26) := ⟨_, rfl⟩
  have hw0 : Below w.heap.size w W := by rw [hW]; go_grown
  have hz : W.heap.size = w.heap.size + 3 := by rw [hW]; simp
  have r0 : W.heap[w.heap.size]? = some (Obj.cells #[.int .i64 f, .int .i64 t] 26) := by rw [hW, Below.heap_alloc _ _ _ (by simp <;> omega), Below.heap_alloc _ _ _ (by simp)]; exact heap_alloc_new _ _
  have r1 : W.heap[w.heap.size + 1]? = some (Obj.cells #[.int .i64 f2, .int .i64 t2] 26) := by rw [hW, Below.heap_alloc _ _ _ (by simp <;> omega)]; simpa using heap_alloc_new (w.alloc _) _
  have r2 : W.heap[w.heap.size + 1 + 1]? = some (Obj.cells #[.int .i64 0, .int .i64 0] 26) := by rw [hW]; simpa using heap_alloc_new ((w.alloc _).alloc _) _
  obtain ⟨X, hX⟩ : ∃ X, X = (W.alloc (Obj.cells #[.int .i64 f, .int .i64 t] 26)).alloc (Obj.cells #[.int .i64 f2, .int .i64 t2] 26) := ⟨_, rfl⟩
  have hbX : Below W.heap.size W X := by rw [hX]; go_grown
  have hp1 : PersAt X (.slice (some ⟨W.heap.size, 0, none⟩) 1 1) [(f, t)] := by rw [hX]; exact (pers_one (w := W) f t).below ((Below.refl _ _).alloc (Nat.le_refl _) _)
  have hp2 : PersAt X (.slice (some ⟨W.heap.size + 1, 0, none⟩) 1 1) [(f2, t2)] := by rw [hX]; have := pers_one (w := W.alloc (Obj.cells #[.int .i64 f, .int .i64 t] 26)) f2 t2; simpa using this
  have Hc := Lib.hid (common_calls _ _ [(f, t)] [(f2, t2)] X hp1 hp2 (by simp))
  have HX := Lib.hid hX
  have HW := Lib.hid hW
  have Hz := Lib.hid hz
  have m0 : W.cell? ⟨w.heap.size, 0, none⟩ = some (.int .i64 f) := cell_of_row W _ 0 _ _ _ r0
  have m1 : W.cell? ⟨w.heap.size, 1, none⟩ = some (.int .i64 t) := cell_of_row W _ 1 _ _ _ r0
  have m2 : W.cell? ⟨w.heap.size + 1, 0, none⟩ = some (.int .i64 f2) := cell_of_row W _ 0 _ _ _ r1
  have m3 : W.cell? ⟨w.heap.size + 1, 1, none⟩ = some (.int .i64 t2) := cell_of_row W _ 1 _ _ _ r1
  have R2 := Lib.hid r2
  have hw3 : w.heap.size + 1 < W.heap.size := by omega
  have hw4 : ¬ w.heap.size + 1 = W.heap.size := by omega
  have hw5 : w.heap.size < W.heap.size := by omega
  have hw6 : ¬ w.heap.size = W.heap.size := by omega
  rw [common_pair] at Hc
  have HV := Lib.hid (show meetV f t f2 t2 = if meetB f t f2 t2 = true then .agg #[.int .i64 (max f f2), .int .i64 (min t t2)] else .agg #[.int .i64 0, .int .i64 0] from rfl)
  clear hW hX r0 r1 r2 hz hp1 hp2
  cases hm : meetB f t f2 t2 with
  | false =>
    rw [hm, if_neg (by decide)] at Hc
    have HE := Lib.hid (show meetV f t f2 t2 = .agg #[.int .i64 0, .int .i64 0] by rw [HV.out, if_neg (by rw [hm]; decide)])
    clear hm
    go_enter Try.func42, Try.ntmps42
    go_upto_region 1 with (fail)
    rw [← HW.out]
    go_wp2_with fail
    rw [← HX.out]
    refine Hc.out.mono ?_
    rintro e w1 ⟨v1, rfl, hp, hb⟩
    obtain ⟨a1, c1, rfl, -⟩ := hp
    have hb2 := hbX.trans (hb.mono hbX.size)
    have hb3 := hw0.trans (hb2.mono hw0.size)
    have q := (hb2.block (w.heap.size + 1 + 1) (by rw [Hz.out]; omega)).trans R2.out
    have c0 : w1.cell? ⟨w.heap.size + 1 + 1, 0, none⟩ = some (.int .i64 0) := cell_of_row w1 _ 0 _ _ _ q
    have c1' : w1.cell? ⟨w.heap.size + 1 + 1, 1, none⟩ = some (.int .i64 0) := cell_of_row w1 _ 1 _ _ _ q
    have f0 : w1.frozen? ⟨w.heap.size + 1 + 1, 0, none⟩ = false := by simp [World.frozen?, q]
    have f1 : w1.frozen? ⟨w.heap.size + 1 + 1, 1, none⟩ = false := by simp [World.frozen?, q]
    clear m0 m1 m2 m3 q hb hb2 hw3 hw4 hw5 hw6
    simp only [List.length_nil]
    go_wp2
    rw [HE.out]
    exact bodyPost_ret (v := .tuple #[.agg #[.int .i64 0, .int .i64 0], .bool false]) (by simp [results, Try.results42, go_sem, c0, c1']) rfl ⟨rfl, by go_grown⟩
  | true =>
    rw [hm, if_pos rfl] at Hc
    have HE := Lib.hid (show meetV f t f2 t2 = .agg #[.int .i64 (max f f2), .int .i64 (min t t2)] by rw [HV.out, if_pos hm])
    clear hm HV
    generalize max f f2 = x at *
    generalize min t t2 = y at *
    go_enter Try.func42, Try.ntmps42
    go_upto_region 1 with (fail)
    rw [← HW.out]
    go_wp2_with fail
    rw [← HX.out]
    refine Hc.out.mono ?_
    rintro e w1 ⟨v1, rfl, hp, hb⟩
    obtain ⟨a1, c1, rfl, -, -, hx⟩ := hp
    obtain ⟨g, o, rfl, hg, hx⟩ := hx (by simp)
    obtain ⟨y0, y1⟩ := hx 0 (by simp)
    simp only [List.getElem_cons_zero, Nat.zero_mul, Nat.add_zero] at y0 y1
    have hb2 := hbX.trans (hb.mono hbX.size)
    have hb3 := hw0.trans (hb2.mono hw0.size)
    have q := (hb2.block (w.heap.size + 1 + 1) (by rw [Hz.out]; omega)).trans R2.out
    have c0 : w1.cell? ⟨w.heap.size + 1 + 1, 0, none⟩ = some (.int .i64 0) := cell_of_row w1 _ 0 _ _ _ q
    have c1' : w1.cell? ⟨w.heap.size + 1 + 1, 1, none⟩ = some (.int .i64 0) := cell_of_row w1 _ 1 _ _ _ q
    have f0 : w1.frozen? ⟨w.heap.size + 1 + 1, 0, none⟩ = false := by simp [World.frozen?, q]
    have f1 : w1.frozen? ⟨w.heap.size + 1 + 1, 1, none⟩ = false := by simp [World.frozen?, q]
    clear m0 m1 m2 m3 q hb hb2 hw3 hw4 hw5 hw6 hx
    simp only [List.length_cons, List.length_nil]
    go_wp2
    rw [HE.out]
    exact bodyPost_ret (v := .tuple #[.agg #[.int .i64 x, .int .i64 y], .bool true]) (by simp [results, Try.results42, go_sem, c0, c1']) rfl ⟨rfl, by go_grown⟩
end Go.Proofs.Ytmilpaibkemmdaa
