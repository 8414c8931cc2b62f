/-
  The walk of the reference's Scale.
-/
import Derived.Test.YtngippiilgdnoaaMcah
import Derived.Test.YtngippiilgdnoaaMcad
set_option maxRecDepth 100000
set_option maxHeartbeats 25600000
namespace Go.Proofs.Ytngippiilgdnoaa
open Go.RowKit
set_option linter.unusedSimpArgs false in
theorem intersect_calls (f t f2 t2 : Int) (w : World) : Calls Try.prog 23 #[.agg #[.int .i64 f, .int .i64 t], .agg #[.int .i64 f2, .int .i64 t2]] w fun e w' => e = .returned (.tuple #[meetV f t f2 t2, .bool (meetB f t f2 t2)]) ∧ Below w.heap.size w w' := by
 obtain ⟨W, hW⟩ : ∃ W, W = (((w.alloc (Obj.cells #[.int .i64 f, .int .i64 t] 24)).alloc (Obj.cells #[.int .i64 f2, .int .i64 t2] 24)).alloc (Obj.cells #[.int .i64 0, .int .i64 0] 24)).alloc (Obj.cells #[.int .i64 (max f f2), .int .i64 (min t t2)] 24) := ⟨_, rfl⟩
 have hw0 : Below w.heap.size w W := by rw [hW]; go_grown
 have hz : W.heap.size = w.heap.size + 4 := by rw [hW]; simp
 have r0 : W.heap[w.heap.size]? = some (Obj.cells #[.int .i64 f, .int .i64 t] 24) := by rw [hW, Below.heap_alloc _ _ _ (by simp <;> omega), Below.heap_alloc _ _ _ (by simp <;> omega), Below.heap_alloc _ _ _ (by simp)]; exact heap_alloc_new _ _
 have r1 : W.heap[w.heap.size + 1]? = some (Obj.cells #[.int .i64 f2, .int .i64 t2] 24) := by rw [hW, Below.heap_alloc _ _ _ (by simp <;> omega), Below.heap_alloc _ _ _ (by simp <;> omega)]; simpa using heap_alloc_new (w.alloc _) _
 have r2 : W.heap[w.heap.size + 1 + 1]? = some (Obj.cells #[.int .i64 0, .int .i64 0] 24) := by rw [hW, Below.heap_alloc _ _ _ (by simp <;> omega)]; simpa using heap_alloc_new ((w.alloc _).alloc _) _
 have r3 : W.heap[w.heap.size + 1 + 1 + 1]? = some (Obj.cells #[.int .i64 (max f f2), .int .i64 (min t t2)] 24) := by rw [hW]; simpa using heap_alloc_new (((w.alloc _).alloc _).alloc _) _
 have HW := hZ9 hW
 have Hz := hZ9 hz
 have Hr := hZ9 (And.intro r0 (And.intro r1 (And.intro r2 r3)))
 have H1 := hZ9 (fun w1 => valid_calls f t w1)
 have H2 := hZ9 (fun w1 => valid_calls f2 t2 w1)
 have HX := hZ9 (show (if f < f2 then f2 else f) = max f f2 by rw [Int.max_def]; split <;> split <;> omega)
 have HY := hZ9 (show (if t2 < t then t2 else t) = min t t2 by rw [Int.min_def]; split <;> split <;> omega)
 have HM := hZ9 (meetB_iff f t f2 t2)
 have HV := hZ9 (show meetV f t f2 t2 = if meetB f t f2 t2 = true then .agg #[.int .i64 (max f f2), .int .i64 (min t t2)] else .agg #[.int .i64 0, .int .i64 0] from rfl)
 clear hW r0 r1 r2 r3 hz
 cases hv : validB f t with
 | false =>
  rw [hv] at H1
  have hm : meetB f t f2 t2 = false := (bool_no HM.out (fun h => by rw [hv] at h; cases h.1)).symm
  have HE := hZ9 (And.intro (show meetV f t f2 t2 = .agg #[.int .i64 0, .int .i64 0] by rw [HV.out, if_neg (by rw [hm]; decide)]) hm)
  clear hm hv
  go_enter Try.func23, Try.ntmps23
  go_upto_region 2 with (fail)
  rw [HX.out, HY.out, ← HW.out]
  have m0 := ((Below.refl W.heap.size W).block (w.heap.size) (by rw [Hz.out]; omega)).trans Hr.out.1
  have c0 : W.cell? ⟨w.heap.size, 0, none⟩ = some (.int .i64 f) := cell_of_row W _ 0 _ _ _ m0
  have d0 : W.cell? ⟨w.heap.size, 1, none⟩ = some (.int .i64 t) := cell_of_row W _ 1 _ _ _ m0
  have m1 := ((Below.refl W.heap.size W).block (w.heap.size + 1) (by rw [Hz.out]; omega)).trans Hr.out.2.1
  have c1 : W.cell? ⟨w.heap.size + 1, 0, none⟩ = some (.int .i64 f2) := cell_of_row W _ 0 _ _ _ m1
  have d1 : W.cell? ⟨w.heap.size + 1, 1, none⟩ = some (.int .i64 t2) := cell_of_row W _ 1 _ _ _ m1
  have m2 := ((Below.refl W.heap.size W).block (w.heap.size + 1 + 1) (by rw [Hz.out]; omega)).trans Hr.out.2.2.1
  have c2 : W.cell? ⟨w.heap.size + 1 + 1, 0, none⟩ = some (.int .i64 0) := cell_of_row W _ 0 _ _ _ m2
  have d2 : W.cell? ⟨w.heap.size + 1 + 1, 1, none⟩ = some (.int .i64 0) := cell_of_row W _ 1 _ _ _ m2
  have p2 : W.frozen? ⟨w.heap.size + 1 + 1, 0, none⟩ = false := by simp [World.frozen?, m2]
  have q2 : W.frozen? ⟨w.heap.size + 1 + 1, 1, none⟩ = false := by simp [World.frozen?, m2]
  have m3 := ((Below.refl W.heap.size W).block (w.heap.size + 1 + 1 + 1) (by rw [Hz.out]; omega)).trans Hr.out.2.2.2
  have c3 : W.cell? ⟨w.heap.size + 1 + 1 + 1, 0, none⟩ = some (.int .i64 (max f f2)) := cell_of_row W _ 0 _ _ _ m3
  have d3 : W.cell? ⟨w.heap.size + 1 + 1 + 1, 1, none⟩ = some (.int .i64 (min t t2)) := cell_of_row W _ 1 _ _ _ m3
  clear m0 m1 m2 m3
  go_wp2_with fail
  refine (H1.out W).mono ?_
  rintro e w1 ⟨rfl, hb1⟩
  have hb2 := hw0.trans (hb1.mono hw0.size)
  clear c0 d0 c1 d1 c2 d2 p2 q2 c3 d3
  have m0 := (hb1.block (w.heap.size) (by rw [Hz.out]; omega)).trans Hr.out.1
  have c0 : w1.cell? ⟨w.heap.size, 0, none⟩ = some (.int .i64 f) := cell_of_row w1 _ 0 _ _ _ m0
  have d0 : w1.cell? ⟨w.heap.size, 1, none⟩ = some (.int .i64 t) := cell_of_row w1 _ 1 _ _ _ m0
  have m1 := (hb1.block (w.heap.size + 1) (by rw [Hz.out]; omega)).trans Hr.out.2.1
  have c1 : w1.cell? ⟨w.heap.size + 1, 0, none⟩ = some (.int .i64 f2) := cell_of_row w1 _ 0 _ _ _ m1
  have d1 : w1.cell? ⟨w.heap.size + 1, 1, none⟩ = some (.int .i64 t2) := cell_of_row w1 _ 1 _ _ _ m1
  have m2 := (hb1.block (w.heap.size + 1 + 1) (by rw [Hz.out]; omega)).trans Hr.out.2.2.1
  have c2 : w1.cell? ⟨w.heap.size + 1 + 1, 0, none⟩ = some (.int .i64 0) := cell_of_row w1 _ 0 _ _ _ m2
  have d2 : w1.cell? ⟨w.heap.size + 1 + 1, 1, none⟩ = some (.int .i64 0) := cell_of_row w1 _ 1 _ _ _ m2
  have p2 : w1.frozen? ⟨w.heap.size + 1 + 1, 0, none⟩ = false := by simp [World.frozen?, m2]
  have q2 : w1.frozen? ⟨w.heap.size + 1 + 1, 1, none⟩ = false := by simp [World.frozen?, m2]
  have m3 := (hb1.block (w.heap.size + 1 + 1 + 1) (by rw [Hz.out]; omega)).trans Hr.out.2.2.2
  have c3 : w1.cell? ⟨w.heap.size + 1 + 1 + 1, 0, none⟩ = some (.int .i64 (max f f2)) := cell_of_row w1 _ 0 _ _ _ m3
  have d3 : w1.cell? ⟨w.heap.size + 1 + 1 + 1, 1, none⟩ = some (.int .i64 (min t t2)) := cell_of_row w1 _ 1 _ _ _ m3
  clear m0 m1 m2 m3
  go_wp2
  rw [HE.out.1, HE.out.2]
  exact bodyPost_ret (v := .tuple #[.agg #[.int .i64 0, .int .i64 0], .bool false]) (by simp [results, Try.results23, go_sem, c2, d2]) rfl ⟨rfl, by go_grown⟩
 | true =>
  rw [hv] at H1
  cases hv2 : validB f2 t2 with
  | false =>
   rw [hv2] at H2
   have hm : meetB f t f2 t2 = false := (bool_no HM.out (fun h => by rw [hv2] at h; cases h.2.1)).symm
   have HE := hZ9 (And.intro (show meetV f t f2 t2 = .agg #[.int .i64 0, .int .i64 0] by rw [HV.out, if_neg (by rw [hm]; decide)]) hm)
   clear hm hv hv2
   go_enter Try.func23, Try.ntmps23
   go_upto_region 2 with (fail)
   rw [HX.out, HY.out, ← HW.out]
   have m0 := ((Below.refl W.heap.size W).block (w.heap.size) (by rw [Hz.out]; omega)).trans Hr.out.1
   have c0 : W.cell? ⟨w.heap.size, 0, none⟩ = some (.int .i64 f) := cell_of_row W _ 0 _ _ _ m0
   have d0 : W.cell? ⟨w.heap.size, 1, none⟩ = some (.int .i64 t) := cell_of_row W _ 1 _ _ _ m0
   have m1 := ((Below.refl W.heap.size W).block (w.heap.size + 1) (by rw [Hz.out]; omega)).trans Hr.out.2.1
   have c1 : W.cell? ⟨w.heap.size + 1, 0, none⟩ = some (.int .i64 f2) := cell_of_row W _ 0 _ _ _ m1
   have d1 : W.cell? ⟨w.heap.size + 1, 1, none⟩ = some (.int .i64 t2) := cell_of_row W _ 1 _ _ _ m1
   have m2 := ((Below.refl W.heap.size W).block (w.heap.size + 1 + 1) (by rw [Hz.out]; omega)).trans Hr.out.2.2.1
   have c2 : W.cell? ⟨w.heap.size + 1 + 1, 0, none⟩ = some (.int .i64 0) := cell_of_row W _ 0 _ _ _ m2
   have d2 : W.cell? ⟨w.heap.size + 1 + 1, 1, none⟩ = some (.int .i64 0) := cell_of_row W _ 1 _ _ _ m2
   have p2 : W.frozen? ⟨w.heap.size + 1 + 1, 0, none⟩ = false := by simp [World.frozen?, m2]
   have q2 : W.frozen? ⟨w.heap.size + 1 + 1, 1, none⟩ = false := by simp [World.frozen?, m2]
   have m3 := ((Below.refl W.heap.size W).block (w.heap.size + 1 + 1 + 1) (by rw [Hz.out]; omega)).trans Hr.out.2.2.2
   have c3 : W.cell? ⟨w.heap.size + 1 + 1 + 1, 0, none⟩ = some (.int .i64 (max f f2)) := cell_of_row W _ 0 _ _ _ m3
   have d3 : W.cell? ⟨w.heap.size + 1 + 1 + 1, 1, none⟩ = some (.int .i64 (min t t2)) := cell_of_row W _ 1 _ _ _ m3
   clear m0 m1 m2 m3
   go_wp2_with fail
   refine (H1.out W).mono ?_
   rintro e w1 ⟨rfl, hb1⟩
   have hb2 := hw0.trans (hb1.mono hw0.size)
   clear c0 d0 c1 d1 c2 d2 p2 q2 c3 d3
   have m0 := (hb1.block (w.heap.size) (by rw [Hz.out]; omega)).trans Hr.out.1
   have c0 : w1.cell? ⟨w.heap.size, 0, none⟩ = some (.int .i64 f) := cell_of_row w1 _ 0 _ _ _ m0
   have d0 : w1.cell? ⟨w.heap.size, 1, none⟩ = some (.int .i64 t) := cell_of_row w1 _ 1 _ _ _ m0
   have m1 := (hb1.block (w.heap.size + 1) (by rw [Hz.out]; omega)).trans Hr.out.2.1
   have c1 : w1.cell? ⟨w.heap.size + 1, 0, none⟩ = some (.int .i64 f2) := cell_of_row w1 _ 0 _ _ _ m1
   have d1 : w1.cell? ⟨w.heap.size + 1, 1, none⟩ = some (.int .i64 t2) := cell_of_row w1 _ 1 _ _ _ m1
   have m2 := (hb1.block (w.heap.size + 1 + 1) (by rw [Hz.out]; omega)).trans Hr.out.2.2.1
   have c2 : w1.cell? ⟨w.heap.size + 1 + 1, 0, none⟩ = some (.int .i64 0) := cell_of_row w1 _ 0 _ _ _ m2
   have d2 : w1.cell? ⟨w.heap.size + 1 + 1, 1, none⟩ = some (.int .i64 0) := cell_of_row w1 _ 1 _ _ _ m2
   have p2 : w1.frozen? ⟨w.heap.size + 1 + 1, 0, none⟩ = false := by simp [World.frozen?, m2]
   have q2 : w1.frozen? ⟨w.heap.size + 1 + 1, 1, none⟩ = false := by simp [World.frozen?, m2]
   have m3 := (hb1.block (w.heap.size + 1 + 1 + 1) (by rw [Hz.out]; omega)).trans Hr.out.2.2.2
   have c3 : w1.cell? ⟨w.heap.size + 1 + 1 + 1, 0, none⟩ = some (.int .i64 (max f f2)) := cell_of_row w1 _ 0 _ _ _ m3
   have d3 : w1.cell? ⟨w.heap.size + 1 + 1 + 1, 1, none⟩ = some (.int .i64 (min t t2)) := cell_of_row w1 _ 1 _ _ _ m3
   clear m0 m1 m2 m3
   go_wp2_with fail
   refine (H2.out w1).mono ?_
   rintro e w2 ⟨rfl, hb3⟩
   have hb4 := hb1.trans (hb3.mono hb1.size)
   have hb5 := hw0.trans (hb4.mono hw0.size)
   clear c0 d0 c1 d1 c2 d2 p2 q2 c3 d3
   have m0 := (hb4.block (w.heap.size) (by rw [Hz.out]; omega)).trans Hr.out.1
   have c0 : w2.cell? ⟨w.heap.size, 0, none⟩ = some (.int .i64 f) := cell_of_row w2 _ 0 _ _ _ m0
   have d0 : w2.cell? ⟨w.heap.size, 1, none⟩ = some (.int .i64 t) := cell_of_row w2 _ 1 _ _ _ m0
   have m1 := (hb4.block (w.heap.size + 1) (by rw [Hz.out]; omega)).trans Hr.out.2.1
   have c1 : w2.cell? ⟨w.heap.size + 1, 0, none⟩ = some (.int .i64 f2) := cell_of_row w2 _ 0 _ _ _ m1
   have d1 : w2.cell? ⟨w.heap.size + 1, 1, none⟩ = some (.int .i64 t2) := cell_of_row w2 _ 1 _ _ _ m1
   have m2 := (hb4.block (w.heap.size + 1 + 1) (by rw [Hz.out]; omega)).trans Hr.out.2.2.1
   have c2 : w2.cell? ⟨w.heap.size + 1 + 1, 0, none⟩ = some (.int .i64 0) := cell_of_row w2 _ 0 _ _ _ m2
   have d2 : w2.cell? ⟨w.heap.size + 1 + 1, 1, none⟩ = some (.int .i64 0) := cell_of_row w2 _ 1 _ _ _ m2
   have p2 : w2.frozen? ⟨w.heap.size + 1 + 1, 0, none⟩ = false := by simp [World.frozen?, m2]
   have q2 : w2.frozen? ⟨w.heap.size + 1 + 1, 1, none⟩ = false := by simp [World.frozen?, m2]
   have m3 := (hb4.block (w.heap.size + 1 + 1 + 1) (by rw [Hz.out]; omega)).trans Hr.out.2.2.2
   have c3 : w2.cell? ⟨w.heap.size + 1 + 1 + 1, 0, none⟩ = some (.int .i64 (max f f2)) := cell_of_row w2 _ 0 _ _ _ m3
   have d3 : w2.cell? ⟨w.heap.size + 1 + 1 + 1, 1, none⟩ = some (.int .i64 (min t t2)) := cell_of_row w2 _ 1 _ _ _ m3
   clear m0 m1 m2 m3
   go_wp2
   rw [HE.out.1, HE.out.2]
   exact bodyPost_ret (v := .tuple #[.agg #[.int .i64 0, .int .i64 0], .bool false]) (by simp [results, Try.results23, go_sem, c2, d2]) rfl ⟨rfl, by go_grown⟩
  | true =>
   rw [hv2] at H2
   by_cases hlt : max f f2 < min t t2
   · have hm : meetB f t f2 t2 = true := HM.out.2 ⟨hv, hv2, hlt⟩
     have HE := hZ9 (And.intro (show meetV f t f2 t2 = .agg #[.int .i64 (max f f2), .int .i64 (min t t2)] by rw [HV.out, if_pos hm]) hm)
     have k1 : decide (min t t2 ≤ max f f2) = false := decide_eq_false (by omega)
     clear hm hv hv2
     go_enter Try.func23, Try.ntmps23
     go_upto_region 2 with (fail)
     rw [HX.out, HY.out, ← HW.out]
     have m0 := ((Below.refl W.heap.size W).block (w.heap.size) (by rw [Hz.out]; omega)).trans Hr.out.1
     have c0 : W.cell? ⟨w.heap.size, 0, none⟩ = some (.int .i64 f) := cell_of_row W _ 0 _ _ _ m0
     have d0 : W.cell? ⟨w.heap.size, 1, none⟩ = some (.int .i64 t) := cell_of_row W _ 1 _ _ _ m0
     have m1 := ((Below.refl W.heap.size W).block (w.heap.size + 1) (by rw [Hz.out]; omega)).trans Hr.out.2.1
     have c1 : W.cell? ⟨w.heap.size + 1, 0, none⟩ = some (.int .i64 f2) := cell_of_row W _ 0 _ _ _ m1
     have d1 : W.cell? ⟨w.heap.size + 1, 1, none⟩ = some (.int .i64 t2) := cell_of_row W _ 1 _ _ _ m1
     have m2 := ((Below.refl W.heap.size W).block (w.heap.size + 1 + 1) (by rw [Hz.out]; omega)).trans Hr.out.2.2.1
     have c2 : W.cell? ⟨w.heap.size + 1 + 1, 0, none⟩ = some (.int .i64 0) := cell_of_row W _ 0 _ _ _ m2
     have d2 : W.cell? ⟨w.heap.size + 1 + 1, 1, none⟩ = some (.int .i64 0) := cell_of_row W _ 1 _ _ _ m2
     have p2 : W.frozen? ⟨w.heap.size + 1 + 1, 0, none⟩ = false := by simp [World.frozen?, m2]
     have q2 : W.frozen? ⟨w.heap.size + 1 + 1, 1, none⟩ = false := by simp [World.frozen?, m2]
     have m3 := ((Below.refl W.heap.size W).block (w.heap.size + 1 + 1 + 1) (by rw [Hz.out]; omega)).trans Hr.out.2.2.2
     have c3 : W.cell? ⟨w.heap.size + 1 + 1 + 1, 0, none⟩ = some (.int .i64 (max f f2)) := cell_of_row W _ 0 _ _ _ m3
     have d3 : W.cell? ⟨w.heap.size + 1 + 1 + 1, 1, none⟩ = some (.int .i64 (min t t2)) := cell_of_row W _ 1 _ _ _ m3
     clear m0 m1 m2 m3
     go_wp2_with fail
     refine (H1.out W).mono ?_
     rintro e w1 ⟨rfl, hb1⟩
     have hb2 := hw0.trans (hb1.mono hw0.size)
     clear c0 d0 c1 d1 c2 d2 p2 q2 c3 d3
     have m0 := (hb1.block (w.heap.size) (by rw [Hz.out]; omega)).trans Hr.out.1
     have c0 : w1.cell? ⟨w.heap.size, 0, none⟩ = some (.int .i64 f) := cell_of_row w1 _ 0 _ _ _ m0
     have d0 : w1.cell? ⟨w.heap.size, 1, none⟩ = some (.int .i64 t) := cell_of_row w1 _ 1 _ _ _ m0
     have m1 := (hb1.block (w.heap.size + 1) (by rw [Hz.out]; omega)).trans Hr.out.2.1
     have c1 : w1.cell? ⟨w.heap.size + 1, 0, none⟩ = some (.int .i64 f2) := cell_of_row w1 _ 0 _ _ _ m1
     have d1 : w1.cell? ⟨w.heap.size + 1, 1, none⟩ = some (.int .i64 t2) := cell_of_row w1 _ 1 _ _ _ m1
     have m2 := (hb1.block (w.heap.size + 1 + 1) (by rw [Hz.out]; omega)).trans Hr.out.2.2.1
     have c2 : w1.cell? ⟨w.heap.size + 1 + 1, 0, none⟩ = some (.int .i64 0) := cell_of_row w1 _ 0 _ _ _ m2
     have d2 : w1.cell? ⟨w.heap.size + 1 + 1, 1, none⟩ = some (.int .i64 0) := cell_of_row w1 _ 1 _ _ _ m2
     have p2 : w1.frozen? ⟨w.heap.size + 1 + 1, 0, none⟩ = false := by simp [World.frozen?, m2]
     have q2 : w1.frozen? ⟨w.heap.size + 1 + 1, 1, none⟩ = false := by simp [World.frozen?, m2]
     have m3 := (hb1.block (w.heap.size + 1 + 1 + 1) (by rw [Hz.out]; omega)).trans Hr.out.2.2.2
     have c3 : w1.cell? ⟨w.heap.size + 1 + 1 + 1, 0, none⟩ = some (.int .i64 (max f f2)) := cell_of_row w1 _ 0 _ _ _ m3
     have d3 : w1.cell? ⟨w.heap.size + 1 + 1 + 1, 1, none⟩ = some (.int .i64 (min t t2)) := cell_of_row w1 _ 1 _ _ _ m3
     clear m0 m1 m2 m3
     go_wp2_with fail
     refine (H2.out w1).mono ?_
     rintro e w2 ⟨rfl, hb3⟩
     have hb4 := hb1.trans (hb3.mono hb1.size)
     have hb5 := hw0.trans (hb4.mono hw0.size)
     clear c0 d0 c1 d1 c2 d2 p2 q2 c3 d3
     have m0 := (hb4.block (w.heap.size) (by rw [Hz.out]; omega)).trans Hr.out.1
     have c0 : w2.cell? ⟨w.heap.size, 0, none⟩ = some (.int .i64 f) := cell_of_row w2 _ 0 _ _ _ m0
     have d0 : w2.cell? ⟨w.heap.size, 1, none⟩ = some (.int .i64 t) := cell_of_row w2 _ 1 _ _ _ m0
     have m1 := (hb4.block (w.heap.size + 1) (by rw [Hz.out]; omega)).trans Hr.out.2.1
     have c1 : w2.cell? ⟨w.heap.size + 1, 0, none⟩ = some (.int .i64 f2) := cell_of_row w2 _ 0 _ _ _ m1
     have d1 : w2.cell? ⟨w.heap.size + 1, 1, none⟩ = some (.int .i64 t2) := cell_of_row w2 _ 1 _ _ _ m1
     have m2 := (hb4.block (w.heap.size + 1 + 1) (by rw [Hz.out]; omega)).trans Hr.out.2.2.1
     have c2 : w2.cell? ⟨w.heap.size + 1 + 1, 0, none⟩ = some (.int .i64 0) := cell_of_row w2 _ 0 _ _ _ m2
     have d2 : w2.cell? ⟨w.heap.size + 1 + 1, 1, none⟩ = some (.int .i64 0) := cell_of_row w2 _ 1 _ _ _ m2
     have p2 : w2.frozen? ⟨w.heap.size + 1 + 1, 0, none⟩ = false := by simp [World.frozen?, m2]
     have q2 : w2.frozen? ⟨w.heap.size + 1 + 1, 1, none⟩ = false := by simp [World.frozen?, m2]
     have m3 := (hb4.block (w.heap.size + 1 + 1 + 1) (by rw [Hz.out]; omega)).trans Hr.out.2.2.2
     have c3 : w2.cell? ⟨w.heap.size + 1 + 1 + 1, 0, none⟩ = some (.int .i64 (max f f2)) := cell_of_row w2 _ 0 _ _ _ m3
     have d3 : w2.cell? ⟨w.heap.size + 1 + 1 + 1, 1, none⟩ = some (.int .i64 (min t t2)) := cell_of_row w2 _ 1 _ _ _ m3
     clear m0 m1 m2 m3
     go_wp2
     rw [HE.out.1, HE.out.2]
     exact bodyPost_ret (v := .tuple #[.agg #[.int .i64 (max f f2), .int .i64 (min t t2)], .bool true]) (by simp [results, Try.results23, go_sem, c2, d2]) rfl ⟨rfl, by go_grown⟩
   have hm : meetB f t f2 t2 = false := (bool_no HM.out (fun h => hlt h.2.2)).symm
   have HE := hZ9 (And.intro (show meetV f t f2 t2 = .agg #[.int .i64 0, .int .i64 0] by rw [HV.out, if_neg (by rw [hm]; decide)]) hm)
   have k1 : decide (min t t2 ≤ max f f2) = true := decide_eq_true (by omega)
   clear hm hv hv2
   go_enter Try.func23, Try.ntmps23
   go_upto_region 2 with (fail)
   rw [HX.out, HY.out, ← HW.out]
   have m0 := ((Below.refl W.heap.size W).block (w.heap.size) (by rw [Hz.out]; omega)).trans Hr.out.1
   have c0 : W.cell? ⟨w.heap.size, 0, none⟩ = some (.int .i64 f) := cell_of_row W _ 0 _ _ _ m0
   have d0 : W.cell? ⟨w.heap.size, 1, none⟩ = some (.int .i64 t) := cell_of_row W _ 1 _ _ _ m0
   have m1 := ((Below.refl W.heap.size W).block (w.heap.size + 1) (by rw [Hz.out]; omega)).trans Hr.out.2.1
   have c1 : W.cell? ⟨w.heap.size + 1, 0, none⟩ = some (.int .i64 f2) := cell_of_row W _ 0 _ _ _ m1
   have d1 : W.cell? ⟨w.heap.size + 1, 1, none⟩ = some (.int .i64 t2) := cell_of_row W _ 1 _ _ _ m1
   have m2 := ((Below.refl W.heap.size W).block (w.heap.size + 1 + 1) (by rw [Hz.out]; omega)).trans Hr.out.2.2.1
   have c2 : W.cell? ⟨w.heap.size + 1 + 1, 0, none⟩ = some (.int .i64 0) := cell_of_row W _ 0 _ _ _ m2
   have d2 : W.cell? ⟨w.heap.size + 1 + 1, 1, none⟩ = some (.int .i64 0) := cell_of_row W _ 1 _ _ _ m2
   have p2 : W.frozen? ⟨w.heap.size + 1 + 1, 0, none⟩ = false := by simp [World.frozen?, m2]
   have q2 : W.frozen? ⟨w.heap.size + 1 + 1, 1, none⟩ = false := by simp [World.frozen?, m2]
   have m3 := ((Below.refl W.heap.size W).block (w.heap.size + 1 + 1 + 1) (by rw [Hz.out]; omega)).trans Hr.out.2.2.2
   have c3 : W.cell? ⟨w.heap.size + 1 + 1 + 1, 0, none⟩ = some (.int .i64 (max f f2)) := cell_of_row W _ 0 _ _ _ m3
   have d3 : W.cell? ⟨w.heap.size + 1 + 1 + 1, 1, none⟩ = some (.int .i64 (min t t2)) := cell_of_row W _ 1 _ _ _ m3
   clear m0 m1 m2 m3
   go_wp2_with fail
   refine (H1.out W).mono ?_
   rintro e w1 ⟨rfl, hb1⟩
   have hb2 := hw0.trans (hb1.mono hw0.size)
   clear c0 d0 c1 d1 c2 d2 p2 q2 c3 d3
   have m0 := (hb1.block (w.heap.size) (by rw [Hz.out]; omega)).trans Hr.out.1
   have c0 : w1.cell? ⟨w.heap.size, 0, none⟩ = some (.int .i64 f) := cell_of_row w1 _ 0 _ _ _ m0
   have d0 : w1.cell? ⟨w.heap.size, 1, none⟩ = some (.int .i64 t) := cell_of_row w1 _ 1 _ _ _ m0
   have m1 := (hb1.block (w.heap.size + 1) (by rw [Hz.out]; omega)).trans Hr.out.2.1
   have c1 : w1.cell? ⟨w.heap.size + 1, 0, none⟩ = some (.int .i64 f2) := cell_of_row w1 _ 0 _ _ _ m1
   have d1 : w1.cell? ⟨w.heap.size + 1, 1, none⟩ = some (.int .i64 t2) := cell_of_row w1 _ 1 _ _ _ m1
   have m2 := (hb1.block (w.heap.size + 1 + 1) (by rw [Hz.out]; omega)).trans Hr.out.2.2.1
   have c2 : w1.cell? ⟨w.heap.size + 1 + 1, 0, none⟩ = some (.int .i64 0) := cell_of_row w1 _ 0 _ _ _ m2
   have d2 : w1.cell? ⟨w.heap.size + 1 + 1, 1, none⟩ = some (.int .i64 0) := cell_of_row w1 _ 1 _ _ _ m2
   have p2 : w1.frozen? ⟨w.heap.size + 1 + 1, 0, none⟩ = false := by simp [World.frozen?, m2]
   have q2 : w1.frozen? ⟨w.heap.size + 1 + 1, 1, none⟩ = false := by simp [World.frozen?, m2]
   have m3 := (hb1.block (w.heap.size + 1 + 1 + 1) (by rw [Hz.out]; omega)).trans Hr.out.2.2.2
   have c3 : w1.cell? ⟨w.heap.size + 1 + 1 + 1, 0, none⟩ = some (.int .i64 (max f f2)) := cell_of_row w1 _ 0 _ _ _ m3
   have d3 : w1.cell? ⟨w.heap.size + 1 + 1 + 1, 1, none⟩ = some (.int .i64 (min t t2)) := cell_of_row w1 _ 1 _ _ _ m3
   clear m0 m1 m2 m3
   go_wp2_with fail
   refine (H2.out w1).mono ?_
   rintro e w2 ⟨rfl, hb3⟩
   have hb4 := hb1.trans (hb3.mono hb1.size)
   have hb5 := hw0.trans (hb4.mono hw0.size)
   clear c0 d0 c1 d1 c2 d2 p2 q2 c3 d3
   have m0 := (hb4.block (w.heap.size) (by rw [Hz.out]; omega)).trans Hr.out.1
   have c0 : w2.cell? ⟨w.heap.size, 0, none⟩ = some (.int .i64 f) := cell_of_row w2 _ 0 _ _ _ m0
   have d0 : w2.cell? ⟨w.heap.size, 1, none⟩ = some (.int .i64 t) := cell_of_row w2 _ 1 _ _ _ m0
   have m1 := (hb4.block (w.heap.size + 1) (by rw [Hz.out]; omega)).trans Hr.out.2.1
   have c1 : w2.cell? ⟨w.heap.size + 1, 0, none⟩ = some (.int .i64 f2) := cell_of_row w2 _ 0 _ _ _ m1
   have d1 : w2.cell? ⟨w.heap.size + 1, 1, none⟩ = some (.int .i64 t2) := cell_of_row w2 _ 1 _ _ _ m1
   have m2 := (hb4.block (w.heap.size + 1 + 1) (by rw [Hz.out]; omega)).trans Hr.out.2.2.1
   have c2 : w2.cell? ⟨w.heap.size + 1 + 1, 0, none⟩ = some (.int .i64 0) := cell_of_row w2 _ 0 _ _ _ m2
   have d2 : w2.cell? ⟨w.heap.size + 1 + 1, 1, none⟩ = some (.int .i64 0) := cell_of_row w2 _ 1 _ _ _ m2
   have p2 : w2.frozen? ⟨w.heap.size + 1 + 1, 0, none⟩ = false := by simp [World.frozen?, m2]
   have q2 : w2.frozen? ⟨w.heap.size + 1 + 1, 1, none⟩ = false := by simp [World.frozen?, m2]
   have m3 := (hb4.block (w.heap.size + 1 + 1 + 1) (by rw [Hz.out]; omega)).trans Hr.out.2.2.2
   have c3 : w2.cell? ⟨w.heap.size + 1 + 1 + 1, 0, none⟩ = some (.int .i64 (max f f2)) := cell_of_row w2 _ 0 _ _ _ m3
   have d3 : w2.cell? ⟨w.heap.size + 1 + 1 + 1, 1, none⟩ = some (.int .i64 (min t t2)) := cell_of_row w2 _ 1 _ _ _ m3
   clear m0 m1 m2 m3
   go_wp2
   rw [HE.out.1, HE.out.2]
   exact bodyPost_ret (v := .tuple #[.agg #[.int .i64 0, .int .i64 0], .bool false]) (by simp [results, Try.results23, go_sem, c2, d2]) rfl ⟨rfl, by go_grown⟩
end Go.Proofs.Ytngippiilgdnoaa
namespace Go.Proofs.Ytngippiilgdnoaa
open Go.RowKit
end Go.Proofs.Ytngippiilgdnoaa
namespace Go.Proofs.Ytngippiilgdnoaa
open Go.RowKit
def IntC (w : World) (b o : Nat) (n : Int) : Prop := w.cell? ⟨b, o, none⟩ = some (.int .i64 n)
theorem IntC.stays : Stays IntC := fun _ _ b o _ hb hB h => (hb.cell (p := ⟨b, o, none⟩) hB).trans h
def IcsAt (w : World) (v : Value) (l : List Int) : Prop := SliceAt 1 IntC w v l
theorem IcsAt.below {w w' : World} {v : Value} {l : List Int} (h : IcsAt w v l) (hb : Below w.heap.size w w') : IcsAt w' v l := SliceAt.below IntC.stays h hb
def icCells (n : Int) : List Value := [.int .i64 n]
theorem flat_ic (l : List Int) : l.flatMap icCells = l.map (Value.int .i64) := by
 induction l with
 | nil => rfl
 | cons a l ih => rw [List.flatMap_cons, ih]; rfl
theorem IcsAt.own {w : World} {base : Nat} {e : TypeId} {v : Value} {l : List Int} (h : w.ownsRow base e 1 v l.length (l.map (Value.int .i64))) : IcsAt w v l := by
 rw [← flat_ic] at h
 exact SliceAt.own icCells (fun _ => rfl) h fun g o i hi hc => hc 0 Nat.zero_lt_one
def addStep (n : Int) (s : List Int × Bool) (x : Int) : List Int × Bool :=
 if s.2 = false ∧ n ≤ x then (if x = n then (s.1 ++ [n], true) else (s.1 ++ [n] ++ [x], true)) else (if x = n then s else (s.1 ++ [x], s.2))
def addL (l : List Int) (n : Int) : List Int := if (l.foldl (addStep n) ([], false)).2 = true then (l.foldl (addStep n) ([], false)).1 else (l.foldl (addStep n) ([], false)).1 ++ [n]
end Go.Proofs.Ytngippiilgdnoaa
namespace Go.Proofs.Ytngippiilgdnoaa
open Go.RowKit
open Go.RowKit
open Go.RowKit
open Go.RowKit
end Go.Proofs.Ytngippiilgdnoaa
