/-
  The law of the periods' own questions: it returns true.
-/
import Derived.Test.YtimclpgkdplnhaaAwake04
import Derived.Test.YtimclpgkdplnhaaR04d
namespace Go.Proofs.Ytimclpgkdplnhaa
open Go.RowKit

set_option maxRecDepth 100000 in
set_option maxHeartbeats 6400000 in
theorem points_law (f t f2 t2 x : Int) (w : World) :
    Calls Try.prog 10 #[.agg #[.int .i64 f, .int .i64 t], .agg #[.int .i64 f2, .int .i64 t2], .int .i64 x] w fun e w' => e = .returned (.bool true) ∧ Below w.heap.size w w' := by
  obtain ⟨W, hW⟩ : ∃ W, W = (w.alloc (Obj.cells #[.int .i64 f, .int .i64 t] 23)).alloc (Obj.cells #[.int .i64 f2, .int .i64 t2] 23) := ⟨_, rfl⟩
  have hw0 : Below w.heap.size w W := by rw [hW]; go_grown
  have hz : W.heap.size = w.heap.size + 2 := by rw [hW]; simp
  have r0 : W.heap[w.heap.size]? = some (Obj.cells #[.int .i64 f, .int .i64 t] 23) := by rw [hW, Below.heap_alloc _ _ _ (by simp)]; exact heap_alloc_new _ _
  have r1 : W.heap[w.heap.size + 1]? = some (Obj.cells #[.int .i64 f2, .int .i64 t2] 23) := by rw [hW]; simpa using heap_alloc_new (w.alloc _) _
  have HM := Lib.hid (show ∀ w', Below W.heap.size W w' → (w'.cell? ⟨w.heap.size, 0, none⟩ = some (.int .i64 f) ∧ w'.cell? ⟨w.heap.size, 1, none⟩ = some (.int .i64 t)) ∧ w'.cell? ⟨w.heap.size + 1, 0, none⟩ = some (.int .i64 f2) ∧ w'.cell? ⟨w.heap.size + 1, 1, none⟩ = some (.int .i64 t2) from fun w' hb => by
    have q := (hb.block w.heap.size (by omega)).trans r0
    have q2 := (hb.block (w.heap.size + 1) (by omega)).trans r1
    exact ⟨⟨cell_of_row w' _ 0 _ _ _ q, cell_of_row w' _ 1 _ _ _ q⟩, cell_of_row w' _ 0 _ _ _ q2, cell_of_row w' _ 1 _ _ _ q2⟩)
  have HW := Lib.hid hW
  have H1 := Lib.hid (fun w1 => intersect_calls f t f2 t2 w1)
  have H2 := Lib.hid (fun w1 => rintersect_calls f t f2 t2 w1)
  have hv : ∃ g h, meetV f t f2 t2 = .agg #[.int .i64 g, .int .i64 h] := by
    unfold meetV
    split
    · exact ⟨_, _, rfl⟩
    · exact ⟨_, _, rfl⟩
  obtain ⟨g, h, hv⟩ := hv
  rw [hv] at H1 H2
  generalize meetB f t f2 t2 = mb at *
  have V1 := Lib.hid (fun w1 => valid_calls f t w1)
  have V2 := Lib.hid (fun w1 => rvalid_calls f t w1)
  have C1 := Lib.hid (fun w1 => contains_calls f t x w1)
  have C2 := Lib.hid (fun w1 => rcontains_calls f t x w1)
  generalize validB f t = vb at *
  generalize containsB f t x = cb at *
  clear hv hW r0 r1 hz
  obtain ⟨⟨m0, m1⟩, m2, m3⟩ := HM.out W (Below.refl _ _)
  go_enter Try.func10, Try.ntmps10
  go_upto_region 1 with (fail)
  rw [← HW.out]
  go_wp2_with fail
  refine (H1.out W).mono ?_
  rintro e w1 ⟨rfl, hb1⟩
  obtain ⟨W2, hW2⟩ : ∃ X, X = w1.alloc (Obj.cells #[Value.int .i64 g, Value.int .i64 h] 23) := ⟨_, rfl⟩
  have r2 : W2.heap[w1.heap.size]? = some (Obj.cells #[Value.int .i64 g, Value.int .i64 h] 23) := by rw [hW2]; exact heap_alloc_new _ _
  have hz2 : w1.heap.size < W2.heap.size := by rw [hW2]; simp
  have hb2 : Below W.heap.size W W2 := by rw [hW2]; exact hb1.alloc hb1.size _
  have HP := Lib.hid (show ∀ w', Below W2.heap.size W2 w' → w'.cell? ⟨w1.heap.size, 0, none⟩ = some (.int .i64 g) ∧ w'.cell? ⟨w1.heap.size, 1, none⟩ = some (.int .i64 h) from fun w' hb => by
    have q := (hb.block _ hz2).trans r2
    exact ⟨cell_of_row w' _ 0 _ _ _ q, cell_of_row w' _ 1 _ _ _ q⟩)
  have HW2 := Lib.hid hW2
  clear m0 m1 m2 m3 hW2 r2
  obtain ⟨⟨m0, m1⟩, m2, m3⟩ := HM.out W2 hb2
  go_upto_region 2 with (fail)
  rw [← HW2.out]
  go_wp2_with fail
  refine (H2.out W2).mono ?_
  rintro e w3 ⟨rfl, hb3⟩
  obtain ⟨W4, hW4⟩ : ∃ X, X = w3.alloc (Obj.cells #[Value.int .i64 g, Value.int .i64 h] 23) := ⟨_, rfl⟩
  have r4 : W4.heap[w3.heap.size]? = some (Obj.cells #[Value.int .i64 g, Value.int .i64 h] 23) := by rw [hW4]; exact heap_alloc_new _ _
  have hz4 : w3.heap.size < W4.heap.size := by rw [hW4]; simp
  have hb4 : Below W2.heap.size W2 W4 := by rw [hW4]; exact hb3.alloc hb3.size _
  have hb4W := hb2.trans (hb4.mono hb2.size)
  have HQ := Lib.hid (show ∀ w', Below W4.heap.size W4 w' → w'.cell? ⟨w3.heap.size, 0, none⟩ = some (.int .i64 g) ∧ w'.cell? ⟨w3.heap.size, 1, none⟩ = some (.int .i64 h) from fun w' hb => by
    have q := (hb.block _ hz4).trans r4
    exact ⟨cell_of_row w' _ 0 _ _ _ q, cell_of_row w' _ 1 _ _ _ q⟩)
  have HW4 := Lib.hid hW4
  clear m0 m1 m2 m3 hW4 r4
  go_upto_region 3 with (fail)
  rw [← HW4.out]
  have Mk := Lib.hid (show ∀ w', Below W4.heap.size W4 w' → Below W4.heap.size W4 w' ∧ w'.cell? ⟨w.heap.size, 0, none⟩ = some (.int .i64 f) ∧ w'.cell? ⟨w.heap.size, 1, none⟩ = some (.int .i64 t) ∧ w'.cell? ⟨w1.heap.size, 0, none⟩ = some (.int .i64 g) ∧ w'.cell? ⟨w1.heap.size, 1, none⟩ = some (.int .i64 h) ∧ w'.cell? ⟨w3.heap.size, 0, none⟩ = some (.int .i64 g) ∧ w'.cell? ⟨w3.heap.size, 1, none⟩ = some (.int .i64 h) from fun w' hb =>
    ⟨hb, (HM.out w' (hb4W.trans (hb.mono hb4W.size))).1.1, (HM.out w' (hb4W.trans (hb.mono hb4W.size))).1.2, (HP.out w' (hb4.trans (hb.mono hb4.size))).1, (HP.out w' (hb4.trans (hb.mono hb4.size))).2, (HQ.out w' hb).1, (HQ.out w' hb).2⟩)
  have hr0 := Below.refl W4.heap.size W4
  go_region_held3 (fun w' : World => Below W4.heap.size W4 w' ∧ w'.cell? ⟨w.heap.size, 0, none⟩ = some (.int .i64 f) ∧ w'.cell? ⟨w.heap.size, 1, none⟩ = some (.int .i64 t) ∧ w'.cell? ⟨w1.heap.size, 0, none⟩ = some (.int .i64 g) ∧ w'.cell? ⟨w1.heap.size, 1, none⟩ = some (.int .i64 h) ∧ w'.cell? ⟨w3.heap.size, 0, none⟩ = some (.int .i64 g) ∧ w'.cell? ⟨w3.heap.size, 1, none⟩ = some (.int .i64 h))
    (first
      | exact Mk.out _ (by assumption)
      | exact Mk.out _ (Below.drew (by assumption)))
    (first
      | (go_at_call 32
         refine (V1.out _).mono ?_
         rintro e v1 ⟨rfl, hbx⟩
         have hY1 : Below W4.heap.size W4 v1 := Below.trans (And.left (by assumption)) (hbx.mono (Below.size (And.left (by assumption))))
         clear hbx)
      | (go_at_call 15
         refine (V2.out _).mono ?_
         rintro e v2 ⟨rfl, hbx⟩
         have hY2 : Below W4.heap.size W4 v2 := Below.trans (And.left (by assumption)) (hbx.mono (Below.size (And.left (by assumption))))
         clear hbx)
      | (go_at_call 33
         refine (C1.out _).mono ?_
         rintro e v3 ⟨rfl, hbx⟩
         have hY3 : Below W4.heap.size W4 v3 := Below.trans (And.left (by assumption)) (hbx.mono (Below.size (And.left (by assumption))))
         clear hbx)
      | (go_at_call 34
         refine (C2.out _).mono ?_
         rintro e v4 ⟨rfl, hbx⟩
         have hY4 : Below W4.heap.size W4 v4 := Below.trans (And.left (by assumption)) (hbx.mono (Below.size (And.left (by assumption))))
         clear hbx)
      | (go_at_call 18
         refine (awake_calls _).mono ?_
         rintro e v5 ⟨rfl, hbx⟩
         have hY5 : Below W4.heap.size W4 v5 := Below.trans (And.left (by assumption)) (hbx.mono (Below.size (And.left (by assumption))))
         clear hbx))
  go_wp2
  go_ret
  exact ⟨rfl, hw0.trans ((hb4W.trans (hY5.mono hb4W.size)).mono hw0.size)⟩
end Go.Proofs.Ytimclpgkdplnhaa
