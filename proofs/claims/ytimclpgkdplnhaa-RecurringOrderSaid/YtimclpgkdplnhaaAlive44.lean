/-
  The walk of the laws' alive of chapter 44, and of the law of Prorate: they return true.
-/
import Derived.Test.YtimclpgkdplnhaaProrate
namespace Go.Proofs.Ytimclpgkdplnhaa
open Go.RowKit

theorem lit_pro1 : proV 310 0 2678400 [(432007, 1295997)] = (100, 0) := by decide
theorem lit_pro2 : proV 100 0 2678400 [(432007, 1295997)] = (32, 0) := by decide
theorem lit_pro3 : proV 100 0 0 [(432007, 1295997)] = (0, 8) := by decide

set_option maxRecDepth 100000 in
set_option maxHeartbeats 6400000 in
theorem alive44_calls (w : World) : Calls Try.prog 12 #[] w fun e w' => e = .returned (.bool true) ∧ Below w.heap.size w w' := by
  obtain ⟨W, hW⟩ : ∃ W, W = w.alloc (Obj.cells #[Value.int .i64 0, Value.int .i64 2678400] 23) := ⟨_, rfl⟩
  have hw0 : Below w.heap.size w W := by rw [hW]; exact (Below.refl _ _).alloc (Nat.le_refl _) _
  have rW : W.heap[w.heap.size]? = some (Obj.cells #[Value.int .i64 0, Value.int .i64 2678400] 23) := by rw [hW]; exact heap_alloc_new _ _
  have hzW : w.heap.size < W.heap.size := by rw [hW]; simp
  have HM := Lib.hid (show ∀ w', Below W.heap.size W w' → w'.cell? ⟨w.heap.size, 0, none⟩ = some (.int .i64 0) ∧ w'.cell? ⟨w.heap.size, 1, none⟩ = some (.int .i64 2678400) from fun w' hb => by
    have q := (hb.block _ hzW).trans rW
    exact ⟨cell_of_row w' _ 0 _ _ _ q, cell_of_row w' _ 1 _ _ _ q⟩)
  have HW := Lib.hid hW
  obtain ⟨X, hX⟩ : ∃ X, X = W.alloc (Obj.cells #[Value.int .i64 432007, Value.int .i64 1295997] 23) := ⟨_, rfl⟩
  have hbX : Below W.heap.size W X := by rw [hX]; exact (Below.refl _ _).alloc (Nat.le_refl _) _
  have hp : PersAt X (.slice (some ⟨W.heap.size, 0, none⟩) 1 1) [(432007, 1295997)] := by rw [hX]; exact pers_block W [(432007, 1295997)] (by decide)
  have HX := Lib.hid hX
  have E1 := Lib.hid (fun w1 (hb : Below X.heap.size X w1) => prorate_calls 310 0 2678400 _ _ w1 (hp.below hb) (by decide))
  have E2 := Lib.hid (fun w1 (hb : Below X.heap.size X w1) => prorate_calls 100 0 2678400 _ _ w1 (hp.below hb) (by decide))
  have E3 := Lib.hid (fun w1 (hb : Below X.heap.size X w1) => prorate_calls 100 0 0 _ _ w1 (hp.below hb) (by decide))
  rw [lit_pro1] at E1
  rw [lit_pro2] at E2
  rw [lit_pro3] at E3
  clear hW rW hX hp
  obtain ⟨m0, m1⟩ := HM.out X hbX
  go_enter Try.func12, Try.ntmps12
  go_upto_region 2 with (fail)
  rw [← HW.out]
  go_upto_region 3 with (fail)
  rw [← HX.out]
  go_wp2_with fail
  refine (E1.out X (Below.refl _ _)).mono ?_
  rintro e w1 ⟨he, hb1⟩
  obtain rfl : e = .returned (.tuple #[.int .i64 100, .int .i64 0]) := he
  clear m0 m1
  obtain ⟨m0, m1⟩ := HM.out w1 (hbX.trans (hb1.mono hbX.size))
  go_wp2_with fail
  refine (E2.out w1 hb1).mono ?_
  rintro e w2 ⟨he, hbx⟩
  obtain rfl : e = .returned (.tuple #[.int .i64 32, .int .i64 0]) := he
  have hb2 := hb1.trans (hbx.mono hb1.size)
  clear m0 m1 hbx
  go_wp2_with fail
  refine (E3.out w2 hb2).mono ?_
  rintro e w3 ⟨he, hbx⟩
  obtain rfl : e = .returned (.tuple #[.int .i64 0, .int .i64 8]) := he
  have hb3 := hb2.trans (hbx.mono hb2.size)
  go_wp2
  go_ret
  exact ⟨rfl, hw0.trans ((hbX.trans (hb3.mono hbX.size)).mono hw0.size)⟩

set_option maxRecDepth 100000 in
set_option maxHeartbeats 3200000 in
theorem prorates_law (fee f t : Int) (va : Value) (a : List (Int × Int)) (w : World) (ha : PersAt w va a) :
    Calls Try.prog 3 #[.int .i64 fee, .agg #[.int .i64 f, .int .i64 t], va] w fun e w' => e = .returned (.bool true) ∧ Below w.heap.size w w' := by
  have ha' := ha
  obtain ⟨aa, ca, rfl, -⟩ := ha
  obtain ⟨W, hW⟩ : ∃ W, W = w.alloc (Obj.cells #[Value.int .i64 f, Value.int .i64 t] 23) := ⟨_, rfl⟩
  have hw0 : Below w.heap.size w W := by rw [hW]; exact (Below.refl _ _).alloc (Nat.le_refl _) _
  have rW : W.heap[w.heap.size]? = some (Obj.cells #[Value.int .i64 f, Value.int .i64 t] 23) := by rw [hW]; exact heap_alloc_new _ _
  have hzW : w.heap.size < W.heap.size := by rw [hW]; simp
  have HM := Lib.hid (show ∀ w', Below W.heap.size W w' → w'.cell? ⟨w.heap.size, 0, none⟩ = some (.int .i64 f) ∧ w'.cell? ⟨w.heap.size, 1, none⟩ = some (.int .i64 t) from fun w' hb => by
    have q := (hb.block _ hzW).trans rW
    exact ⟨cell_of_row w' _ 0 _ _ _ q, cell_of_row w' _ 1 _ _ _ q⟩)
  have HW := Lib.hid hW
  clear hW rW
  obtain ⟨m0, m1⟩ := HM.out W (Below.refl _ _)
  by_cases h1 : a.length ≤ 12
  · have k1 : decide ((12 : Int) < (a.length : Int)) = false := decide_eq_false (by omega)
    have k2 : decide (12 < a.length) = false := decide_eq_false (by omega)
    have HP := Lib.hid (prorate_calls fee f t _ a W (ha'.below hw0) (by omega))
    have HR := Lib.hid (fun w1 (hb : Below W.heap.size W w1) => rprorate_calls fee f t _ a w1 ((ha'.below hw0).below hb) (by omega))
    generalize proV fee f t a = V at *
    obtain ⟨x, y⟩ := V
    go_enter Try.func3, Try.ntmps3
    go_upto_region 1 with (fail)
    rw [← HW.out]
    go_wp2_with fail
    refine HP.out.mono ?_
    rintro e w1 ⟨he, hb1⟩
    obtain rfl : e = .returned (.tuple #[.int .i64 x, .int .i64 y]) := he
    clear m0 m1
    obtain ⟨m0, m1⟩ := HM.out w1 hb1
    go_wp2_with fail
    refine (HR.out w1 hb1).mono ?_
    rintro e w2 ⟨he, hbx⟩
    obtain rfl : e = .returned (.tuple #[.int .i64 x, .int .i64 y]) := he
    have hb2 := hb1.trans (hbx.mono hb1.size)
    clear m0 m1 hbx
    go_wp2_with fail
    refine (alive44_calls w2).mono ?_
    rintro e w3 ⟨rfl, hbx⟩
    go_wp2
    go_ret
    exact ⟨rfl, hw0.trans ((hb2.trans (hbx.mono hb2.size)).mono hw0.size)⟩
  · have k1 : decide ((12 : Int) < (a.length : Int)) = true := decide_eq_true (by omega)
    have k2 : decide (12 < a.length) = true := decide_eq_true (by omega)
    go_enter Try.func3, Try.ntmps3
    go_upto_region 1 with (fail)
    rw [← HW.out]
    go_wp2_with fail
    refine (alive44_calls W).mono ?_
    rintro e w3 ⟨rfl, hbx⟩
    go_wp2
    go_ret
    exact ⟨rfl, hw0.trans (hbx.mono hw0.size)⟩
end Go.Proofs.Ytimclpgkdplnhaa
