/-
  The walks of the calendar: leap years, lengths of months, days before years, the number of a date's day, the beginning of a cycle.
-/
import Derived.Test.YtngippiilgdnoaaGreatMgaa
import Derived.Test.YtngippiilgdnoaaGreatMgak
import Derived.Test.YtngippiilgdnoaaGreatMgaf
import Derived.Deep.DeepCutAuto
import Derived.Deep.LoopGhost
import Derived.WalkMore
import Derived.IntWalk
namespace Go.Proofs.YtngippiilgdnoaaGreat
open Go.RowKit

theorem bne_of {a b : Int} {c : Bool} (h : (a == b) = c) : (a != b) = !c := by rw [bne, h]
set_option maxHeartbeats 800000 in
theorem leap_calls (y : Int) (w : World) (h0 : 0 ≤ y) : Calls Tryz.prog 192 #[.int .i64 y] w fun e w' => e = .returned (.bool (lpB y)) ∧ w = w' := by
  have H : lpB y = ((y % 4 == 0) && (!(y % 100 == 0)) || (y % 400 == 0)) := by
    rw [Bool.eq_iff_iff, lpB_iff]
    simp
    omega
  have H := Lib.hid H
  cases k1 : (y % 4 == 0) <;> cases k2 : (y % 100 == 0) <;> cases k3 : (y % 400 == 0)
  all_goals
    have k4 := bne_of k2
    simp only [Bool.not_true, Bool.not_false] at k4
    rw [k1, k2, k3] at H
    go_enter Tryz.func192, Tryz.ntmps192
    go_wp2
    go_ret
    exact ⟨ret_bool H.out.symm, rfl⟩

set_option maxRecDepth 100000 in
set_option maxHeartbeats 1600000 in
theorem days_calls (y m : Int) (w : World) (h0 : 0 ≤ y) (h1 : 1 ≤ m) (h2 : m ≤ 12) : Calls Tryz.prog 177 #[.int .i64 y, .int .i64 m] w fun e w' => e = .returned (.int .i64 (lenM y m)) ∧ Below w.heap.size w w' := by
  obtain rfl | rfl | rfl | rfl | rfl | rfl | rfl | rfl | rfl | rfl | rfl | rfl : m = 1 ∨ m = 2 ∨ m = 3 ∨ m = 4 ∨ m = 5 ∨ m = 6 ∨ m = 7 ∨ m = 8 ∨ m = 9 ∨ m = 10 ∨ m = 11 ∨ m = 12 := by omega
  case inr.inl =>
    cases hl : lpB y with
    | true =>
      have HL := Lib.hid (lp_of hl)
      have HC := Lib.hid (leap_calls y · h0)
      rw [hl] at HC
      clear hl
      go_enter Tryz.func177, Tryz.ntmps177
      go_wp2_with (go_at_call 192; refine (HC.out _).mono ?_; rintro e w' ⟨rfl, rfl⟩)
      go_ret
      exact ⟨ret_int (by unfold lenM; rw [HL.out]; rfl), by go_grown⟩
    | false =>
      have HL := Lib.hid (lp_of hl)
      have HC := Lib.hid (leap_calls y · h0)
      rw [hl] at HC
      clear hl
      go_enter Tryz.func177, Tryz.ntmps177
      go_wp2_with (go_at_call 192; refine (HC.out _).mono ?_; rintro e w' ⟨rfl, rfl⟩)
      go_ret
      exact ⟨ret_int (by unfold lenM; rw [HL.out]; rfl), by go_grown⟩
  all_goals
    go_enter Tryz.func177, Tryz.ntmps177
    go_wp2
    go_ret
    exact ⟨ret_int (by simp [lenM]), by go_grown⟩

theorem length_calls (y m : Int) (w : World) (h0 : 2000 ≤ y) (h3 : y ≤ 2399) (h1 : 1 ≤ m) (h2 : m ≤ 12) : Calls Tryz.prog 191 #[.int .i64 y, .int .i64 m] w fun e w' => e = .returned (.int .i64 (lenM y m)) ∧ Below w.heap.size w w' := by
  have HC := Lib.hid (days_calls y m · (by omega) h1 h2)
  go_enter Tryz.func191, Tryz.ntmps191
  go_wp2_with (go_at_call 177; refine (HC.out _).mono ?_; rintro e w1 ⟨rfl, hb1⟩)
  go_ret
  exact ⟨rfl, hb1⟩
theorem length_none (m : Int) (w : World) : Calls Tryz.prog 191 #[.int .i64 2400, .int .i64 m] w fun e w' => e = .returned (.int .i64 0) ∧ Below w.heap.size w w' := by
  go_enter Tryz.func191, Tryz.ntmps191
  go_wp2
  go_ret
  exact ⟨rfl, Below.refl _ _⟩

theorem before_calls (y : Int) (w : World) (h0 : 2000 ≤ y) (h1 : y ≤ 2401) : Calls Tryz.prog 176 #[.int .i64 y] w fun e w' => e = .returned (.int .i64 (bef y)) ∧ w = w' := by
  have HB := Lib.hid (show bef y = 365 * (y - 2000) + if y > 2000 then (y - 2001) / 4 - (y - 2001) / 100 + (y - 2001) / 400 + 1 else 0 from rfl)
  by_cases hy : 2000 < y
  · have HE : RowKit.Hid (365 * (y - 2000) + ((y - 2000 - 1) / 4 - (y - 2000 - 1) / 100 + (y - 2000 - 1) / 400 + 1) = bef y) := Lib.hid (by rw [HB.out, if_pos hy]; omega)
    have hy2 : 0 < y - 2000 := by omega
    go_enter Tryz.func176, Tryz.ntmps176
    go_wp2
    go_ret
    exact ⟨ret_int HE.out, rfl⟩
  · obtain rfl : y = 2000 := by omega
    go_enter Tryz.func176, Tryz.ntmps176
    go_wp2
    go_ret
    exact ⟨ret_int (by rw [HB.out]; rfl), rfl⟩
end Go.Proofs.YtngippiilgdnoaaGreat
