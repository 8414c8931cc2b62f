/-
  What all walks share: the imports, and returned values by their equations.
  The walk of checker.within: are all numbers from 0 to a bound?
-/
import Derived.Test.YtohmdohbmmbbkaaDoorProg
import Derived.WalkKit
import Derived.WalkSpells
import Derived.WalkLawsBesides
import Derived.Lib.Hide
namespace Go.Proofs.YtohmdohbmmbbkaaDoor
open Go.RowKit

theorem ret_bool {a b : Bool} (h : a = b) : Ending.returned (.bool a) = Ending.returned (.bool b) := by rw [h]
theorem ret_int {k : IntKind} {a b : Int} (h : a = b) : Ending.returned (.int k a) = Ending.returned (.int k b) := by rw [h]
end Go.Proofs.YtohmdohbmmbbkaaDoor

namespace Go.Proofs.YtohmdohbmmbbkaaDoor
open Go.RowKit

def withinB (most : Int) (xs : List Int) : Bool := xs.all fun n => decide (0 ≤ n) && decide (n ≤ most)

theorem withinB_take {most : Int} {xs : List Int} {k : Nat} (hk : k < xs.length) : withinB most (xs.take (k + 1)) = (withinB most (xs.take k) && (decide (0 ≤ xs[k]) && decide (xs[k] ≤ most))) := by
  unfold withinB
  rw [List.take_succ_eq_append_getElem hk, List.all_append]
  simp

theorem withinB_false {most : Int} {xs : List Int} {k : Nat} (hk : k < xs.length) (h : ¬ (0 ≤ xs[k] ∧ xs[k] ≤ most)) : withinB most xs = false := by
  unfold withinB
  rw [List.all_eq_false]
  exact ⟨xs[k], List.getElem_mem hk, by simp only [Bool.and_eq_true, decide_eq_true_eq]; simpa using h⟩

set_option maxHeartbeats 400000 in
theorem within_any (most : Int) (b cap : Nat) (xs : List Int) (w : World) (hx : xs.length ≤ 1000) (hc : ∀ j (h : j < xs.length), w.cell? ⟨b, j, none⟩ = some (.int .i64 xs[j])) :
    Calls Tryd.prog 82 #[.int .i64 most, .slice (some ⟨b, 0, none⟩) xs.length cap] w fun e w' => e = .returned (.bool (withinB most xs)) ∧ w = w' := by
  go_enter Tryd.func82, Tryd.ntmps82
  go_wp2
  go_loop [9] (fun i => ∃ k : Nat, k ≤ xs.length ∧ i = .int .i64 k ∧ withinB most (xs.take k) = true) (fun i => xs.length - (intOf i).toNat)
  case atStart => exact ⟨0, Nat.zero_le _, rfl, rfl⟩
  case round =>
    obtain ⟨k, hk, rfl, hb⟩ := hrel
    have Hb := Lib.hid hb
    clear hb
    by_cases hlt : k < xs.length
    · have hcell := hc k hlt
      have h1 := @withinB_take most xs k hlt
      have h2 := @withinB_false most xs k hlt
      generalize xs[k] = x at *
      have H1 := Lib.hid h1
      have H2 := Lib.hid h2
      clear h1 h2 hc
      by_cases hin : 0 ≤ x ∧ x ≤ most
      · obtain ⟨h0, hm⟩ := hin
        go_wp2
        go_round
        case rel => exact ⟨k + 1, by omega, by go_num, by rw [H1.out, Hb.out]; simp [h0, hm]⟩
        case measure => simp [intOf]; omega
      · go_wp2
        all_goals first | (exfalso; omega) | (go_ret; exact ⟨ret_bool (H2.out hin).symm, rfl⟩)
    · go_wp2
      go_ret
      exact ⟨ret_bool (by rw [← Hb.out, List.take_of_length_le (by omega)]), rfl⟩

theorem within_two (most a c : Int) (B : Nat) (r : Bool) (w : World) (h0 : w.cell? ⟨B, 0, none⟩ = some (.int .i64 a)) (h1 : w.cell? ⟨B, 1, none⟩ = some (.int .i64 c)) (hr : withinB most [a, c] = r) :
    Calls Tryd.prog 82 #[.int .i64 most, .slice (some ⟨B, 0, none⟩) 2 2] w fun e w' => e = .returned (.bool r) ∧ w = w' := by
  subst hr
  refine within_any most B 2 [a, c] w (by simp) fun j hj => ?_
  match j, hj with
  | 0, _ => exact h0
  | 1, _ => exact h1

theorem within_one (most a : Int) (B : Nat) (r : Bool) (w : World) (h0 : w.cell? ⟨B, 0, none⟩ = some (.int .i64 a)) (hr : withinB most [a] = r) :
    Calls Tryd.prog 82 #[.int .i64 most, .slice (some ⟨B, 0, none⟩) 1 1] w fun e w' => e = .returned (.bool r) ∧ w = w' := by
  subst hr
  refine within_any most B 1 [a] w (by simp) fun j hj => ?_
  match j, hj with
  | 0, _ => exact h0

theorem withinB_two {most a c : Int} : withinB most [a, c] = decide (0 ≤ a ∧ a ≤ most ∧ 0 ≤ c ∧ c ≤ most) := by
  unfold withinB; rw [Bool.eq_iff_iff]; simp [and_assoc]
theorem withinB_one {most a : Int} : withinB most [a] = decide (0 ≤ a ∧ a ≤ most) := by
  unfold withinB; rw [Bool.eq_iff_iff]; simp
end Go.Proofs.YtohmdohbmmbbkaaDoor
