/-
  The walks of what an event is by itself: the fields that it uses, names, values.
-/
import Derived.Test.YtngippiilgdnoaaGreatMgal
namespace Go.Proofs.YtngippiilgdnoaaGreat
open Go.RowKit

/-- Some truth. -/
def SomeB (w : World) (e : Ending) (w' : World) : Prop := ∃ b, e = .returned (.bool b) ∧ w = w'
theorem someB {w : World} (b : Bool) : SomeB w (.returned (.bool b)) w := ⟨b, rfl, rfl⟩

def idB (n : Int) : Bool := decide (1 ≤ n ∧ n ≤ 9999)
theorem idB_iff (n : Int) : idB n = true ↔ 1 ≤ n ∧ n ≤ 9999 := decide_eq_true_iff
theorem id_calls (n : Int) (w : World) : Calls Tryz.prog 150 #[.int .i64 n] w fun e w' => e = .returned (.bool (idB n)) ∧ w = w' := by
  by_cases h1 : 1 ≤ n
  · have k1 : decide (1 ≤ n) = true := decide_eq_true h1
    by_cases h2 : n ≤ 9999
    · have k2 : decide (n ≤ 9999) = true := decide_eq_true h2
      have H := Lib.hid (show idB n = true from decide_eq_true ⟨h1, h2⟩)
      go_enter Tryz.func150, Tryz.ntmps150
      go_wp2
      go_ret
      exact ⟨ret_bool H.out.symm, rfl⟩
    · have k2 : decide (n ≤ 9999) = false := decide_eq_false h2
      have H := Lib.hid (show idB n = false from decide_eq_false fun h => h2 h.2)
      go_enter Tryz.func150, Tryz.ntmps150
      go_wp2
      go_ret
      exact ⟨ret_bool H.out.symm, rfl⟩
  · have k1 : decide (1 ≤ n) = false := decide_eq_false h1
    have H := Lib.hid (show idB n = false from decide_eq_false fun h => h1 h.1)
    go_enter Tryz.func150, Tryz.ntmps150
    go_wp2
    go_ret
    exact ⟨ret_bool H.out.symm, rfl⟩

set_option maxRecDepth 100000 in
set_option maxHeartbeats 1600000 in
theorem name17_calls (s : ByteArray) (w : World) (hs : s.size ≤ maxLen) : Calls Tryz.prog 119 #[.string s] w (SomeB w) := by
  unfold maxLen at hs
  by_cases h0 : 0 < s.size
  · by_cases h24 : s.size ≤ 24
    · go_enter Tryz.func119, Tryz.ntmps119
      go_wp2
      all_goals first
        | (go_ret; exact someB _)
        | skip
      go_loop [3] (fun i => ∃ k : Nat, k ≤ s.size ∧ i = .int .i64 k) (fun i => s.size - (intOf i).toNat)
      case atStart => exact ⟨0, Nat.zero_le _, rfl⟩
      case round =>
        obtain ⟨k, hk, rfl⟩ := hrel
        by_cases hlt : k < s.size
        · have hk1 : (k : Int) < (s.size : Int) := by omega
          have hk0 : (0 : Int) ≤ (k : Int) := Int.natCast_nonneg _
          go_wp2
          all_goals first
            | (go_ret; exact someB _)
            | exact ⟨⟨k + 1, by omega, by go_num⟩, by simp [intOf]; omega⟩
        · go_wp2
          go_ret
          exact someB _
    · go_enter Tryz.func119, Tryz.ntmps119
      go_wp2
      go_ret
      exact someB _
  · go_enter Tryz.func119, Tryz.ntmps119
    go_wp2
    go_ret
    exact someB _

/-- The fields that a kind of event uses. -/
def usV (k : Int) : Array Value :=
  if k = 1 then #[.bool true, .bool false, .bool false, .bool true, .bool true]
  else if k = 2 then #[.bool true, .bool false, .bool false, .bool false, .bool false]
  else if k = 3 then #[.bool true, .bool true, .bool false, .bool true, .bool false]
  else if k = 5 ∨ k = 6 then #[.bool false, .bool true, .bool true, .bool false, .bool false]
  else if k = 7 ∨ k = 8 ∨ k = 9 then #[.bool false, .bool true, .bool false, .bool true, .bool false]
  else if k = 14 ∨ k = 15 then #[.bool true, .bool false, .bool false, .bool false, .bool true]
  else #[.bool false, .bool true, .bool false, .bool false, .bool false]
set_option maxRecDepth 100000 in
set_option maxHeartbeats 6400000 in
theorem uses_calls (k : Int) (w : World) (h1 : 1 ≤ k) (h2 : k ≤ 15) : Calls Tryz.prog 113 #[.int .i64 k] w fun e w' => e = .returned (.agg (usV k)) ∧ Below w.heap.size w w' := by
  obtain rfl | rfl | rfl | rfl | rfl | rfl | rfl | rfl | rfl | rfl | rfl | rfl | rfl | rfl | rfl : k = 1 ∨ k = 2 ∨ k = 3 ∨ k = 4 ∨ k = 5 ∨ k = 6 ∨ k = 7 ∨ k = 8 ∨ k = 9 ∨ k = 10 ∨ k = 11 ∨ k = 12 ∨ k = 13 ∨ k = 14 ∨ k = 15 := by omega
  all_goals
    go_enter Tryz.func113, Tryz.ntmps113
    go_wp2
    refine bodyPost_ret (v := .agg _) (by simp [results, Tryz.results113, go_sem]; rfl) rfl ⟨rfl, ?_⟩
    go_grown
end Go.Proofs.YtngippiilgdnoaaGreat
