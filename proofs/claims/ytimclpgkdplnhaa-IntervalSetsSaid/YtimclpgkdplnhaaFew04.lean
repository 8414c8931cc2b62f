/-
  The walk of billinglaw04.few.
-/
import Derived.Test.YtimclpgkdplnhaaR04b
namespace Go.Proofs.Ytimclpgkdplnhaa
open Go.RowKit

set_option maxHeartbeats 1600000 in
theorem few04_calls (va vb : Value) (a b : List (Int × Int)) (w : World) (ha : PersAt w va a) (hb : PersAt w vb b) :
    Calls Try.prog 22 #[va, vb] w fun e w' => e = .returned (.bool (decide (a.length ≤ 40) && decide (b.length ≤ 40))) ∧ Below w.heap.size w w' := by
  obtain ⟨aa, ca, rfl, -⟩ := ha
  obtain ⟨ab, cb, rfl, -⟩ := hb
  by_cases h1 : a.length ≤ 40
  · have k1 : decide ((a.length : Int) ≤ 40) = true := decide_eq_true (by omega)
    by_cases h2 : b.length ≤ 40
    · have k2 : decide ((b.length : Int) ≤ 40) = true := decide_eq_true (by omega)
      have H := Lib.hid (show true = (decide (a.length ≤ 40) && decide (b.length ≤ 40)) by rw [decide_eq_true h1, decide_eq_true h2]; rfl)
      go_enter Try.func22, Try.ntmps22
      go_wp2
      go_ret
      exact ⟨ret_bool H.out, by go_grown⟩
    · have k2 : decide ((b.length : Int) ≤ 40) = false := decide_eq_false (by omega)
      have H := Lib.hid (show false = (decide (a.length ≤ 40) && decide (b.length ≤ 40)) by rw [decide_eq_true h1, decide_eq_false h2]; rfl)
      go_enter Try.func22, Try.ntmps22
      go_wp2
      go_ret
      exact ⟨ret_bool H.out, by go_grown⟩
  · have k1 : decide ((a.length : Int) ≤ 40) = false := decide_eq_false (by omega)
    have H := Lib.hid (show false = (decide (a.length ≤ 40) && decide (b.length ≤ 40)) by rw [decide_eq_false h1]; rfl)
    go_enter Try.func22, Try.ntmps22
    go_wp2
    go_ret
    exact ⟨ret_bool H.out, by go_grown⟩
end Go.Proofs.Ytimclpgkdplnhaa
