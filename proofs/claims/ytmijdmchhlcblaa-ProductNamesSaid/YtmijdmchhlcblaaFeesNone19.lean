/-
  product.Fees at a bad period.
-/
import Derived.Test.YtmijdmchhlcblaaFees19
namespace Go.Proofs.Ytmijdmchhlcblaa
open Go.RowKit

set_option maxRecDepth 100000 in
set_option maxHeartbeats 1600000 in
theorem fees_none (av : Option Addr) (n cap : Nat) (s : ByteArray) (f t : Int) (w : World) (h : ¬ (0 ≤ f ∧ f < t ∧ t ≤ 12622780800)) :
    Calls Try.prog 28 #[.slice av n cap, .string s, .agg #[.int .i64 f, .int .i64 t]] w fun e w' => e = .returned (.slice none 0 0) ∧ Below w.heap.size w w' := by
  by_cases h1 : f < 0
  · have k1 : decide (f < 0) = true := decide_eq_true h1
    clear h
    go_enter Try.func28, Try.ntmps28
    go_wp2
    go_ret
    exact ⟨rfl, by go_grown⟩
  · have k1 : decide (f < 0) = false := decide_eq_false h1
    by_cases h2 : t ≤ f
    · have k2 : decide (t ≤ f) = true := decide_eq_true h2
      clear h
      go_enter Try.func28, Try.ntmps28
      go_wp2
      go_ret
      exact ⟨rfl, by go_grown⟩
    · have k2 : decide (t ≤ f) = false := decide_eq_false h2
      have k3 : decide (12622780800 < t) = true := decide_eq_true (by omega)
      clear h
      go_enter Try.func28, Try.ntmps28
      go_wp2
      go_ret
      exact ⟨rfl, by go_grown⟩
end Go.Proofs.Ytmijdmchhlcblaa
