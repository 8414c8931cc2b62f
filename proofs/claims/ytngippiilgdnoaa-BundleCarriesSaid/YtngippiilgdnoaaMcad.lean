/-
  What two periods have in common, plainly.
-/
import Derived.Test.YtngippiilgdnoaaMcaa
import Derived.Handy
import Derived.Deep.QuietTactic
import Derived.BigQuiet
import Derived.Deep.DeepCutAuto
set_option maxRecDepth 100000
set_option maxHeartbeats 25600000
namespace Go.Proofs.Ytngippiilgdnoaa
open Go.RowKit
def validB (f t : Int) : Bool := decide (0 ≤ f) && decide (f < t) && decide (t ≤ 12622780800)
def containsB (f t x : Int) : Bool := validB f t && decide (f ≤ x) && decide (x < t)
theorem validB_iff (f t : Int) : validB f t = true ↔ 0 ≤ f ∧ f < t ∧ t ≤ 12622780800 := by
 unfold validB; simp [and_assoc]
theorem containsB_iff (f t x : Int) : containsB f t x = true ↔ (0 ≤ f ∧ f < t ∧ t ≤ 12622780800) ∧ f ≤ x ∧ x < t := by
 unfold containsB; rw [Bool.and_eq_true, Bool.and_eq_true, validB_iff]; simp [and_assoc]
theorem bool_of {b : Bool} {p : Prop} (h : b = true ↔ p) (hp : p) : true = b := (h.2 hp).symm
theorem bool_no {b : Bool} {p : Prop} (h : b = true ↔ p) (hp : ¬ p) : false = b := by
 cases e : b with
 | true => exact absurd (h.1 e) hp
 | false => rfl
theorem valid_calls (f t : Int) (w : World) : Calls Try.prog 30 #[.agg #[.int .i64 f, .int .i64 t]] w fun e w' => e = .returned (.bool (validB f t)) ∧ Below w.heap.size w w' := by
 by_cases h1 : 0 ≤ f
 · have k1 : decide (0 ≤ f) = true := decide_eq_true h1
   by_cases h2 : f < t
   · have k2 : decide (f < t) = true := decide_eq_true h2
     by_cases h3 : t ≤ 12622780800
     · have k3 : decide (t ≤ 12622780800) = true := decide_eq_true h3
       have H := hZ9 (bool_of (validB_iff f t) ⟨h1, h2, h3⟩)
       go_enter Try.func30, Try.ntmps30
       go_wp2
       go_ret
       exact ⟨ret_bool H.out, by go_grown⟩
     have k3 : decide (t ≤ 12622780800) = false := decide_eq_false h3
     have H := hZ9 (bool_no (validB_iff f t) (fun h => h3 h.2.2))
     go_enter Try.func30, Try.ntmps30
     go_wp2
     go_ret
     exact ⟨ret_bool H.out, by go_grown⟩
   have k2 : decide (f < t) = false := decide_eq_false h2
   have H := hZ9 (bool_no (validB_iff f t) (fun h => h2 h.2.1))
   go_enter Try.func30, Try.ntmps30
   go_wp2
   go_ret
   exact ⟨ret_bool H.out, by go_grown⟩
 have k1 : decide (0 ≤ f) = false := decide_eq_false h1
 have H := hZ9 (bool_no (validB_iff f t) (fun h => h1 h.1))
 go_enter Try.func30, Try.ntmps30
 go_wp2
 go_ret
 exact ⟨ret_bool H.out, by go_grown⟩
def meetB (f t f2 t2 : Int) : Bool := validB f t && validB f2 t2 && decide (max f f2 < min t t2)
theorem meetB_iff (f t f2 t2 : Int) : meetB f t f2 t2 = true ↔ validB f t = true ∧ validB f2 t2 = true ∧ max f f2 < min t t2 := by
 unfold meetB; rw [Bool.and_eq_true, Bool.and_eq_true, decide_eq_true_eq, and_assoc]
def meetV (f t f2 t2 : Int) : Value := if meetB f t f2 t2 = true then .agg #[.int .i64 (max f f2), .int .i64 (min t t2)] else .agg #[.int .i64 0, .int .i64 0]
end Go.Proofs.Ytngippiilgdnoaa
