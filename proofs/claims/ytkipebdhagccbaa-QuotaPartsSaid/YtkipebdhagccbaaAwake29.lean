/-
  The walk of the ladder's awake check.
-/
import Derived.Test.YtkipebdhagccbaaSearch
namespace Go.Proofs.Ytkipebdhagccbaa
open Go.RowKit

/-- The ladder of the chapter's example. -/
def exL : List St := [⟨60, 60, 1000⟩, ⟨0, 1, 20⟩]

theorem exL_p1 : priceL exL 61 = (1020, 0) := by decide +kernel
theorem exL_p2 : priceL exL 100 = (1800, 0) := by decide +kernel
theorem exL_b1 : betweenL exL 50 20 = (200, 0) := by decide +kernel
theorem exL_u1 : unitsL exL 0 1019 = 60 := by decide +kernel
theorem exL_u2 : unitsL exL 50 0 = 10 := by decide +kernel
theorem exL_m1 : (betweenL exL 0 1).1 = 1000 := by decide +kernel
theorem exL_m2 : (betweenL exL 60 1).1 = 20 := by decide +kernel

/-- A contract offered in a later world, that speaks of the first one. -/
theorem later {P : Program} {f : FuncId} {args : Array Value} {W w : World} {v v' : Value} (hb : Below W.heap.size W w) (h : Calls P f args w fun e w' => e = .returned v ∧ Below w.heap.size w w') (hv : v = v') :
    Calls P f args w fun e w' => e = .returned v' ∧ Below W.heap.size W w' :=
  h.mono fun _ _ ⟨he, hb'⟩ => ⟨hv ▸ he, hb.trans (hb'.mono hb.size)⟩

set_option maxHeartbeats 400000 in
theorem awake29_calls (w : World) : Calls Try.prog 15 #[] w fun e w' => e = .returned (.bool true) ∧ Below w.heap.size w w' := by
  have hat : StepsAt (w.alloc (Obj.cells #[Value.int IntKind.i64 60, Value.int IntKind.i64 60, Value.int IntKind.i64 1000, Value.int IntKind.i64 0, Value.int IntKind.i64 1, Value.int IntKind.i64 20] 37))
      (.slice (some ⟨w.heap.size, 0, none⟩) 2 2) exL := by
    refine ⟨some ⟨w.heap.size, 0, none⟩, 2, rfl, by decide, fun _ => ⟨w.heap.size, 0, rfl, by simp, fun i hi => ?_⟩⟩
    match i, hi with
    | 0, _ => exact ⟨by simp [go_sem, exL], by simp [go_sem, exL], by simp [go_sem, exL]⟩
    | 1, _ => exact ⟨by simp [go_sem, exL], by simp [go_sem, exL], by simp [go_sem, exL]⟩
  have hw0 : Below w.heap.size w (w.alloc (Obj.cells #[Value.int IntKind.i64 60, Value.int IntKind.i64 60, Value.int IntKind.i64 1000, Value.int IntKind.i64 0, Value.int IntKind.i64 1, Value.int IntKind.i64 20] 37)) := by go_grown
  go_enter Try.func15, Try.ntmps15
  go_wp2_with fail
  generalize w.alloc (Obj.cells #[Value.int IntKind.i64 60, Value.int IntKind.i64 60, Value.int IntKind.i64 1000, Value.int IntKind.i64 0, Value.int IntKind.i64 1, Value.int IntKind.i64 20] 37) = W at *
  refine (later (Below.refl _ _) (price_pub _ exL 61 _ hat) (by rw [exL_p1, priceTup_eq])).mono ?_
  rintro e w1 ⟨rfl, hb1⟩
  go_wp2_with fail
  refine (later hb1 (price_pub _ exL 100 _ (hat.below hb1)) (by rw [exL_p2, priceTup_eq])).mono ?_
  rintro e w2 ⟨rfl, hb2⟩
  go_wp2_with fail
  refine (later hb2 (between_pub _ exL 50 20 _ (hat.below hb2) (by omega) (by omega)) (by rw [exL_b1, priceTup_eq])).mono ?_
  rintro e w3 ⟨rfl, hb3⟩
  go_wp2_with fail
  refine (later hb3 (units_calls _ exL 0 1019 _ (hat.below hb3)) (by rw [exL_u1])).mono ?_
  rintro e w4 ⟨rfl, hb4⟩
  go_wp2_with fail
  refine (later hb4 (units_calls _ exL 50 0 _ (hat.below hb4)) (by rw [exL_u2])).mono ?_
  rintro e w5 ⟨rfl, hb5⟩
  go_wp2_with fail
  refine (later hb5 (marginal_calls _ exL 0 _ (hat.below hb5)) (by rw [exL_m1])).mono ?_
  rintro e w6 ⟨rfl, hb6⟩
  go_wp2_with fail
  refine (later hb6 (marginal_calls _ exL 60 _ (hat.below hb6)) (by rw [exL_m2])).mono ?_
  rintro e w7 ⟨rfl, hb7⟩
  go_wp2
  go_ret
  exact ⟨rfl, hw0.trans (hb7.mono hw0.size)⟩
end Go.Proofs.Ytkipebdhagccbaa
