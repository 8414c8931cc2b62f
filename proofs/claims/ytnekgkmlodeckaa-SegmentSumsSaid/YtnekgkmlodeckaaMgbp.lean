/-
  The walks of the references' comparisons of segments, steps and rates, at equal ones.
-/
import Derived.Test.YtnekgkmlodeckaaMgbl
import Derived.Test.YtnekgkmlodeckaaMgbn
namespace Go.Proofs.Ytnekgkmlodeckaa
open Go.RowKit

set_option maxRecDepth 100000 in
set_option maxHeartbeats 3200000 in
theorem sgsame_calls (va vb : Value) (L : List Sg) (w : World) (ha : SgsAt w va L) (hb0 : SgsAt w vb L) :
    Calls Try.prog 21 #[va, vb] w (BoolTo true w) := by
  have hA := ha
  have hB := hb0
  obtain ⟨aa, ca, rfl, hla, hma, -⟩ := ha
  obtain ⟨ab, cb, rfl, hlb, hmb, -⟩ := hb0
  have hma := hma.1
  have hmb := hmb.1
  unfold maxLen at hma hmb
  have he : ((L.length : Int) != (L.length : Int)) = false := by simp
  go_enter Try.func21, Try.ntmps21
  go_wp2_with fail
  go_loopw [5] (fun i wr => ∃ k : Nat, k ≤ L.length ∧ i = .int .i64 k ∧ Below w.heap.size w wr) (fun i _ => L.length - (intOf i).toNat)
  case atStart => exact ⟨0, Nat.zero_le _, rfl, Below.refl _ _⟩
  case round =>
    obtain ⟨k, hk, rfl, hb⟩ := hrel
    by_cases hlt : k < L.length
    · obtain ⟨av2, cap2, e2, -, -, hx⟩ := hA.below hb
      cases e2
      obtain ⟨b1, o1, rfl, hB1, hx⟩ := hx (by rintro rfl; cases hlt)
      obtain ⟨c0, c1, c2, c3⟩ := hx k hlt
      obtain ⟨av3, cap3, e3, -, -, hy⟩ := hB.below hb
      cases e3
      obtain ⟨b2, o2, rfl, hB2, hy⟩ := hy (by rintro rfl; cases hlt)
      obtain ⟨d0, d1, d2, d3⟩ := hy k hlt
      have hk0 : (0 : Int) ≤ (k : Int) := Int.natCast_nonneg _
      have hk1 : (k : Int) < (L.length : Int) := by omega
      clear hx hy
      generalize L[k] = y at *
      obtain ⟨n, f, u, a⟩ := y
      dsimp only at c0 c1 c2 c3 d0 d1 d2 d3
      have e1 : (n.toList == n.toList) = true := beq_self_eq_true _
      go_upto_region 6 with (fail)
      go_big_quiet (fail)
      go_wp2
      exact ⟨⟨k + 1, by omega, by go_num, below_drewN5 hb _⟩, by simp [intOf]; omega⟩
    · go_wp2
      go_ret
      exact ⟨rfl, hb⟩

set_option maxRecDepth 100000 in
set_option maxHeartbeats 3200000 in
theorem stsame_calls (va vb : Value) (L : List St) (w : World) (ha : StpAt w va L) (hb0 : StpAt w vb L) :
    Calls Try.prog 52 #[va, vb] w (BoolTo true w) := by
  have hA := ha
  have hB := hb0
  obtain ⟨aa, ca, rfl, hla, hma, -⟩ := ha
  obtain ⟨ab, cb, rfl, hlb, hmb, -⟩ := hb0
  have hma := hma.1
  have hmb := hmb.1
  unfold maxLen at hma hmb
  have he : ((L.length : Int) != (L.length : Int)) = false := by simp
  go_enter Try.func52, Try.ntmps52
  go_wp2_with fail
  go_loopw [5] (fun i wr => ∃ k : Nat, k ≤ L.length ∧ i = .int .i64 k ∧ Below w.heap.size w wr) (fun i _ => L.length - (intOf i).toNat)
  case atStart => exact ⟨0, Nat.zero_le _, rfl, Below.refl _ _⟩
  case round =>
    obtain ⟨k, hk, rfl, hb⟩ := hrel
    by_cases hlt : k < L.length
    · obtain ⟨av2, cap2, e2, -, -, hx⟩ := hA.below hb
      cases e2
      obtain ⟨b1, o1, rfl, hB1, hx⟩ := hx (by rintro rfl; cases hlt)
      obtain ⟨c0, c1, c2⟩ := hx k hlt
      obtain ⟨av3, cap3, e3, -, -, hy⟩ := hB.below hb
      cases e3
      obtain ⟨b2, o2, rfl, hB2, hy⟩ := hy (by rintro rfl; cases hlt)
      obtain ⟨d0, d1, d2⟩ := hy k hlt
      have hk0 : (0 : Int) ≤ (k : Int) := Int.natCast_nonneg _
      have hk1 : (k : Int) < (L.length : Int) := by omega
      clear hx hy
      generalize L[k] = y at *
      obtain ⟨n, f, u⟩ := y
      dsimp only at c0 c1 c2 d0 d1 d2
      go_upto_region 6 with (fail)
      go_big_quiet (fail)
      go_wp2
      exact ⟨⟨k + 1, by omega, by go_num, below_drewN5 hb _⟩, by simp [intOf]; omega⟩
    · go_wp2
      go_ret
      exact ⟨rfl, hb⟩

set_option maxRecDepth 100000 in
set_option maxHeartbeats 3200000 in
theorem rtsame_calls (xk : Int) (xz xb : ByteArray) (xs : Int) (va vb : Value) (L : List St) (w : World) (ha : StpAt w va L) (hb0 : StpAt w vb L) :
    Calls Try.prog 19 #[.agg #[.int .i64 xk, .string xz, .string xb, .int .i64 xs, va], .agg #[.int .i64 xk, .string xz, .string xb, .int .i64 xs, vb]] w (BoolTo true w) := by
  have HS := Lib.hid (fun w1 (h : Below w.heap.size w w1) => stsame_calls va vb L w1 (ha.below h) (hb0.below h))
  obtain ⟨aa, ca, rfl, -, -, -⟩ := ha
  obtain ⟨ab, cb, rfl, -, -, -⟩ := hb0
  have e1 : (xz.toList == xz.toList) = true := beq_self_eq_true _
  have e2 : (xb.toList == xb.toList) = true := beq_self_eq_true _
  go_enter Try.func19, Try.ntmps19
  go_wp2_with (go_at_call 52; refine (HS.out _ (by go_grown)).mono ?_; rintro e w1 ⟨rfl, hb1⟩)
  go_ret
  refine ⟨rfl, Below.trans ?_ (hb1.mono ?_)⟩
  · go_grown
  · simp; omega
end Go.Proofs.Ytnekgkmlodeckaa
