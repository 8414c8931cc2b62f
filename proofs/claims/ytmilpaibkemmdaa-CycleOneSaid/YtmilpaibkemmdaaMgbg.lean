/-
  The walks of the reference's calendar: no cycles, and the cycle of an instant.
-/
import Derived.Test.YtmilpaibkemmdaaMgbf
namespace Go.Proofs.Ytmilpaibkemmdaa
open Go.RowKit

theorem rcycles_none (a f t : Int) (w : World) (ha : 1 ≤ a) (hb : a ≤ 28) (hv : validB f t = false) :
    Calls Try.prog 37 #[.int .i64 a, .agg #[.int .i64 f, .int .i64 t]] w (PersTo w []) := by
  have HV := Lib.hid (r3valid_calls f t ·)
  rw [hv] at HV
  clear hv
  go_enter Try.func37, Try.ntmps37
  go_wp2_with fail
  refine (HV.out _).mono ?_
  rintro e w1 ⟨rfl, hb1⟩
  go_wp2
  go_ret
  exact ⟨_, rfl, SliceAt.nil _, ((Below.refl _ _).alloc (Nat.le_refl _) _).trans (hb1.mono (by simp))⟩

set_option maxRecDepth 100000 in
set_option maxHeartbeats 1600000 in
theorem rcycle_calls (a t m : Int) (w : World) (ha : 1 ≤ a) (hb : a ≤ 28) (h0 : 0 ≤ t) (h1 : t < 12622780800) (hm : IsMo a t m) :
    Calls Try.prog 28 #[.int .i64 a, .int .i64 t] w fun e w' => e = .returned (.agg #[.int .i64 (cyc a m).1, .int .i64 (cyc a m).2]) ∧ Below w.heap.size w w' := by
  have HC := Lib.hid (fun w => rcycles_calls a t (t + 1) m m w ha hb ((validB_iff _ _).2 ⟨by omega, by omega, by omega⟩) hm (by rw [show t + 1 - 1 = t by omega]; exact hm))
  have HL := Lib.hid (show cycL a m m = [cyc a m] by
    have h := cycL_snoc (a := a) (lo := m) (hi := m - 1) (by omega)
    have h0 := cycL_nil (a := a) (lo := m) (hi := m - 1) (by omega)
    rw [show m - 1 + 1 = m by omega, h0] at h
    exact h)
  rw [HL.out] at HC
  generalize cyc a m = c at *
  obtain ⟨x0, x1⟩ := c
  dsimp only
  clear hm HL
  go_enter Try.func28, Try.ntmps28
  go_wp2_with fail
  refine (HC.out _).mono ?_
  rintro e w1 ⟨v1, rfl, hp, hb1⟩
  obtain ⟨a1, cp1, rfl, -, -, hx⟩ := hp
  obtain ⟨g, o, rfl, hg, hx⟩ := hx (by simp)
  obtain ⟨y0, y1⟩ := hx 0 (by simp)
  simp only [List.getElem_cons_zero, Nat.zero_mul, Nat.add_zero] at y0 y1
  have hb1' : Below w.heap.size w w1 := ((Below.refl _ _).alloc (Nat.le_refl _) _).trans (hb1.mono (by simp))
  have q1 := (hb1.block w.heap.size (by simp)).trans (heap_alloc_new _ _)
  have r0 := cell_of_row w1 _ 0 _ _ _ q1
  have r1 := cell_of_row w1 _ 1 _ _ _ q1
  have f0 := frozen_of_row w1 _ 0 _ _ q1
  have f1 := frozen_of_row w1 _ 1 _ _ q1
  have Hb1 := Lib.hid hb1'
  clear hx q1 hb1 hb1'
  go_wp2
  refine bodyPost_ret (v := .agg #[.int .i64 x0, .int .i64 x1]) (by simp [results, Try.results28, go_sem, r0, r1]) rfl ⟨rfl, ?_⟩
  exact (Hb1.out.setCell (by simp) _).setCell (by simp) _
end Go.Proofs.Ytmilpaibkemmdaa
