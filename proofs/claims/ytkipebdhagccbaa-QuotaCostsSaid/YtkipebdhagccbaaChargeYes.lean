/-
  Charging a meter: the walks of Charge where it succeeds.
-/
import Derived.Test.YtkipebdhagccbaaCharge
import Derived.Deep.DeepCutAuto
namespace Go.Proofs.Ytkipebdhagccbaa
open Go.RowKit

/-- A charge succeeded. -/
def ChargeYes (w : World) (l : List St) (a s kd : Int) (z pl : ByteArray) (vr rk : Int) (rz rb : ByteArray) (st : Int) (fr pd : Int) (free paid c : Int) (e : Ending) (w' : World) : Prop :=
  ∃ av cap, e = .returned (.tuple #[.agg #[.int .i64 a, .int .i64 s, .int .i64 kd, .string z, .string pl, .int .i64 vr, .int .i64 rk, .string rz, .string rb, .int .i64 st, .slice av l.length cap, .int .i64 (fr + free), .int .i64 (pd + paid)], .int .i64 c, .int .i64 0]) ∧ StepsFrom w.heap.size w' (.slice av l.length cap) l ∧ Below w.heap.size w w'

set_option maxRecDepth 100000 in
set_option maxHeartbeats 3200000 in
theorem charge_yes (l : List St) (a s kd : Int) (z pl : ByteArray) (vr rk : Int) (rz rb : ByteArray) (st : Int) (sv : Value) (fr pd : Int) (free paid : Int) (w : World) (h : StepsAt w sv l) (hp0 : -9223372036854775808 ≤ paid) (hp1 : paid ≤ 9223372036854775807) (hx : chargeE l st pd fr free paid = 0) :
    Calls Try.prog 28 #[.agg #[.int .i64 a, .int .i64 s, .int .i64 kd, .string z, .string pl, .int .i64 vr, .int .i64 rk, .string rz, .string rb, .int .i64 st, sv, .int .i64 fr, .int .i64 pd], .int .i64 free, .int .i64 paid] w (ChargeYes w l a s kd z pl vr rk rz rb st fr pd free paid (costM l st pd paid).1) := by
  have hh := h
  obtain ⟨av, cap, rfl, hm, hc⟩ := h
  clear hm hc
  obtain ⟨W, hW⟩ : ∃ W, W = (w.alloc (Obj.cells #[Value.int .i64 a, Value.int .i64 s, Value.int .i64 kd, Value.string z, Value.string pl, Value.int .i64 vr, Value.int .i64 rk, Value.string rz, Value.string rb, Value.int .i64 st, Value.slice av l.length cap, Value.int .i64 fr, Value.int .i64 pd] 43)).alloc (Obj.cells #[Value.int .i64 0, Value.int .i64 0, Value.int .i64 0, Value.string ⟨#[]⟩, Value.string ⟨#[]⟩, Value.int .i64 0, Value.int .i64 0, Value.string ⟨#[]⟩, Value.string ⟨#[]⟩, Value.int .i64 0, Value.slice none 0 0, Value.int .i64 0, Value.int .i64 0] 43) := ⟨_, rfl⟩
  have hw0 : Below w.heap.size w W := by rw [hW]; go_grown
  have hz : W.heap.size = w.heap.size + 2 := by rw [hW]; simp
  have b0 : W.heap[w.heap.size]? = some (Obj.cells #[Value.int .i64 a, Value.int .i64 s, Value.int .i64 kd, Value.string z, Value.string pl, Value.int .i64 vr, Value.int .i64 rk, Value.string rz, Value.string rb, Value.int .i64 st, Value.slice av l.length cap, Value.int .i64 fr, Value.int .i64 pd] 43) := by rw [hW, Below.heap_alloc _ _ _ (by simp)]; exact heap_alloc_new _ _
  have b1 : W.heap[w.heap.size + 1]? = some (Obj.cells #[Value.int .i64 0, Value.int .i64 0, Value.int .i64 0, Value.string ⟨#[]⟩, Value.string ⟨#[]⟩, Value.int .i64 0, Value.int .i64 0, Value.string ⟨#[]⟩, Value.string ⟨#[]⟩, Value.int .i64 0, Value.slice none 0 0, Value.int .i64 0, Value.int .i64 0] 43) := by rw [hW]; simpa using heap_alloc_new (w.alloc _) _
  have HW := Lib.hid hW
  have Hz := Lib.hid hz
  have Hb := Lib.hid (And.intro b0 b1)
  clear hW hz b0 b1
  have hg : 0 ≤ free ∧ free ≤ 1099511627776 ∧ 0 ≤ fr ∧ fr ≤ 1099511627776 ∧ free + fr ≤ 1099511627776 := by
    by_cases hg : 0 ≤ free ∧ free ≤ 1099511627776 ∧ 0 ≤ fr ∧ fr ≤ 1099511627776 ∧ free + fr ≤ 1099511627776
    · exact hg
    · rw [chargeE, if_pos hg] at hx; cases hx
  have hc : (costM l st pd paid).2 = 0 := by rw [← hx, chargeE, if_neg (not_not_intro hg)]
  obtain ⟨l0, l64, q1, q2, q3, q4, q5, -⟩ := costM_ok hc
  have Hc := Lib.hid (later (Below.refl _ _) (qcost_calls l a s kd z pl vr rk rz rb st (.slice av l.length cap) fr pd paid W (hh.below hw0) hp0 hp1) rfl)
  obtain ⟨g1, g2, g3, g4, g5⟩ := hg
  have bdc := @costM_bd l st pd paid
  generalize costM l st pd paid = y at *
  obtain ⟨c, e⟩ := y
  dsimp only at hc bdc
  subst hc
  simp only [mp_lit] at *
  have Hh := Lib.hid hh
  clear hx hh
  go_enter Try.func28, Try.ntmps28
  go_wp2_with (first | (go_at_call 56; refine (qwithin_t _ (by omega) (by omega)).mono ?_; rintro e w' ⟨rfl, rfl⟩) | (go_at_call 56; refine (qwithin_f _ (by omega)).mono ?_; rintro e w' ⟨rfl, rfl⟩))
  rw [← HW.out]
  refine Hc.out.mono ?_
  rintro e' w1 ⟨rfl, hb1⟩
  have hz1 := hb1.size
  rw [Hz.out] at hz1
  have g0 := (hb1.block w.heap.size (by rw [Hz.out]; omega)).trans Hb.out.1
  have g1 := (hb1.block (w.heap.size + 1) (by rw [Hz.out]; omega)).trans Hb.out.2
  have k0 : w1.cell? ⟨w.heap.size, 0, none⟩ = some (Value.int .i64 a) := cell_of_row w1 _ 0 _ _ _ g0
  have n0 : w1.cell? ⟨w.heap.size + 1, 0, none⟩ = some (Value.int .i64 0) := cell_of_row w1 _ 0 _ _ _ g1
  have f0 : w1.frozen? ⟨w.heap.size, 0, none⟩ = false := by simp [World.frozen?, g0]
  have e0 : w1.frozen? ⟨w.heap.size + 1, 0, none⟩ = false := by simp [World.frozen?, g1]
  have k1 : w1.cell? ⟨w.heap.size, 1, none⟩ = some (Value.int .i64 s) := cell_of_row w1 _ 1 _ _ _ g0
  have n1 : w1.cell? ⟨w.heap.size + 1, 1, none⟩ = some (Value.int .i64 0) := cell_of_row w1 _ 1 _ _ _ g1
  have f1 : w1.frozen? ⟨w.heap.size, 1, none⟩ = false := by simp [World.frozen?, g0]
  have e1 : w1.frozen? ⟨w.heap.size + 1, 1, none⟩ = false := by simp [World.frozen?, g1]
  have k2 : w1.cell? ⟨w.heap.size, 2, none⟩ = some (Value.int .i64 kd) := cell_of_row w1 _ 2 _ _ _ g0
  have n2 : w1.cell? ⟨w.heap.size + 1, 2, none⟩ = some (Value.int .i64 0) := cell_of_row w1 _ 2 _ _ _ g1
  have f2 : w1.frozen? ⟨w.heap.size, 2, none⟩ = false := by simp [World.frozen?, g0]
  have e2 : w1.frozen? ⟨w.heap.size + 1, 2, none⟩ = false := by simp [World.frozen?, g1]
  have k3 : w1.cell? ⟨w.heap.size, 3, none⟩ = some (Value.string z) := cell_of_row w1 _ 3 _ _ _ g0
  have n3 : w1.cell? ⟨w.heap.size + 1, 3, none⟩ = some (Value.string ⟨#[]⟩) := cell_of_row w1 _ 3 _ _ _ g1
  have f3 : w1.frozen? ⟨w.heap.size, 3, none⟩ = false := by simp [World.frozen?, g0]
  have e3 : w1.frozen? ⟨w.heap.size + 1, 3, none⟩ = false := by simp [World.frozen?, g1]
  have k4 : w1.cell? ⟨w.heap.size, 4, none⟩ = some (Value.string pl) := cell_of_row w1 _ 4 _ _ _ g0
  have n4 : w1.cell? ⟨w.heap.size + 1, 4, none⟩ = some (Value.string ⟨#[]⟩) := cell_of_row w1 _ 4 _ _ _ g1
  have f4 : w1.frozen? ⟨w.heap.size, 4, none⟩ = false := by simp [World.frozen?, g0]
  have e4 : w1.frozen? ⟨w.heap.size + 1, 4, none⟩ = false := by simp [World.frozen?, g1]
  have k5 : w1.cell? ⟨w.heap.size, 5, none⟩ = some (Value.int .i64 vr) := cell_of_row w1 _ 5 _ _ _ g0
  have n5 : w1.cell? ⟨w.heap.size + 1, 5, none⟩ = some (Value.int .i64 0) := cell_of_row w1 _ 5 _ _ _ g1
  have f5 : w1.frozen? ⟨w.heap.size, 5, none⟩ = false := by simp [World.frozen?, g0]
  have e5 : w1.frozen? ⟨w.heap.size + 1, 5, none⟩ = false := by simp [World.frozen?, g1]
  have k6 : w1.cell? ⟨w.heap.size, 6, none⟩ = some (Value.int .i64 rk) := cell_of_row w1 _ 6 _ _ _ g0
  have n6 : w1.cell? ⟨w.heap.size + 1, 6, none⟩ = some (Value.int .i64 0) := cell_of_row w1 _ 6 _ _ _ g1
  have f6 : w1.frozen? ⟨w.heap.size, 6, none⟩ = false := by simp [World.frozen?, g0]
  have e6 : w1.frozen? ⟨w.heap.size + 1, 6, none⟩ = false := by simp [World.frozen?, g1]
  have k7 : w1.cell? ⟨w.heap.size, 7, none⟩ = some (Value.string rz) := cell_of_row w1 _ 7 _ _ _ g0
  have n7 : w1.cell? ⟨w.heap.size + 1, 7, none⟩ = some (Value.string ⟨#[]⟩) := cell_of_row w1 _ 7 _ _ _ g1
  have f7 : w1.frozen? ⟨w.heap.size, 7, none⟩ = false := by simp [World.frozen?, g0]
  have e7 : w1.frozen? ⟨w.heap.size + 1, 7, none⟩ = false := by simp [World.frozen?, g1]
  have k8 : w1.cell? ⟨w.heap.size, 8, none⟩ = some (Value.string rb) := cell_of_row w1 _ 8 _ _ _ g0
  have n8 : w1.cell? ⟨w.heap.size + 1, 8, none⟩ = some (Value.string ⟨#[]⟩) := cell_of_row w1 _ 8 _ _ _ g1
  have f8 : w1.frozen? ⟨w.heap.size, 8, none⟩ = false := by simp [World.frozen?, g0]
  have e8 : w1.frozen? ⟨w.heap.size + 1, 8, none⟩ = false := by simp [World.frozen?, g1]
  have k9 : w1.cell? ⟨w.heap.size, 9, none⟩ = some (Value.int .i64 st) := cell_of_row w1 _ 9 _ _ _ g0
  have n9 : w1.cell? ⟨w.heap.size + 1, 9, none⟩ = some (Value.int .i64 0) := cell_of_row w1 _ 9 _ _ _ g1
  have f9 : w1.frozen? ⟨w.heap.size, 9, none⟩ = false := by simp [World.frozen?, g0]
  have e9 : w1.frozen? ⟨w.heap.size + 1, 9, none⟩ = false := by simp [World.frozen?, g1]
  have k10 : w1.cell? ⟨w.heap.size, 10, none⟩ = some (Value.slice av l.length cap) := cell_of_row w1 _ 10 _ _ _ g0
  have n10 : w1.cell? ⟨w.heap.size + 1, 10, none⟩ = some (Value.slice none 0 0) := cell_of_row w1 _ 10 _ _ _ g1
  have f10 : w1.frozen? ⟨w.heap.size, 10, none⟩ = false := by simp [World.frozen?, g0]
  have e10 : w1.frozen? ⟨w.heap.size + 1, 10, none⟩ = false := by simp [World.frozen?, g1]
  have k11 : w1.cell? ⟨w.heap.size, 11, none⟩ = some (Value.int .i64 fr) := cell_of_row w1 _ 11 _ _ _ g0
  have n11 : w1.cell? ⟨w.heap.size + 1, 11, none⟩ = some (Value.int .i64 0) := cell_of_row w1 _ 11 _ _ _ g1
  have f11 : w1.frozen? ⟨w.heap.size, 11, none⟩ = false := by simp [World.frozen?, g0]
  have e11 : w1.frozen? ⟨w.heap.size + 1, 11, none⟩ = false := by simp [World.frozen?, g1]
  have k12 : w1.cell? ⟨w.heap.size, 12, none⟩ = some (Value.int .i64 pd) := cell_of_row w1 _ 12 _ _ _ g0
  have n12 : w1.cell? ⟨w.heap.size + 1, 12, none⟩ = some (Value.int .i64 0) := cell_of_row w1 _ 12 _ _ _ g1
  have f12 : w1.frozen? ⟨w.heap.size, 12, none⟩ = false := by simp [World.frozen?, g0]
  have e12 : w1.frozen? ⟨w.heap.size + 1, 12, none⟩ = false := by simp [World.frozen?, g1]
  clear g0 g1
  have hb2 := hw0.trans (hb1.mono hw0.size)
  go_wp2_with fail
  obtain ⟨W1, hW1⟩ : ∃ W1, W1 = w1.alloc (Obj.cells #[Value.int .i64 a, Value.int .i64 s, Value.int .i64 kd, Value.string z, Value.string pl, Value.int .i64 vr, Value.int .i64 rk, Value.string rz, Value.string rb, Value.int .i64 st, Value.slice av l.length cap, Value.int .i64 fr, Value.int .i64 pd] 43) := ⟨_, rfl⟩
  have hb3 : Below w.heap.size w W1 := by rw [hW1]; exact hb2.alloc hb2.size _
  obtain ⟨B, hBdef⟩ : ∃ B, B = w1.heap.size := ⟨_, rfl⟩
  have hzB : w.heap.size + 2 ≤ B := by rw [hBdef]; exact hz1
  have r0 : W1.heap[w.heap.size]? = some (Obj.cells #[Value.int .i64 a, Value.int .i64 s, Value.int .i64 kd, Value.string z, Value.string pl, Value.int .i64 vr, Value.int .i64 rk, Value.string rz, Value.string rb, Value.int .i64 st, Value.slice av l.length cap, Value.int .i64 fr, Value.int .i64 pd] 43) := by rw [hW1, Below.heap_alloc _ _ _ (by omega), hb1.block _ (by rw [Hz.out]; omega)]; exact Hb.out.1
  have r1 : W1.heap[w.heap.size + 1]? = some (Obj.cells #[Value.int .i64 0, Value.int .i64 0, Value.int .i64 0, Value.string ⟨#[]⟩, Value.string ⟨#[]⟩, Value.int .i64 0, Value.int .i64 0, Value.string ⟨#[]⟩, Value.string ⟨#[]⟩, Value.int .i64 0, Value.slice none 0 0, Value.int .i64 0, Value.int .i64 0] 43) := by rw [hW1, Below.heap_alloc _ _ _ (by omega), hb1.block _ (by rw [Hz.out]; omega)]; exact Hb.out.2
  have r2 : W1.heap[B]? = some (Obj.cells #[Value.int .i64 a, Value.int .i64 s, Value.int .i64 kd, Value.string z, Value.string pl, Value.int .i64 vr, Value.int .i64 rk, Value.string rz, Value.string rb, Value.int .i64 st, Value.slice av l.length cap, Value.int .i64 fr, Value.int .i64 pd] 43) := by rw [hW1, hBdef]; exact heap_alloc_new _ _
  have hz3 : W1.heap.size = B + 1 := by rw [hW1, hBdef]; simp
  rw [← hW1, ← hBdef]
  have Hz3 := Lib.hid hz3
  have HR := Lib.hid (And.intro r0 (And.intro r1 r2))
  have Hst := Lib.hid (Hh.out.below hb3)
  clear k0 k1 k2 k3 k4 k5 k6 k7 k8 k9 k10 k11 k12 n0 n1 n2 n3 n4 n5 n6 n7 n8 n9 n10 n11 n12 f0 f1 f2 f3 f4 f5 f6 f7 f8 f9 f10 f11 f12 e0 e1 e2 e3 e4 e5 e6 e7 e8 e9 e10 e11 e12
  clear hW1 hBdef hz3 hb1 hb2 hz1
  have k0 : W1.cell? ⟨w.heap.size, 0, none⟩ = some (Value.int .i64 a) := cell_of_row W1 _ 0 _ _ _ r0
  have f0 : W1.frozen? ⟨w.heap.size, 0, none⟩ = false := by simp [World.frozen?, r0]
  have k1 : W1.cell? ⟨w.heap.size, 1, none⟩ = some (Value.int .i64 s) := cell_of_row W1 _ 1 _ _ _ r0
  have f1 : W1.frozen? ⟨w.heap.size, 1, none⟩ = false := by simp [World.frozen?, r0]
  have k2 : W1.cell? ⟨w.heap.size, 2, none⟩ = some (Value.int .i64 kd) := cell_of_row W1 _ 2 _ _ _ r0
  have f2 : W1.frozen? ⟨w.heap.size, 2, none⟩ = false := by simp [World.frozen?, r0]
  have k3 : W1.cell? ⟨w.heap.size, 3, none⟩ = some (Value.string z) := cell_of_row W1 _ 3 _ _ _ r0
  have f3 : W1.frozen? ⟨w.heap.size, 3, none⟩ = false := by simp [World.frozen?, r0]
  have k4 : W1.cell? ⟨w.heap.size, 4, none⟩ = some (Value.string pl) := cell_of_row W1 _ 4 _ _ _ r0
  have f4 : W1.frozen? ⟨w.heap.size, 4, none⟩ = false := by simp [World.frozen?, r0]
  have k5 : W1.cell? ⟨w.heap.size, 5, none⟩ = some (Value.int .i64 vr) := cell_of_row W1 _ 5 _ _ _ r0
  have f5 : W1.frozen? ⟨w.heap.size, 5, none⟩ = false := by simp [World.frozen?, r0]
  have k6 : W1.cell? ⟨w.heap.size, 6, none⟩ = some (Value.int .i64 rk) := cell_of_row W1 _ 6 _ _ _ r0
  have f6 : W1.frozen? ⟨w.heap.size, 6, none⟩ = false := by simp [World.frozen?, r0]
  have k7 : W1.cell? ⟨w.heap.size, 7, none⟩ = some (Value.string rz) := cell_of_row W1 _ 7 _ _ _ r0
  have f7 : W1.frozen? ⟨w.heap.size, 7, none⟩ = false := by simp [World.frozen?, r0]
  have k8 : W1.cell? ⟨w.heap.size, 8, none⟩ = some (Value.string rb) := cell_of_row W1 _ 8 _ _ _ r0
  have f8 : W1.frozen? ⟨w.heap.size, 8, none⟩ = false := by simp [World.frozen?, r0]
  have k9 : W1.cell? ⟨w.heap.size, 9, none⟩ = some (Value.int .i64 st) := cell_of_row W1 _ 9 _ _ _ r0
  have f9 : W1.frozen? ⟨w.heap.size, 9, none⟩ = false := by simp [World.frozen?, r0]
  have k10 : W1.cell? ⟨w.heap.size, 10, none⟩ = some (Value.slice av l.length cap) := cell_of_row W1 _ 10 _ _ _ r0
  have f10 : W1.frozen? ⟨w.heap.size, 10, none⟩ = false := by simp [World.frozen?, r0]
  have k11 : W1.cell? ⟨w.heap.size, 11, none⟩ = some (Value.int .i64 fr) := cell_of_row W1 _ 11 _ _ _ r0
  have f11 : W1.frozen? ⟨w.heap.size, 11, none⟩ = false := by simp [World.frozen?, r0]
  have k12 : W1.cell? ⟨w.heap.size, 12, none⟩ = some (Value.int .i64 pd) := cell_of_row W1 _ 12 _ _ _ r0
  have f12 : W1.frozen? ⟨w.heap.size, 12, none⟩ = false := by simp [World.frozen?, r0]
  have n0 : W1.cell? ⟨w.heap.size + 1, 0, none⟩ = some (Value.int .i64 0) := cell_of_row W1 _ 0 _ _ _ r1
  have e0 : W1.frozen? ⟨w.heap.size + 1, 0, none⟩ = false := by simp [World.frozen?, r1]
  have n1 : W1.cell? ⟨w.heap.size + 1, 1, none⟩ = some (Value.int .i64 0) := cell_of_row W1 _ 1 _ _ _ r1
  have e1 : W1.frozen? ⟨w.heap.size + 1, 1, none⟩ = false := by simp [World.frozen?, r1]
  have n2 : W1.cell? ⟨w.heap.size + 1, 2, none⟩ = some (Value.int .i64 0) := cell_of_row W1 _ 2 _ _ _ r1
  have e2 : W1.frozen? ⟨w.heap.size + 1, 2, none⟩ = false := by simp [World.frozen?, r1]
  have n3 : W1.cell? ⟨w.heap.size + 1, 3, none⟩ = some (Value.string ⟨#[]⟩) := cell_of_row W1 _ 3 _ _ _ r1
  have e3 : W1.frozen? ⟨w.heap.size + 1, 3, none⟩ = false := by simp [World.frozen?, r1]
  have n4 : W1.cell? ⟨w.heap.size + 1, 4, none⟩ = some (Value.string ⟨#[]⟩) := cell_of_row W1 _ 4 _ _ _ r1
  have e4 : W1.frozen? ⟨w.heap.size + 1, 4, none⟩ = false := by simp [World.frozen?, r1]
  have n5 : W1.cell? ⟨w.heap.size + 1, 5, none⟩ = some (Value.int .i64 0) := cell_of_row W1 _ 5 _ _ _ r1
  have e5 : W1.frozen? ⟨w.heap.size + 1, 5, none⟩ = false := by simp [World.frozen?, r1]
  have n6 : W1.cell? ⟨w.heap.size + 1, 6, none⟩ = some (Value.int .i64 0) := cell_of_row W1 _ 6 _ _ _ r1
  have e6 : W1.frozen? ⟨w.heap.size + 1, 6, none⟩ = false := by simp [World.frozen?, r1]
  have n7 : W1.cell? ⟨w.heap.size + 1, 7, none⟩ = some (Value.string ⟨#[]⟩) := cell_of_row W1 _ 7 _ _ _ r1
  have e7 : W1.frozen? ⟨w.heap.size + 1, 7, none⟩ = false := by simp [World.frozen?, r1]
  have n8 : W1.cell? ⟨w.heap.size + 1, 8, none⟩ = some (Value.string ⟨#[]⟩) := cell_of_row W1 _ 8 _ _ _ r1
  have e8 : W1.frozen? ⟨w.heap.size + 1, 8, none⟩ = false := by simp [World.frozen?, r1]
  have n9 : W1.cell? ⟨w.heap.size + 1, 9, none⟩ = some (Value.int .i64 0) := cell_of_row W1 _ 9 _ _ _ r1
  have e9 : W1.frozen? ⟨w.heap.size + 1, 9, none⟩ = false := by simp [World.frozen?, r1]
  have n10 : W1.cell? ⟨w.heap.size + 1, 10, none⟩ = some (Value.slice none 0 0) := cell_of_row W1 _ 10 _ _ _ r1
  have e10 : W1.frozen? ⟨w.heap.size + 1, 10, none⟩ = false := by simp [World.frozen?, r1]
  have n11 : W1.cell? ⟨w.heap.size + 1, 11, none⟩ = some (Value.int .i64 0) := cell_of_row W1 _ 11 _ _ _ r1
  have e11 : W1.frozen? ⟨w.heap.size + 1, 11, none⟩ = false := by simp [World.frozen?, r1]
  have n12 : W1.cell? ⟨w.heap.size + 1, 12, none⟩ = some (Value.int .i64 0) := cell_of_row W1 _ 12 _ _ _ r1
  have e12 : W1.frozen? ⟨w.heap.size + 1, 12, none⟩ = false := by simp [World.frozen?, r1]
  have t0 : W1.cell? ⟨B, 0, none⟩ = some (Value.int .i64 a) := cell_of_row W1 _ 0 _ _ _ r2
  have u0 : W1.frozen? ⟨B, 0, none⟩ = false := by simp [World.frozen?, r2]
  have t1 : W1.cell? ⟨B, 1, none⟩ = some (Value.int .i64 s) := cell_of_row W1 _ 1 _ _ _ r2
  have u1 : W1.frozen? ⟨B, 1, none⟩ = false := by simp [World.frozen?, r2]
  have t2 : W1.cell? ⟨B, 2, none⟩ = some (Value.int .i64 kd) := cell_of_row W1 _ 2 _ _ _ r2
  have u2 : W1.frozen? ⟨B, 2, none⟩ = false := by simp [World.frozen?, r2]
  have t3 : W1.cell? ⟨B, 3, none⟩ = some (Value.string z) := cell_of_row W1 _ 3 _ _ _ r2
  have u3 : W1.frozen? ⟨B, 3, none⟩ = false := by simp [World.frozen?, r2]
  have t4 : W1.cell? ⟨B, 4, none⟩ = some (Value.string pl) := cell_of_row W1 _ 4 _ _ _ r2
  have u4 : W1.frozen? ⟨B, 4, none⟩ = false := by simp [World.frozen?, r2]
  have t5 : W1.cell? ⟨B, 5, none⟩ = some (Value.int .i64 vr) := cell_of_row W1 _ 5 _ _ _ r2
  have u5 : W1.frozen? ⟨B, 5, none⟩ = false := by simp [World.frozen?, r2]
  have t6 : W1.cell? ⟨B, 6, none⟩ = some (Value.int .i64 rk) := cell_of_row W1 _ 6 _ _ _ r2
  have u6 : W1.frozen? ⟨B, 6, none⟩ = false := by simp [World.frozen?, r2]
  have t7 : W1.cell? ⟨B, 7, none⟩ = some (Value.string rz) := cell_of_row W1 _ 7 _ _ _ r2
  have u7 : W1.frozen? ⟨B, 7, none⟩ = false := by simp [World.frozen?, r2]
  have t8 : W1.cell? ⟨B, 8, none⟩ = some (Value.string rb) := cell_of_row W1 _ 8 _ _ _ r2
  have u8 : W1.frozen? ⟨B, 8, none⟩ = false := by simp [World.frozen?, r2]
  have t9 : W1.cell? ⟨B, 9, none⟩ = some (Value.int .i64 st) := cell_of_row W1 _ 9 _ _ _ r2
  have u9 : W1.frozen? ⟨B, 9, none⟩ = false := by simp [World.frozen?, r2]
  have t10 : W1.cell? ⟨B, 10, none⟩ = some (Value.slice av l.length cap) := cell_of_row W1 _ 10 _ _ _ r2
  have u10 : W1.frozen? ⟨B, 10, none⟩ = false := by simp [World.frozen?, r2]
  have t11 : W1.cell? ⟨B, 11, none⟩ = some (Value.int .i64 fr) := cell_of_row W1 _ 11 _ _ _ r2
  have u11 : W1.frozen? ⟨B, 11, none⟩ = false := by simp [World.frozen?, r2]
  have t12 : W1.cell? ⟨B, 12, none⟩ = some (Value.int .i64 pd) := cell_of_row W1 _ 12 _ _ _ r2
  have u12 : W1.frozen? ⟨B, 12, none⟩ = false := by simp [World.frozen?, r2]
  clear r0 r1 r2
  have hneB : ¬ w.heap.size = B := by omega
  have hneB1 : ¬ w.heap.size + 1 = B := by omega
  go_region
  go_wp2_with fail
  obtain ⟨X, hX⟩ : ∃ X, X = ((W1.setCell ⟨B, 11, none⟩ (.int .i64 (fr + free))).setCell ⟨B, 12, none⟩ (.int .i64 (pd + paid))).drew := ⟨_, rfl⟩
  have hbX : Below w.heap.size w X := by rw [hX]; exact ((hb3.setCell (by simp; omega) _).setCell (by simp; omega) _).drew
  have hzX : X.heap.size = B + 1 := by rw [hX]; simpa using Hz3.out
  have x0 : X.cell? ⟨B, 0, none⟩ = some (Value.int .i64 a) := by rw [hX]; simp [go_sem, t0]
  have y0 : X.frozen? ⟨B, 0, none⟩ = false := by rw [hX]; simp [go_sem, u0]
  have x1 : X.cell? ⟨B, 1, none⟩ = some (Value.int .i64 s) := by rw [hX]; simp [go_sem, t1]
  have y1 : X.frozen? ⟨B, 1, none⟩ = false := by rw [hX]; simp [go_sem, u1]
  have x2 : X.cell? ⟨B, 2, none⟩ = some (Value.int .i64 kd) := by rw [hX]; simp [go_sem, t2]
  have y2 : X.frozen? ⟨B, 2, none⟩ = false := by rw [hX]; simp [go_sem, u2]
  have x3 : X.cell? ⟨B, 3, none⟩ = some (Value.string z) := by rw [hX]; simp [go_sem, t3]
  have y3 : X.frozen? ⟨B, 3, none⟩ = false := by rw [hX]; simp [go_sem, u3]
  have x4 : X.cell? ⟨B, 4, none⟩ = some (Value.string pl) := by rw [hX]; simp [go_sem, t4]
  have y4 : X.frozen? ⟨B, 4, none⟩ = false := by rw [hX]; simp [go_sem, u4]
  have x5 : X.cell? ⟨B, 5, none⟩ = some (Value.int .i64 vr) := by rw [hX]; simp [go_sem, t5]
  have y5 : X.frozen? ⟨B, 5, none⟩ = false := by rw [hX]; simp [go_sem, u5]
  have x6 : X.cell? ⟨B, 6, none⟩ = some (Value.int .i64 rk) := by rw [hX]; simp [go_sem, t6]
  have y6 : X.frozen? ⟨B, 6, none⟩ = false := by rw [hX]; simp [go_sem, u6]
  have x7 : X.cell? ⟨B, 7, none⟩ = some (Value.string rz) := by rw [hX]; simp [go_sem, t7]
  have y7 : X.frozen? ⟨B, 7, none⟩ = false := by rw [hX]; simp [go_sem, u7]
  have x8 : X.cell? ⟨B, 8, none⟩ = some (Value.string rb) := by rw [hX]; simp [go_sem, t8]
  have y8 : X.frozen? ⟨B, 8, none⟩ = false := by rw [hX]; simp [go_sem, u8]
  have x9 : X.cell? ⟨B, 9, none⟩ = some (Value.int .i64 st) := by rw [hX]; simp [go_sem, t9]
  have y9 : X.frozen? ⟨B, 9, none⟩ = false := by rw [hX]; simp [go_sem, u9]
  have x10 : X.cell? ⟨B, 10, none⟩ = some (Value.slice av l.length cap) := by rw [hX]; simp [go_sem, t10]
  have y10 : X.frozen? ⟨B, 10, none⟩ = false := by rw [hX]; simp [go_sem, u10]
  have x11 : X.cell? ⟨B, 11, none⟩ = some (Value.int .i64 (fr + free)) := by rw [hX]; simp [go_sem, t11]
  have y11 : X.frozen? ⟨B, 11, none⟩ = false := by rw [hX]; simp [go_sem, u11]
  have x12 : X.cell? ⟨B, 12, none⟩ = some (Value.int .i64 (pd + paid)) := by rw [hX]; simp [go_sem, t12]
  have y12 : X.frozen? ⟨B, 12, none⟩ = false := by rw [hX]; simp [go_sem, u12]
  have v0 : X.cell? ⟨w.heap.size + 1, 0, none⟩ = some (Value.int .i64 0) := by rw [hX]; simp [go_sem, n0]
  have z0 : X.frozen? ⟨w.heap.size + 1, 0, none⟩ = false := by rw [hX]; simp [go_sem, e0]
  have v1 : X.cell? ⟨w.heap.size + 1, 1, none⟩ = some (Value.int .i64 0) := by rw [hX]; simp [go_sem, n1]
  have z1 : X.frozen? ⟨w.heap.size + 1, 1, none⟩ = false := by rw [hX]; simp [go_sem, e1]
  have v2 : X.cell? ⟨w.heap.size + 1, 2, none⟩ = some (Value.int .i64 0) := by rw [hX]; simp [go_sem, n2]
  have z2 : X.frozen? ⟨w.heap.size + 1, 2, none⟩ = false := by rw [hX]; simp [go_sem, e2]
  have v3 : X.cell? ⟨w.heap.size + 1, 3, none⟩ = some (Value.string ⟨#[]⟩) := by rw [hX]; simp [go_sem, n3]
  have z3 : X.frozen? ⟨w.heap.size + 1, 3, none⟩ = false := by rw [hX]; simp [go_sem, e3]
  have v4 : X.cell? ⟨w.heap.size + 1, 4, none⟩ = some (Value.string ⟨#[]⟩) := by rw [hX]; simp [go_sem, n4]
  have z4 : X.frozen? ⟨w.heap.size + 1, 4, none⟩ = false := by rw [hX]; simp [go_sem, e4]
  have v5 : X.cell? ⟨w.heap.size + 1, 5, none⟩ = some (Value.int .i64 0) := by rw [hX]; simp [go_sem, n5]
  have z5 : X.frozen? ⟨w.heap.size + 1, 5, none⟩ = false := by rw [hX]; simp [go_sem, e5]
  have v6 : X.cell? ⟨w.heap.size + 1, 6, none⟩ = some (Value.int .i64 0) := by rw [hX]; simp [go_sem, n6]
  have z6 : X.frozen? ⟨w.heap.size + 1, 6, none⟩ = false := by rw [hX]; simp [go_sem, e6]
  have v7 : X.cell? ⟨w.heap.size + 1, 7, none⟩ = some (Value.string ⟨#[]⟩) := by rw [hX]; simp [go_sem, n7]
  have z7 : X.frozen? ⟨w.heap.size + 1, 7, none⟩ = false := by rw [hX]; simp [go_sem, e7]
  have v8 : X.cell? ⟨w.heap.size + 1, 8, none⟩ = some (Value.string ⟨#[]⟩) := by rw [hX]; simp [go_sem, n8]
  have z8 : X.frozen? ⟨w.heap.size + 1, 8, none⟩ = false := by rw [hX]; simp [go_sem, e8]
  have v9 : X.cell? ⟨w.heap.size + 1, 9, none⟩ = some (Value.int .i64 0) := by rw [hX]; simp [go_sem, n9]
  have z9 : X.frozen? ⟨w.heap.size + 1, 9, none⟩ = false := by rw [hX]; simp [go_sem, e9]
  have v10 : X.cell? ⟨w.heap.size + 1, 10, none⟩ = some (Value.slice none 0 0) := by rw [hX]; simp [go_sem, n10]
  have z10 : X.frozen? ⟨w.heap.size + 1, 10, none⟩ = false := by rw [hX]; simp [go_sem, e10]
  have v11 : X.cell? ⟨w.heap.size + 1, 11, none⟩ = some (Value.int .i64 0) := by rw [hX]; simp [go_sem, n11]
  have z11 : X.frozen? ⟨w.heap.size + 1, 11, none⟩ = false := by rw [hX]; simp [go_sem, e11]
  have v12 : X.cell? ⟨w.heap.size + 1, 12, none⟩ = some (Value.int .i64 0) := by rw [hX]; simp [go_sem, n12]
  have z12 : X.frozen? ⟨w.heap.size + 1, 12, none⟩ = false := by rw [hX]; simp [go_sem, e12]
  rw [← hX]
  clear hX
  clear k0 k1 k2 k3 k4 k5 k6 k7 k8 k9 k10 k11 k12 n0 n1 n2 n3 n4 n5 n6 n7 n8 n9 n10 n11 n12 f0 f1 f2 f3 f4 f5 f6 f7 f8 f9 f10 f11 f12 e0 e1 e2 e3 e4 e5 e6 e7 e8 e9 e10 e11 e12 t0 t1 t2 t3 t4 t5 t6 t7 t8 t9 t10 t11 t12 u0 u1 u2 u3 u4 u5 u6 u7 u8 u9 u10 u11 u12
  have Hzx := Lib.hid hzX
  clear hzX
  refine (clone_calls _ l X (Hh.out.below hbX) l0 l64).mono ?_
  rintro e' w2 ⟨av', cap', rfl, hst, hb4⟩
  have hb5 := hbX.trans (hb4.mono hbX.size)
  rw [Hzx.out] at hst
  have k0 := (hb4.cell (p := ⟨B, 0, none⟩) (by rw [Hzx.out]; dsimp only; omega)).trans x0
  have f0 := (hb4.frozen (p := ⟨B, 0, none⟩) (by rw [Hzx.out]; dsimp only; omega)).trans y0
  have n0 := (hb4.cell (p := ⟨w.heap.size + 1, 0, none⟩) (by rw [Hzx.out]; dsimp only; omega)).trans v0
  have e0 := (hb4.frozen (p := ⟨w.heap.size + 1, 0, none⟩) (by rw [Hzx.out]; dsimp only; omega)).trans z0
  have k1 := (hb4.cell (p := ⟨B, 1, none⟩) (by rw [Hzx.out]; dsimp only; omega)).trans x1
  have f1 := (hb4.frozen (p := ⟨B, 1, none⟩) (by rw [Hzx.out]; dsimp only; omega)).trans y1
  have n1 := (hb4.cell (p := ⟨w.heap.size + 1, 1, none⟩) (by rw [Hzx.out]; dsimp only; omega)).trans v1
  have e1 := (hb4.frozen (p := ⟨w.heap.size + 1, 1, none⟩) (by rw [Hzx.out]; dsimp only; omega)).trans z1
  have k2 := (hb4.cell (p := ⟨B, 2, none⟩) (by rw [Hzx.out]; dsimp only; omega)).trans x2
  have f2 := (hb4.frozen (p := ⟨B, 2, none⟩) (by rw [Hzx.out]; dsimp only; omega)).trans y2
  have n2 := (hb4.cell (p := ⟨w.heap.size + 1, 2, none⟩) (by rw [Hzx.out]; dsimp only; omega)).trans v2
  have e2 := (hb4.frozen (p := ⟨w.heap.size + 1, 2, none⟩) (by rw [Hzx.out]; dsimp only; omega)).trans z2
  have k3 := (hb4.cell (p := ⟨B, 3, none⟩) (by rw [Hzx.out]; dsimp only; omega)).trans x3
  have f3 := (hb4.frozen (p := ⟨B, 3, none⟩) (by rw [Hzx.out]; dsimp only; omega)).trans y3
  have n3 := (hb4.cell (p := ⟨w.heap.size + 1, 3, none⟩) (by rw [Hzx.out]; dsimp only; omega)).trans v3
  have e3 := (hb4.frozen (p := ⟨w.heap.size + 1, 3, none⟩) (by rw [Hzx.out]; dsimp only; omega)).trans z3
  have k4 := (hb4.cell (p := ⟨B, 4, none⟩) (by rw [Hzx.out]; dsimp only; omega)).trans x4
  have f4 := (hb4.frozen (p := ⟨B, 4, none⟩) (by rw [Hzx.out]; dsimp only; omega)).trans y4
  have n4 := (hb4.cell (p := ⟨w.heap.size + 1, 4, none⟩) (by rw [Hzx.out]; dsimp only; omega)).trans v4
  have e4 := (hb4.frozen (p := ⟨w.heap.size + 1, 4, none⟩) (by rw [Hzx.out]; dsimp only; omega)).trans z4
  have k5 := (hb4.cell (p := ⟨B, 5, none⟩) (by rw [Hzx.out]; dsimp only; omega)).trans x5
  have f5 := (hb4.frozen (p := ⟨B, 5, none⟩) (by rw [Hzx.out]; dsimp only; omega)).trans y5
  have n5 := (hb4.cell (p := ⟨w.heap.size + 1, 5, none⟩) (by rw [Hzx.out]; dsimp only; omega)).trans v5
  have e5 := (hb4.frozen (p := ⟨w.heap.size + 1, 5, none⟩) (by rw [Hzx.out]; dsimp only; omega)).trans z5
  have k6 := (hb4.cell (p := ⟨B, 6, none⟩) (by rw [Hzx.out]; dsimp only; omega)).trans x6
  have f6 := (hb4.frozen (p := ⟨B, 6, none⟩) (by rw [Hzx.out]; dsimp only; omega)).trans y6
  have n6 := (hb4.cell (p := ⟨w.heap.size + 1, 6, none⟩) (by rw [Hzx.out]; dsimp only; omega)).trans v6
  have e6 := (hb4.frozen (p := ⟨w.heap.size + 1, 6, none⟩) (by rw [Hzx.out]; dsimp only; omega)).trans z6
  have k7 := (hb4.cell (p := ⟨B, 7, none⟩) (by rw [Hzx.out]; dsimp only; omega)).trans x7
  have f7 := (hb4.frozen (p := ⟨B, 7, none⟩) (by rw [Hzx.out]; dsimp only; omega)).trans y7
  have n7 := (hb4.cell (p := ⟨w.heap.size + 1, 7, none⟩) (by rw [Hzx.out]; dsimp only; omega)).trans v7
  have e7 := (hb4.frozen (p := ⟨w.heap.size + 1, 7, none⟩) (by rw [Hzx.out]; dsimp only; omega)).trans z7
  have k8 := (hb4.cell (p := ⟨B, 8, none⟩) (by rw [Hzx.out]; dsimp only; omega)).trans x8
  have f8 := (hb4.frozen (p := ⟨B, 8, none⟩) (by rw [Hzx.out]; dsimp only; omega)).trans y8
  have n8 := (hb4.cell (p := ⟨w.heap.size + 1, 8, none⟩) (by rw [Hzx.out]; dsimp only; omega)).trans v8
  have e8 := (hb4.frozen (p := ⟨w.heap.size + 1, 8, none⟩) (by rw [Hzx.out]; dsimp only; omega)).trans z8
  have k9 := (hb4.cell (p := ⟨B, 9, none⟩) (by rw [Hzx.out]; dsimp only; omega)).trans x9
  have f9 := (hb4.frozen (p := ⟨B, 9, none⟩) (by rw [Hzx.out]; dsimp only; omega)).trans y9
  have n9 := (hb4.cell (p := ⟨w.heap.size + 1, 9, none⟩) (by rw [Hzx.out]; dsimp only; omega)).trans v9
  have e9 := (hb4.frozen (p := ⟨w.heap.size + 1, 9, none⟩) (by rw [Hzx.out]; dsimp only; omega)).trans z9
  have k10 := (hb4.cell (p := ⟨B, 10, none⟩) (by rw [Hzx.out]; dsimp only; omega)).trans x10
  have f10 := (hb4.frozen (p := ⟨B, 10, none⟩) (by rw [Hzx.out]; dsimp only; omega)).trans y10
  have n10 := (hb4.cell (p := ⟨w.heap.size + 1, 10, none⟩) (by rw [Hzx.out]; dsimp only; omega)).trans v10
  have e10 := (hb4.frozen (p := ⟨w.heap.size + 1, 10, none⟩) (by rw [Hzx.out]; dsimp only; omega)).trans z10
  have k11 := (hb4.cell (p := ⟨B, 11, none⟩) (by rw [Hzx.out]; dsimp only; omega)).trans x11
  have f11 := (hb4.frozen (p := ⟨B, 11, none⟩) (by rw [Hzx.out]; dsimp only; omega)).trans y11
  have n11 := (hb4.cell (p := ⟨w.heap.size + 1, 11, none⟩) (by rw [Hzx.out]; dsimp only; omega)).trans v11
  have e11 := (hb4.frozen (p := ⟨w.heap.size + 1, 11, none⟩) (by rw [Hzx.out]; dsimp only; omega)).trans z11
  have k12 := (hb4.cell (p := ⟨B, 12, none⟩) (by rw [Hzx.out]; dsimp only; omega)).trans x12
  have f12 := (hb4.frozen (p := ⟨B, 12, none⟩) (by rw [Hzx.out]; dsimp only; omega)).trans y12
  have n12 := (hb4.cell (p := ⟨w.heap.size + 1, 12, none⟩) (by rw [Hzx.out]; dsimp only; omega)).trans v12
  have e12 := (hb4.frozen (p := ⟨w.heap.size + 1, 12, none⟩) (by rw [Hzx.out]; dsimp only; omega)).trans z12
  clear x0 x1 x2 x3 x4 x5 x6 x7 x8 x9 x10 x11 x12 y0 y1 y2 y3 y4 y5 y6 y7 y8 y9 y10 y11 y12 v0 v1 v2 v3 v4 v5 v6 v7 v8 v9 v10 v11 v12 z0 z1 z2 z3 z4 z5 z6 z7 z8 z9 z10 z11 z12
  clear hb4 hbX hb3
  have Hst2 := Lib.hid hst
  clear hst
  go_wp2
  refine bodyPost_ret (v := .tuple #[.agg #[.int .i64 a, .int .i64 s, .int .i64 kd, .string z, .string pl, .int .i64 vr, .int .i64 rk, .string rz, .string rb, .int .i64 st, .slice av' l.length cap', .int .i64 (fr + free), .int .i64 (pd + paid)], .int .i64 c, .int .i64 0]) (by simp [results, Try.results28, go_sem, n0, n1, n2, n3, n4, n5, n6, n7, n8, n9, n10, n11, n12]) rfl ⟨av', cap', rfl, ?_, ?_⟩
  · have hq := Hst2.out
    exact ((((((((((((((hq.setCell (by simp) _).setCell (by simp; omega) _).setCell (by simp; omega) _).setCell (by simp; omega) _).setCell (by simp; omega) _).setCell (by simp; omega) _).setCell (by simp; omega) _).setCell (by simp; omega) _).setCell (by simp; omega) _).setCell (by simp; omega) _).setCell (by simp; omega) _).setCell (by simp; omega) _).setCell (by simp; omega) _).setCell (by simp; omega) _).mono (by omega)
  · go_grown

set_option maxRecDepth 100000 in
set_option maxHeartbeats 3200000 in
theorem rcharge_yes (l : List St) (a s kd : Int) (z pl : ByteArray) (vr rk : Int) (rz rb : ByteArray) (st : Int) (sv : Value) (fr pd : Int) (free paid : Int) (w : World) (h : StepsAt w sv l) (hp0 : -9223372036854775808 ≤ paid) (hp1 : paid ≤ 9223372036854775807) (hx : chargeE l st pd fr free paid = 0) :
    Calls Try.prog 29 #[.agg #[.int .i64 a, .int .i64 s, .int .i64 kd, .string z, .string pl, .int .i64 vr, .int .i64 rk, .string rz, .string rb, .int .i64 st, sv, .int .i64 fr, .int .i64 pd], .int .i64 free, .int .i64 paid] w (ChargeYes w l a s kd z pl vr rk rz rb st fr pd free paid (costM l st pd paid).1) := by
  have hh := h
  obtain ⟨av, cap, rfl, hm, hc⟩ := h
  clear hm hc
  obtain ⟨W, hW⟩ : ∃ W, W = (w.alloc (Obj.cells #[Value.int .i64 a, Value.int .i64 s, Value.int .i64 kd, Value.string z, Value.string pl, Value.int .i64 vr, Value.int .i64 rk, Value.string rz, Value.string rb, Value.int .i64 st, Value.slice av l.length cap, Value.int .i64 fr, Value.int .i64 pd] 43)).alloc (Obj.cells #[Value.int .i64 0, Value.int .i64 0, Value.int .i64 0, Value.string ⟨#[]⟩, Value.string ⟨#[]⟩, Value.int .i64 0, Value.int .i64 0, Value.string ⟨#[]⟩, Value.string ⟨#[]⟩, Value.int .i64 0, Value.slice none 0 0, Value.int .i64 0, Value.int .i64 0] 43) := ⟨_, rfl⟩
  have hw0 : Below w.heap.size w W := by rw [hW]; go_grown
  have hz : W.heap.size = w.heap.size + 2 := by rw [hW]; simp
  have b0 : W.heap[w.heap.size]? = some (Obj.cells #[Value.int .i64 a, Value.int .i64 s, Value.int .i64 kd, Value.string z, Value.string pl, Value.int .i64 vr, Value.int .i64 rk, Value.string rz, Value.string rb, Value.int .i64 st, Value.slice av l.length cap, Value.int .i64 fr, Value.int .i64 pd] 43) := by rw [hW, Below.heap_alloc _ _ _ (by simp)]; exact heap_alloc_new _ _
  have b1 : W.heap[w.heap.size + 1]? = some (Obj.cells #[Value.int .i64 0, Value.int .i64 0, Value.int .i64 0, Value.string ⟨#[]⟩, Value.string ⟨#[]⟩, Value.int .i64 0, Value.int .i64 0, Value.string ⟨#[]⟩, Value.string ⟨#[]⟩, Value.int .i64 0, Value.slice none 0 0, Value.int .i64 0, Value.int .i64 0] 43) := by rw [hW]; simpa using heap_alloc_new (w.alloc _) _
  have HW := Lib.hid hW
  have Hz := Lib.hid hz
  have Hb := Lib.hid (And.intro b0 b1)
  clear hW hz b0 b1
  have hg : 0 ≤ free ∧ free ≤ 1099511627776 ∧ 0 ≤ fr ∧ fr ≤ 1099511627776 ∧ free + fr ≤ 1099511627776 := by
    by_cases hg : 0 ≤ free ∧ free ≤ 1099511627776 ∧ 0 ≤ fr ∧ fr ≤ 1099511627776 ∧ free + fr ≤ 1099511627776
    · exact hg
    · rw [chargeE, if_pos hg] at hx; cases hx
  have hc : (costM l st pd paid).2 = 0 := by rw [← hx, chargeE, if_neg (not_not_intro hg)]
  obtain ⟨l0, l64, q1, q2, q3, q4, q5, -⟩ := costM_ok hc
  have Hc := Lib.hid (later (Below.refl _ _) (rqcost_calls l a s kd z pl vr rk rz rb st (.slice av l.length cap) fr pd paid W (hh.below hw0) hp0 hp1) rfl)
  obtain ⟨g1, g2, g3, g4, g5⟩ := hg
  have bdc := @costM_bd l st pd paid
  generalize costM l st pd paid = y at *
  obtain ⟨c, e⟩ := y
  dsimp only at hc bdc
  subst hc
  simp only [mp_lit] at *
  have Hh := Lib.hid hh
  clear hx hh
  go_enter Try.func29, Try.ntmps29
  go_wp2_with (first | (go_at_call 54; refine (units_t _ (by omega) (by omega)).mono ?_; rintro e w' ⟨rfl, rfl⟩) | (go_at_call 54; refine (units_f _ (by omega)).mono ?_; rintro e w' ⟨rfl, rfl⟩))
  rw [← HW.out]
  refine Hc.out.mono ?_
  rintro e' w1 ⟨rfl, hb1⟩
  have hz1 := hb1.size
  rw [Hz.out] at hz1
  have g0 := (hb1.block w.heap.size (by rw [Hz.out]; omega)).trans Hb.out.1
  have g1 := (hb1.block (w.heap.size + 1) (by rw [Hz.out]; omega)).trans Hb.out.2
  have k0 : w1.cell? ⟨w.heap.size, 0, none⟩ = some (Value.int .i64 a) := cell_of_row w1 _ 0 _ _ _ g0
  have n0 : w1.cell? ⟨w.heap.size + 1, 0, none⟩ = some (Value.int .i64 0) := cell_of_row w1 _ 0 _ _ _ g1
  have f0 : w1.frozen? ⟨w.heap.size, 0, none⟩ = false := by simp [World.frozen?, g0]
  have e0 : w1.frozen? ⟨w.heap.size + 1, 0, none⟩ = false := by simp [World.frozen?, g1]
  have k1 : w1.cell? ⟨w.heap.size, 1, none⟩ = some (Value.int .i64 s) := cell_of_row w1 _ 1 _ _ _ g0
  have n1 : w1.cell? ⟨w.heap.size + 1, 1, none⟩ = some (Value.int .i64 0) := cell_of_row w1 _ 1 _ _ _ g1
  have f1 : w1.frozen? ⟨w.heap.size, 1, none⟩ = false := by simp [World.frozen?, g0]
  have e1 : w1.frozen? ⟨w.heap.size + 1, 1, none⟩ = false := by simp [World.frozen?, g1]
  have k2 : w1.cell? ⟨w.heap.size, 2, none⟩ = some (Value.int .i64 kd) := cell_of_row w1 _ 2 _ _ _ g0
  have n2 : w1.cell? ⟨w.heap.size + 1, 2, none⟩ = some (Value.int .i64 0) := cell_of_row w1 _ 2 _ _ _ g1
  have f2 : w1.frozen? ⟨w.heap.size, 2, none⟩ = false := by simp [World.frozen?, g0]
  have e2 : w1.frozen? ⟨w.heap.size + 1, 2, none⟩ = false := by simp [World.frozen?, g1]
  have k3 : w1.cell? ⟨w.heap.size, 3, none⟩ = some (Value.string z) := cell_of_row w1 _ 3 _ _ _ g0
  have n3 : w1.cell? ⟨w.heap.size + 1, 3, none⟩ = some (Value.string ⟨#[]⟩) := cell_of_row w1 _ 3 _ _ _ g1
  have f3 : w1.frozen? ⟨w.heap.size, 3, none⟩ = false := by simp [World.frozen?, g0]
  have e3 : w1.frozen? ⟨w.heap.size + 1, 3, none⟩ = false := by simp [World.frozen?, g1]
  have k4 : w1.cell? ⟨w.heap.size, 4, none⟩ = some (Value.string pl) := cell_of_row w1 _ 4 _ _ _ g0
  have n4 : w1.cell? ⟨w.heap.size + 1, 4, none⟩ = some (Value.string ⟨#[]⟩) := cell_of_row w1 _ 4 _ _ _ g1
  have f4 : w1.frozen? ⟨w.heap.size, 4, none⟩ = false := by simp [World.frozen?, g0]
  have e4 : w1.frozen? ⟨w.heap.size + 1, 4, none⟩ = false := by simp [World.frozen?, g1]
  have k5 : w1.cell? ⟨w.heap.size, 5, none⟩ = some (Value.int .i64 vr) := cell_of_row w1 _ 5 _ _ _ g0
  have n5 : w1.cell? ⟨w.heap.size + 1, 5, none⟩ = some (Value.int .i64 0) := cell_of_row w1 _ 5 _ _ _ g1
  have f5 : w1.frozen? ⟨w.heap.size, 5, none⟩ = false := by simp [World.frozen?, g0]
  have e5 : w1.frozen? ⟨w.heap.size + 1, 5, none⟩ = false := by simp [World.frozen?, g1]
  have k6 : w1.cell? ⟨w.heap.size, 6, none⟩ = some (Value.int .i64 rk) := cell_of_row w1 _ 6 _ _ _ g0
  have n6 : w1.cell? ⟨w.heap.size + 1, 6, none⟩ = some (Value.int .i64 0) := cell_of_row w1 _ 6 _ _ _ g1
  have f6 : w1.frozen? ⟨w.heap.size, 6, none⟩ = false := by simp [World.frozen?, g0]
  have e6 : w1.frozen? ⟨w.heap.size + 1, 6, none⟩ = false := by simp [World.frozen?, g1]
  have k7 : w1.cell? ⟨w.heap.size, 7, none⟩ = some (Value.string rz) := cell_of_row w1 _ 7 _ _ _ g0
  have n7 : w1.cell? ⟨w.heap.size + 1, 7, none⟩ = some (Value.string ⟨#[]⟩) := cell_of_row w1 _ 7 _ _ _ g1
  have f7 : w1.frozen? ⟨w.heap.size, 7, none⟩ = false := by simp [World.frozen?, g0]
  have e7 : w1.frozen? ⟨w.heap.size + 1, 7, none⟩ = false := by simp [World.frozen?, g1]
  have k8 : w1.cell? ⟨w.heap.size, 8, none⟩ = some (Value.string rb) := cell_of_row w1 _ 8 _ _ _ g0
  have n8 : w1.cell? ⟨w.heap.size + 1, 8, none⟩ = some (Value.string ⟨#[]⟩) := cell_of_row w1 _ 8 _ _ _ g1
  have f8 : w1.frozen? ⟨w.heap.size, 8, none⟩ = false := by simp [World.frozen?, g0]
  have e8 : w1.frozen? ⟨w.heap.size + 1, 8, none⟩ = false := by simp [World.frozen?, g1]
  have k9 : w1.cell? ⟨w.heap.size, 9, none⟩ = some (Value.int .i64 st) := cell_of_row w1 _ 9 _ _ _ g0
  have n9 : w1.cell? ⟨w.heap.size + 1, 9, none⟩ = some (Value.int .i64 0) := cell_of_row w1 _ 9 _ _ _ g1
  have f9 : w1.frozen? ⟨w.heap.size, 9, none⟩ = false := by simp [World.frozen?, g0]
  have e9 : w1.frozen? ⟨w.heap.size + 1, 9, none⟩ = false := by simp [World.frozen?, g1]
  have k10 : w1.cell? ⟨w.heap.size, 10, none⟩ = some (Value.slice av l.length cap) := cell_of_row w1 _ 10 _ _ _ g0
  have n10 : w1.cell? ⟨w.heap.size + 1, 10, none⟩ = some (Value.slice none 0 0) := cell_of_row w1 _ 10 _ _ _ g1
  have f10 : w1.frozen? ⟨w.heap.size, 10, none⟩ = false := by simp [World.frozen?, g0]
  have e10 : w1.frozen? ⟨w.heap.size + 1, 10, none⟩ = false := by simp [World.frozen?, g1]
  have k11 : w1.cell? ⟨w.heap.size, 11, none⟩ = some (Value.int .i64 fr) := cell_of_row w1 _ 11 _ _ _ g0
  have n11 : w1.cell? ⟨w.heap.size + 1, 11, none⟩ = some (Value.int .i64 0) := cell_of_row w1 _ 11 _ _ _ g1
  have f11 : w1.frozen? ⟨w.heap.size, 11, none⟩ = false := by simp [World.frozen?, g0]
  have e11 : w1.frozen? ⟨w.heap.size + 1, 11, none⟩ = false := by simp [World.frozen?, g1]
  have k12 : w1.cell? ⟨w.heap.size, 12, none⟩ = some (Value.int .i64 pd) := cell_of_row w1 _ 12 _ _ _ g0
  have n12 : w1.cell? ⟨w.heap.size + 1, 12, none⟩ = some (Value.int .i64 0) := cell_of_row w1 _ 12 _ _ _ g1
  have f12 : w1.frozen? ⟨w.heap.size, 12, none⟩ = false := by simp [World.frozen?, g0]
  have e12 : w1.frozen? ⟨w.heap.size + 1, 12, none⟩ = false := by simp [World.frozen?, g1]
  clear g0 g1
  have hb2 := hw0.trans (hb1.mono hw0.size)
  have hzw : w.heap.size + 2 ≤ w1.heap.size := hz1
  go_wp2_with fail
  refine (copyRate_calls _ l rk rz rb st w1 (Hh.out.below hb2) l0 l64).mono ?_
  rintro e' w2 ⟨av', cap', rfl, hst, hb4⟩
  have hb5 := hb2.trans (hb4.mono hb2.size)
  replace k0 := (hb4.cell (p := ⟨w.heap.size, 0, none⟩) (by dsimp only; omega)).trans k0
  replace f0 := (hb4.frozen (p := ⟨w.heap.size, 0, none⟩) (by dsimp only; omega)).trans f0
  replace n0 := (hb4.cell (p := ⟨w.heap.size + 1, 0, none⟩) (by dsimp only; omega)).trans n0
  replace e0 := (hb4.frozen (p := ⟨w.heap.size + 1, 0, none⟩) (by dsimp only; omega)).trans e0
  replace k1 := (hb4.cell (p := ⟨w.heap.size, 1, none⟩) (by dsimp only; omega)).trans k1
  replace f1 := (hb4.frozen (p := ⟨w.heap.size, 1, none⟩) (by dsimp only; omega)).trans f1
  replace n1 := (hb4.cell (p := ⟨w.heap.size + 1, 1, none⟩) (by dsimp only; omega)).trans n1
  replace e1 := (hb4.frozen (p := ⟨w.heap.size + 1, 1, none⟩) (by dsimp only; omega)).trans e1
  replace k2 := (hb4.cell (p := ⟨w.heap.size, 2, none⟩) (by dsimp only; omega)).trans k2
  replace f2 := (hb4.frozen (p := ⟨w.heap.size, 2, none⟩) (by dsimp only; omega)).trans f2
  replace n2 := (hb4.cell (p := ⟨w.heap.size + 1, 2, none⟩) (by dsimp only; omega)).trans n2
  replace e2 := (hb4.frozen (p := ⟨w.heap.size + 1, 2, none⟩) (by dsimp only; omega)).trans e2
  replace k3 := (hb4.cell (p := ⟨w.heap.size, 3, none⟩) (by dsimp only; omega)).trans k3
  replace f3 := (hb4.frozen (p := ⟨w.heap.size, 3, none⟩) (by dsimp only; omega)).trans f3
  replace n3 := (hb4.cell (p := ⟨w.heap.size + 1, 3, none⟩) (by dsimp only; omega)).trans n3
  replace e3 := (hb4.frozen (p := ⟨w.heap.size + 1, 3, none⟩) (by dsimp only; omega)).trans e3
  replace k4 := (hb4.cell (p := ⟨w.heap.size, 4, none⟩) (by dsimp only; omega)).trans k4
  replace f4 := (hb4.frozen (p := ⟨w.heap.size, 4, none⟩) (by dsimp only; omega)).trans f4
  replace n4 := (hb4.cell (p := ⟨w.heap.size + 1, 4, none⟩) (by dsimp only; omega)).trans n4
  replace e4 := (hb4.frozen (p := ⟨w.heap.size + 1, 4, none⟩) (by dsimp only; omega)).trans e4
  replace k5 := (hb4.cell (p := ⟨w.heap.size, 5, none⟩) (by dsimp only; omega)).trans k5
  replace f5 := (hb4.frozen (p := ⟨w.heap.size, 5, none⟩) (by dsimp only; omega)).trans f5
  replace n5 := (hb4.cell (p := ⟨w.heap.size + 1, 5, none⟩) (by dsimp only; omega)).trans n5
  replace e5 := (hb4.frozen (p := ⟨w.heap.size + 1, 5, none⟩) (by dsimp only; omega)).trans e5
  replace k6 := (hb4.cell (p := ⟨w.heap.size, 6, none⟩) (by dsimp only; omega)).trans k6
  replace f6 := (hb4.frozen (p := ⟨w.heap.size, 6, none⟩) (by dsimp only; omega)).trans f6
  replace n6 := (hb4.cell (p := ⟨w.heap.size + 1, 6, none⟩) (by dsimp only; omega)).trans n6
  replace e6 := (hb4.frozen (p := ⟨w.heap.size + 1, 6, none⟩) (by dsimp only; omega)).trans e6
  replace k7 := (hb4.cell (p := ⟨w.heap.size, 7, none⟩) (by dsimp only; omega)).trans k7
  replace f7 := (hb4.frozen (p := ⟨w.heap.size, 7, none⟩) (by dsimp only; omega)).trans f7
  replace n7 := (hb4.cell (p := ⟨w.heap.size + 1, 7, none⟩) (by dsimp only; omega)).trans n7
  replace e7 := (hb4.frozen (p := ⟨w.heap.size + 1, 7, none⟩) (by dsimp only; omega)).trans e7
  replace k8 := (hb4.cell (p := ⟨w.heap.size, 8, none⟩) (by dsimp only; omega)).trans k8
  replace f8 := (hb4.frozen (p := ⟨w.heap.size, 8, none⟩) (by dsimp only; omega)).trans f8
  replace n8 := (hb4.cell (p := ⟨w.heap.size + 1, 8, none⟩) (by dsimp only; omega)).trans n8
  replace e8 := (hb4.frozen (p := ⟨w.heap.size + 1, 8, none⟩) (by dsimp only; omega)).trans e8
  replace k9 := (hb4.cell (p := ⟨w.heap.size, 9, none⟩) (by dsimp only; omega)).trans k9
  replace f9 := (hb4.frozen (p := ⟨w.heap.size, 9, none⟩) (by dsimp only; omega)).trans f9
  replace n9 := (hb4.cell (p := ⟨w.heap.size + 1, 9, none⟩) (by dsimp only; omega)).trans n9
  replace e9 := (hb4.frozen (p := ⟨w.heap.size + 1, 9, none⟩) (by dsimp only; omega)).trans e9
  replace k10 := (hb4.cell (p := ⟨w.heap.size, 10, none⟩) (by dsimp only; omega)).trans k10
  replace f10 := (hb4.frozen (p := ⟨w.heap.size, 10, none⟩) (by dsimp only; omega)).trans f10
  replace n10 := (hb4.cell (p := ⟨w.heap.size + 1, 10, none⟩) (by dsimp only; omega)).trans n10
  replace e10 := (hb4.frozen (p := ⟨w.heap.size + 1, 10, none⟩) (by dsimp only; omega)).trans e10
  replace k11 := (hb4.cell (p := ⟨w.heap.size, 11, none⟩) (by dsimp only; omega)).trans k11
  replace f11 := (hb4.frozen (p := ⟨w.heap.size, 11, none⟩) (by dsimp only; omega)).trans f11
  replace n11 := (hb4.cell (p := ⟨w.heap.size + 1, 11, none⟩) (by dsimp only; omega)).trans n11
  replace e11 := (hb4.frozen (p := ⟨w.heap.size + 1, 11, none⟩) (by dsimp only; omega)).trans e11
  replace k12 := (hb4.cell (p := ⟨w.heap.size, 12, none⟩) (by dsimp only; omega)).trans k12
  replace f12 := (hb4.frozen (p := ⟨w.heap.size, 12, none⟩) (by dsimp only; omega)).trans f12
  replace n12 := (hb4.cell (p := ⟨w.heap.size + 1, 12, none⟩) (by dsimp only; omega)).trans n12
  replace e12 := (hb4.frozen (p := ⟨w.heap.size + 1, 12, none⟩) (by dsimp only; omega)).trans e12
  clear hb4 hb2 hb1 hw0
  have Hst2 := Lib.hid hst
  clear hst
  go_upto_region 9 with (fail)
  obtain ⟨X, hX⟩ : ∃ X, X = ((((((w2.setCell ⟨w.heap.size, 6, none⟩ (.int .i64 rk)).setCell ⟨w.heap.size, 7, none⟩ (.string rz)).setCell ⟨w.heap.size, 8, none⟩ (.string rb)).setCell ⟨w.heap.size, 9, none⟩ (.int .i64 st)).setCell ⟨w.heap.size, 10, none⟩ (.slice av' l.length cap')).setCell ⟨w.heap.size, 11, none⟩ (.int .i64 (fr + free))).setCell ⟨w.heap.size, 12, none⟩ (.int .i64 (pd + paid)) := ⟨_, rfl⟩
  have hbX : Below w.heap.size w X := by rw [hX]; go_grown
  have hq := Hst2.out
  have hqX : StepsFrom w1.heap.size X (.slice av' l.length cap') l := by
    rw [hX]
    exact ((((((hq.setCell (by simp; omega) _).setCell (by simp; omega) _).setCell (by simp; omega) _).setCell (by simp; omega) _).setCell (by simp; omega) _).setCell (by simp; omega) _).setCell (by simp; omega) _
  have x0 : X.cell? ⟨w.heap.size, 0, none⟩ = some (Value.int .i64 a) := by rw [hX]; simp [go_sem, k0]
  have x1 : X.cell? ⟨w.heap.size, 1, none⟩ = some (Value.int .i64 s) := by rw [hX]; simp [go_sem, k1]
  have x2 : X.cell? ⟨w.heap.size, 2, none⟩ = some (Value.int .i64 kd) := by rw [hX]; simp [go_sem, k2]
  have x3 : X.cell? ⟨w.heap.size, 3, none⟩ = some (Value.string z) := by rw [hX]; simp [go_sem, k3]
  have x4 : X.cell? ⟨w.heap.size, 4, none⟩ = some (Value.string pl) := by rw [hX]; simp [go_sem, k4]
  have x5 : X.cell? ⟨w.heap.size, 5, none⟩ = some (Value.int .i64 vr) := by rw [hX]; simp [go_sem, k5]
  have x6 : X.cell? ⟨w.heap.size, 6, none⟩ = some (Value.int .i64 rk) := by rw [hX]; simp [go_sem, k6]
  have x7 : X.cell? ⟨w.heap.size, 7, none⟩ = some (Value.string rz) := by rw [hX]; simp [go_sem, k7]
  have x8 : X.cell? ⟨w.heap.size, 8, none⟩ = some (Value.string rb) := by rw [hX]; simp [go_sem, k8]
  have x9 : X.cell? ⟨w.heap.size, 9, none⟩ = some (Value.int .i64 st) := by rw [hX]; simp [go_sem, k9]
  have x10 : X.cell? ⟨w.heap.size, 10, none⟩ = some (Value.slice av' l.length cap') := by rw [hX]; simp [go_sem, k10]
  have x11 : X.cell? ⟨w.heap.size, 11, none⟩ = some (Value.int .i64 (fr + free)) := by rw [hX]; simp [go_sem, k11]
  have x12 : X.cell? ⟨w.heap.size, 12, none⟩ = some (Value.int .i64 (pd + paid)) := by rw [hX]; simp [go_sem, k12]
  have v0 : X.cell? ⟨w.heap.size + 1, 0, none⟩ = some (Value.int .i64 0) := by rw [hX]; simp [go_sem, n0]
  have z0 : X.frozen? ⟨w.heap.size + 1, 0, none⟩ = false := by rw [hX]; simp [go_sem, e0]
  have v1 : X.cell? ⟨w.heap.size + 1, 1, none⟩ = some (Value.int .i64 0) := by rw [hX]; simp [go_sem, n1]
  have z1 : X.frozen? ⟨w.heap.size + 1, 1, none⟩ = false := by rw [hX]; simp [go_sem, e1]
  have v2 : X.cell? ⟨w.heap.size + 1, 2, none⟩ = some (Value.int .i64 0) := by rw [hX]; simp [go_sem, n2]
  have z2 : X.frozen? ⟨w.heap.size + 1, 2, none⟩ = false := by rw [hX]; simp [go_sem, e2]
  have v3 : X.cell? ⟨w.heap.size + 1, 3, none⟩ = some (Value.string ⟨#[]⟩) := by rw [hX]; simp [go_sem, n3]
  have z3 : X.frozen? ⟨w.heap.size + 1, 3, none⟩ = false := by rw [hX]; simp [go_sem, e3]
  have v4 : X.cell? ⟨w.heap.size + 1, 4, none⟩ = some (Value.string ⟨#[]⟩) := by rw [hX]; simp [go_sem, n4]
  have z4 : X.frozen? ⟨w.heap.size + 1, 4, none⟩ = false := by rw [hX]; simp [go_sem, e4]
  have v5 : X.cell? ⟨w.heap.size + 1, 5, none⟩ = some (Value.int .i64 0) := by rw [hX]; simp [go_sem, n5]
  have z5 : X.frozen? ⟨w.heap.size + 1, 5, none⟩ = false := by rw [hX]; simp [go_sem, e5]
  have v6 : X.cell? ⟨w.heap.size + 1, 6, none⟩ = some (Value.int .i64 0) := by rw [hX]; simp [go_sem, n6]
  have z6 : X.frozen? ⟨w.heap.size + 1, 6, none⟩ = false := by rw [hX]; simp [go_sem, e6]
  have v7 : X.cell? ⟨w.heap.size + 1, 7, none⟩ = some (Value.string ⟨#[]⟩) := by rw [hX]; simp [go_sem, n7]
  have z7 : X.frozen? ⟨w.heap.size + 1, 7, none⟩ = false := by rw [hX]; simp [go_sem, e7]
  have v8 : X.cell? ⟨w.heap.size + 1, 8, none⟩ = some (Value.string ⟨#[]⟩) := by rw [hX]; simp [go_sem, n8]
  have z8 : X.frozen? ⟨w.heap.size + 1, 8, none⟩ = false := by rw [hX]; simp [go_sem, e8]
  have v9 : X.cell? ⟨w.heap.size + 1, 9, none⟩ = some (Value.int .i64 0) := by rw [hX]; simp [go_sem, n9]
  have z9 : X.frozen? ⟨w.heap.size + 1, 9, none⟩ = false := by rw [hX]; simp [go_sem, e9]
  have v10 : X.cell? ⟨w.heap.size + 1, 10, none⟩ = some (Value.slice none 0 0) := by rw [hX]; simp [go_sem, n10]
  have z10 : X.frozen? ⟨w.heap.size + 1, 10, none⟩ = false := by rw [hX]; simp [go_sem, e10]
  have v11 : X.cell? ⟨w.heap.size + 1, 11, none⟩ = some (Value.int .i64 0) := by rw [hX]; simp [go_sem, n11]
  have z11 : X.frozen? ⟨w.heap.size + 1, 11, none⟩ = false := by rw [hX]; simp [go_sem, e11]
  have v12 : X.cell? ⟨w.heap.size + 1, 12, none⟩ = some (Value.int .i64 0) := by rw [hX]; simp [go_sem, n12]
  have z12 : X.frozen? ⟨w.heap.size + 1, 12, none⟩ = false := by rw [hX]; simp [go_sem, e12]
  rw [← hX]
  clear hX hq Hst2 hb5
  clear k0 k1 k2 k3 k4 k5 k6 k7 k8 k9 k10 k11 k12 n0 n1 n2 n3 n4 n5 n6 n7 n8 n9 n10 n11 n12 f0 f1 f2 f3 f4 f5 f6 f7 f8 f9 f10 f11 f12 e0 e1 e2 e3 e4 e5 e6 e7 e8 e9 e10 e11 e12
  have HqX := Lib.hid hqX
  clear hqX
  go_wp2
  refine bodyPost_ret (v := .tuple #[.agg #[.int .i64 a, .int .i64 s, .int .i64 kd, .string z, .string pl, .int .i64 vr, .int .i64 rk, .string rz, .string rb, .int .i64 st, .slice av' l.length cap', .int .i64 (fr + free), .int .i64 (pd + paid)], .int .i64 c, .int .i64 0]) (by simp [results, Try.results29, go_sem, v0, v1, v2, v3, v4, v5, v6, v7, v8, v9, v10, v11, v12]) rfl ⟨av', cap', rfl, ?_, ?_⟩
  · have hq := HqX.out
    exact (((((((((((((hq.setCell (by simp; omega) _).setCell (by simp; omega) _).setCell (by simp; omega) _).setCell (by simp; omega) _).setCell (by simp; omega) _).setCell (by simp; omega) _).setCell (by simp; omega) _).setCell (by simp; omega) _).setCell (by simp; omega) _).setCell (by simp; omega) _).setCell (by simp; omega) _).setCell (by simp; omega) _).setCell (by simp; omega) _).mono (by omega)
  · go_grown
end Go.Proofs.Ytkipebdhagccbaa
