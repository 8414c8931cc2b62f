/-
  Charging a meter: the walks of Charge, the program's and the reference's.
-/
import Derived.Test.YtkipebdhagccbaaMeterCost
import Derived.Test.YtkipebdhagccbaaClone
import Derived.BigRegion
namespace Go.Proofs.Ytkipebdhagccbaa
open Go.RowKit

/-- The error of a charge. -/
def chargeE (l : List St) (st pd fr free paid : Int) : Int :=
  if ¬ (0 ≤ free ∧ free ≤ 1099511627776 ∧ 0 ≤ fr ∧ fr ≤ 1099511627776 ∧ free + fr ≤ 1099511627776) then 6 else (costM l st pd paid).2

theorem costM_ok {l : List St} {st pd n : Int} (h : (costM l st pd n).2 = 0) : 0 < l.length ∧ l.length ≤ 64 ∧ 0 ≤ n ∧ n ≤ 1099511627776 ∧ 0 ≤ pd ∧ pd ≤ 1099511627776 ∧ pd + n ≤ 1099511627776 ∧ errL l = 0 := by
  unfold costM at h
  split at h
  · cases h
  · rename_i hg
    split at h
    · rename_i h1; exact absurd h h1
    · rename_i h1
      have h2 : (priceL l (pd + n)).2 = 0 := by
        unfold mpriceL at h1
        by_cases he : (priceL l (pd + n)).2 = 0
        · exact he
        · rw [if_pos he] at h1; exact absurd he h1
      have h3 : errL l = 0 := by
        unfold priceL at h2
        by_cases he : errL l = 0
        · exact he
        · rw [if_pos he] at h2; cases h2
      obtain ⟨a, b, -⟩ := errL_ok h3
      exact ⟨by omega, b, by omega, by omega, by omega, by omega, by omega, h3⟩

/-- A charge failed. -/
def ChargeNo (w : World) (x : Int) (e : Ending) (w' : World) : Prop := e = .returned (.tuple #[.agg #[.int .i64 0, .int .i64 0, .int .i64 0, .string ⟨#[]⟩, .string ⟨#[]⟩, .int .i64 0, .int .i64 0, .string ⟨#[]⟩, .string ⟨#[]⟩, .int .i64 0, .slice none 0 0, .int .i64 0, .int .i64 0], .int .i64 0, .int .i64 x]) ∧ Below w.heap.size w w'

set_option maxRecDepth 100000 in
set_option maxHeartbeats 3200000 in
theorem charge_no (l : List St) (a s kd : Int) (z pl : ByteArray) (vr rk : Int) (rz rb : ByteArray) (st : Int) (sv : Value) (fr pd : Int) (free paid : Int) (w : World) (h : StepsAt w sv l) (hp0 : -9223372036854775808 ≤ paid) (hp1 : paid ≤ 9223372036854775807) (x : Int) (hx : chargeE l st pd fr free paid = x) (hne : x ≠ 0) :
    Calls Try.prog 28 #[.agg #[.int .i64 a, .int .i64 s, .int .i64 kd, .string z, .string pl, .int .i64 vr, .int .i64 rk, .string rz, .string rb, .int .i64 st, sv, .int .i64 fr, .int .i64 pd], .int .i64 free, .int .i64 paid] w (ChargeNo w x) := by
  have hh := h
  obtain ⟨av, cap, rfl, hm, hc⟩ := h
  clear hm hc
  obtain ⟨W, hW⟩ : ∃ W, W = (w.alloc (Obj.cells #[Value.int .i64 a, Value.int .i64 s, Value.int .i64 kd, Value.string z, Value.string pl, Value.int .i64 vr, Value.int .i64 rk, Value.string rz, Value.string rb, Value.int .i64 st, Value.slice av l.length cap, Value.int .i64 fr, Value.int .i64 pd] 43)).alloc (Obj.cells #[Value.int .i64 0, Value.int .i64 0, Value.int .i64 0, Value.string ⟨#[]⟩, Value.string ⟨#[]⟩, Value.int .i64 0, Value.int .i64 0, Value.string ⟨#[]⟩, Value.string ⟨#[]⟩, Value.int .i64 0, Value.slice none 0 0, Value.int .i64 0, Value.int .i64 0] 43) := ⟨_, rfl⟩
  have hw0 : Below w.heap.size w W := by rw [hW]; go_grown
  have hz : W.heap.size = w.heap.size + 2 := by rw [hW]; simp
  have b0 : W.heap[w.heap.size]? = some (Obj.cells #[Value.int .i64 a, Value.int .i64 s, Value.int .i64 kd, Value.string z, Value.string pl, Value.int .i64 vr, Value.int .i64 rk, Value.string rz, Value.string rb, Value.int .i64 st, Value.slice av l.length cap, Value.int .i64 fr, Value.int .i64 pd] 43) := by rw [hW, Below.heap_alloc _ _ _ (by simp)]; exact heap_alloc_new _ _
  have b1 : W.heap[w.heap.size + 1]? = some (Obj.cells #[Value.int .i64 0, Value.int .i64 0, Value.int .i64 0, Value.string ⟨#[]⟩, Value.string ⟨#[]⟩, Value.int .i64 0, Value.int .i64 0, Value.string ⟨#[]⟩, Value.string ⟨#[]⟩, Value.int .i64 0, Value.slice none 0 0, Value.int .i64 0, Value.int .i64 0] 43) := by rw [hW]; simpa using heap_alloc_new (w.alloc _) _
  have HW := Lib.hid hW
  have Hz := Lib.hid hz
  have Hb := Lib.hid (And.intro b0 b1)
  clear hW hz b0 b1
  by_cases hg : 0 ≤ free ∧ free ≤ 1099511627776 ∧ 0 ≤ fr ∧ fr ≤ 1099511627776 ∧ free + fr ≤ 1099511627776
  · have hc : (costM l st pd paid).2 = x := by rw [← hx, chargeE, if_neg (not_not_intro hg)]
    have Hc := Lib.hid (later (Below.refl _ _) (qcost_calls l a s kd z pl vr rk rz rb st (.slice av l.length cap) fr pd paid W (hh.below hw0) hp0 hp1) rfl)
    have hx2 : (x != 0) = true := by rw [bne_iff_ne]; exact hne
    obtain ⟨g1, g2, g3, g4, g5⟩ := hg
    generalize costM l st pd paid = y at *
    obtain ⟨c, e⟩ := y
    dsimp only at hc
    subst hc
    simp only [mp_lit] at *
    clear hx hne hh
    go_enter Try.func28, Try.ntmps28
    go_wp2_with (first | (go_at_call 56; refine (qwithin_t _ (by omega) (by omega)).mono ?_; rintro e w' ⟨rfl, rfl⟩) | (go_at_call 56; refine (qwithin_f _ (by omega)).mono ?_; rintro e w' ⟨rfl, rfl⟩))
    rw [← HW.out]
    refine Hc.out.mono ?_
    rintro e' w1 ⟨rfl, hb1⟩
    have hz1 := hb1.size
    rw [Hz.out] at hz1
    have g0 := (hb1.block w.heap.size (by rw [Hz.out]; omega)).trans Hb.out.1
    have g1 := (hb1.block (w.heap.size + 1) (by rw [Hz.out]; omega)).trans Hb.out.2
    have k0 : w1.cell? ⟨w.heap.size, 0, none⟩ = some (Value.int .i64 a) := cell_of_row w1 _ 0 _ _ _ g0
    have n0 : w1.cell? ⟨w.heap.size + 1, 0, none⟩ = some (Value.int .i64 0) := cell_of_row w1 _ 0 _ _ _ g1
    have f0 : w1.frozen? ⟨w.heap.size, 0, none⟩ = false := by simp [World.frozen?, g0]
    have e0 : w1.frozen? ⟨w.heap.size + 1, 0, none⟩ = false := by simp [World.frozen?, g1]
    have k1 : w1.cell? ⟨w.heap.size, 1, none⟩ = some (Value.int .i64 s) := cell_of_row w1 _ 1 _ _ _ g0
    have n1 : w1.cell? ⟨w.heap.size + 1, 1, none⟩ = some (Value.int .i64 0) := cell_of_row w1 _ 1 _ _ _ g1
    have f1 : w1.frozen? ⟨w.heap.size, 1, none⟩ = false := by simp [World.frozen?, g0]
    have e1 : w1.frozen? ⟨w.heap.size + 1, 1, none⟩ = false := by simp [World.frozen?, g1]
    have k2 : w1.cell? ⟨w.heap.size, 2, none⟩ = some (Value.int .i64 kd) := cell_of_row w1 _ 2 _ _ _ g0
    have n2 : w1.cell? ⟨w.heap.size + 1, 2, none⟩ = some (Value.int .i64 0) := cell_of_row w1 _ 2 _ _ _ g1
    have f2 : w1.frozen? ⟨w.heap.size, 2, none⟩ = false := by simp [World.frozen?, g0]
    have e2 : w1.frozen? ⟨w.heap.size + 1, 2, none⟩ = false := by simp [World.frozen?, g1]
    have k3 : w1.cell? ⟨w.heap.size, 3, none⟩ = some (Value.string z) := cell_of_row w1 _ 3 _ _ _ g0
    have n3 : w1.cell? ⟨w.heap.size + 1, 3, none⟩ = some (Value.string ⟨#[]⟩) := cell_of_row w1 _ 3 _ _ _ g1
    have f3 : w1.frozen? ⟨w.heap.size, 3, none⟩ = false := by simp [World.frozen?, g0]
    have e3 : w1.frozen? ⟨w.heap.size + 1, 3, none⟩ = false := by simp [World.frozen?, g1]
    have k4 : w1.cell? ⟨w.heap.size, 4, none⟩ = some (Value.string pl) := cell_of_row w1 _ 4 _ _ _ g0
    have n4 : w1.cell? ⟨w.heap.size + 1, 4, none⟩ = some (Value.string ⟨#[]⟩) := cell_of_row w1 _ 4 _ _ _ g1
    have f4 : w1.frozen? ⟨w.heap.size, 4, none⟩ = false := by simp [World.frozen?, g0]
    have e4 : w1.frozen? ⟨w.heap.size + 1, 4, none⟩ = false := by simp [World.frozen?, g1]
    have k5 : w1.cell? ⟨w.heap.size, 5, none⟩ = some (Value.int .i64 vr) := cell_of_row w1 _ 5 _ _ _ g0
    have n5 : w1.cell? ⟨w.heap.size + 1, 5, none⟩ = some (Value.int .i64 0) := cell_of_row w1 _ 5 _ _ _ g1
    have f5 : w1.frozen? ⟨w.heap.size, 5, none⟩ = false := by simp [World.frozen?, g0]
    have e5 : w1.frozen? ⟨w.heap.size + 1, 5, none⟩ = false := by simp [World.frozen?, g1]
    have k6 : w1.cell? ⟨w.heap.size, 6, none⟩ = some (Value.int .i64 rk) := cell_of_row w1 _ 6 _ _ _ g0
    have n6 : w1.cell? ⟨w.heap.size + 1, 6, none⟩ = some (Value.int .i64 0) := cell_of_row w1 _ 6 _ _ _ g1
    have f6 : w1.frozen? ⟨w.heap.size, 6, none⟩ = false := by simp [World.frozen?, g0]
    have e6 : w1.frozen? ⟨w.heap.size + 1, 6, none⟩ = false := by simp [World.frozen?, g1]
    have k7 : w1.cell? ⟨w.heap.size, 7, none⟩ = some (Value.string rz) := cell_of_row w1 _ 7 _ _ _ g0
    have n7 : w1.cell? ⟨w.heap.size + 1, 7, none⟩ = some (Value.string ⟨#[]⟩) := cell_of_row w1 _ 7 _ _ _ g1
    have f7 : w1.frozen? ⟨w.heap.size, 7, none⟩ = false := by simp [World.frozen?, g0]
    have e7 : w1.frozen? ⟨w.heap.size + 1, 7, none⟩ = false := by simp [World.frozen?, g1]
    have k8 : w1.cell? ⟨w.heap.size, 8, none⟩ = some (Value.string rb) := cell_of_row w1 _ 8 _ _ _ g0
    have n8 : w1.cell? ⟨w.heap.size + 1, 8, none⟩ = some (Value.string ⟨#[]⟩) := cell_of_row w1 _ 8 _ _ _ g1
    have f8 : w1.frozen? ⟨w.heap.size, 8, none⟩ = false := by simp [World.frozen?, g0]
    have e8 : w1.frozen? ⟨w.heap.size + 1, 8, none⟩ = false := by simp [World.frozen?, g1]
    have k9 : w1.cell? ⟨w.heap.size, 9, none⟩ = some (Value.int .i64 st) := cell_of_row w1 _ 9 _ _ _ g0
    have n9 : w1.cell? ⟨w.heap.size + 1, 9, none⟩ = some (Value.int .i64 0) := cell_of_row w1 _ 9 _ _ _ g1
    have f9 : w1.frozen? ⟨w.heap.size, 9, none⟩ = false := by simp [World.frozen?, g0]
    have e9 : w1.frozen? ⟨w.heap.size + 1, 9, none⟩ = false := by simp [World.frozen?, g1]
    have k10 : w1.cell? ⟨w.heap.size, 10, none⟩ = some (Value.slice av l.length cap) := cell_of_row w1 _ 10 _ _ _ g0
    have n10 : w1.cell? ⟨w.heap.size + 1, 10, none⟩ = some (Value.slice none 0 0) := cell_of_row w1 _ 10 _ _ _ g1
    have f10 : w1.frozen? ⟨w.heap.size, 10, none⟩ = false := by simp [World.frozen?, g0]
    have e10 : w1.frozen? ⟨w.heap.size + 1, 10, none⟩ = false := by simp [World.frozen?, g1]
    have k11 : w1.cell? ⟨w.heap.size, 11, none⟩ = some (Value.int .i64 fr) := cell_of_row w1 _ 11 _ _ _ g0
    have n11 : w1.cell? ⟨w.heap.size + 1, 11, none⟩ = some (Value.int .i64 0) := cell_of_row w1 _ 11 _ _ _ g1
    have f11 : w1.frozen? ⟨w.heap.size, 11, none⟩ = false := by simp [World.frozen?, g0]
    have e11 : w1.frozen? ⟨w.heap.size + 1, 11, none⟩ = false := by simp [World.frozen?, g1]
    have k12 : w1.cell? ⟨w.heap.size, 12, none⟩ = some (Value.int .i64 pd) := cell_of_row w1 _ 12 _ _ _ g0
    have n12 : w1.cell? ⟨w.heap.size + 1, 12, none⟩ = some (Value.int .i64 0) := cell_of_row w1 _ 12 _ _ _ g1
    have f12 : w1.frozen? ⟨w.heap.size, 12, none⟩ = false := by simp [World.frozen?, g0]
    have e12 : w1.frozen? ⟨w.heap.size + 1, 12, none⟩ = false := by simp [World.frozen?, g1]
    clear g0 g1
    go_wp2
    refine bodyPost_ret (v := .tuple #[.agg #[.int .i64 0, .int .i64 0, .int .i64 0, .string ⟨#[]⟩, .string ⟨#[]⟩, .int .i64 0, .int .i64 0, .string ⟨#[]⟩, .string ⟨#[]⟩, .int .i64 0, .slice none 0 0, .int .i64 0, .int .i64 0], .int .i64 0, .int .i64 e]) (by simp [results, Try.results28, go_sem, n0, n1, n2, n3, n4, n5, n6, n7, n8, n9, n10, n11, n12]) rfl ⟨rfl, ?_⟩
    have hb := hw0.trans (hb1.mono hw0.size)
    go_grown
  · have hx6 : x = 6 := by rw [← hx, chargeE, if_pos hg]
    subst hx6
    have hcase : (free < 0 ∨ 1099511627776 < free) ∨ (0 ≤ free ∧ free ≤ 1099511627776 ∧ (fr < 0 ∨ 1099511627776 < fr)) ∨ (0 ≤ free ∧ free ≤ 1099511627776 ∧ 0 ≤ fr ∧ fr ≤ 1099511627776 ∧ 1099511627776 < free + fr) := by omega
    clear hg hx hne hh
    rcases hcase with hg | hg | hg
    all_goals
      go_enter Try.func28, Try.ntmps28
      go_wp2_with (first | (go_at_call 56; refine (qwithin_t _ (by omega) (by omega)).mono ?_; rintro e w' ⟨rfl, rfl⟩) | (go_at_call 56; refine (qwithin_f _ (by omega)).mono ?_; rintro e w' ⟨rfl, rfl⟩))
      refine bodyPost_ret (v := .tuple #[.agg #[.int .i64 0, .int .i64 0, .int .i64 0, .string ⟨#[]⟩, .string ⟨#[]⟩, .int .i64 0, .int .i64 0, .string ⟨#[]⟩, .string ⟨#[]⟩, .int .i64 0, .slice none 0 0, .int .i64 0, .int .i64 0], .int .i64 0, .int .i64 6]) (by simp [results, Try.results28, go_sem]) rfl ⟨rfl, ?_⟩
      go_grown

set_option maxRecDepth 100000 in
set_option maxHeartbeats 3200000 in
theorem rcharge_no (l : List St) (a s kd : Int) (z pl : ByteArray) (vr rk : Int) (rz rb : ByteArray) (st : Int) (sv : Value) (fr pd : Int) (free paid : Int) (w : World) (h : StepsAt w sv l) (hp0 : -9223372036854775808 ≤ paid) (hp1 : paid ≤ 9223372036854775807) (x : Int) (hx : chargeE l st pd fr free paid = x) (hne : x ≠ 0) :
    Calls Try.prog 29 #[.agg #[.int .i64 a, .int .i64 s, .int .i64 kd, .string z, .string pl, .int .i64 vr, .int .i64 rk, .string rz, .string rb, .int .i64 st, sv, .int .i64 fr, .int .i64 pd], .int .i64 free, .int .i64 paid] w (ChargeNo w x) := by
  have hh := h
  obtain ⟨av, cap, rfl, hm, hc⟩ := h
  clear hm hc
  obtain ⟨W, hW⟩ : ∃ W, W = (w.alloc (Obj.cells #[Value.int .i64 a, Value.int .i64 s, Value.int .i64 kd, Value.string z, Value.string pl, Value.int .i64 vr, Value.int .i64 rk, Value.string rz, Value.string rb, Value.int .i64 st, Value.slice av l.length cap, Value.int .i64 fr, Value.int .i64 pd] 43)).alloc (Obj.cells #[Value.int .i64 0, Value.int .i64 0, Value.int .i64 0, Value.string ⟨#[]⟩, Value.string ⟨#[]⟩, Value.int .i64 0, Value.int .i64 0, Value.string ⟨#[]⟩, Value.string ⟨#[]⟩, Value.int .i64 0, Value.slice none 0 0, Value.int .i64 0, Value.int .i64 0] 43) := ⟨_, rfl⟩
  have hw0 : Below w.heap.size w W := by rw [hW]; go_grown
  have hz : W.heap.size = w.heap.size + 2 := by rw [hW]; simp
  have b0 : W.heap[w.heap.size]? = some (Obj.cells #[Value.int .i64 a, Value.int .i64 s, Value.int .i64 kd, Value.string z, Value.string pl, Value.int .i64 vr, Value.int .i64 rk, Value.string rz, Value.string rb, Value.int .i64 st, Value.slice av l.length cap, Value.int .i64 fr, Value.int .i64 pd] 43) := by rw [hW, Below.heap_alloc _ _ _ (by simp)]; exact heap_alloc_new _ _
  have b1 : W.heap[w.heap.size + 1]? = some (Obj.cells #[Value.int .i64 0, Value.int .i64 0, Value.int .i64 0, Value.string ⟨#[]⟩, Value.string ⟨#[]⟩, Value.int .i64 0, Value.int .i64 0, Value.string ⟨#[]⟩, Value.string ⟨#[]⟩, Value.int .i64 0, Value.slice none 0 0, Value.int .i64 0, Value.int .i64 0] 43) := by rw [hW]; simpa using heap_alloc_new (w.alloc _) _
  have HW := Lib.hid hW
  have Hz := Lib.hid hz
  have Hb := Lib.hid (And.intro b0 b1)
  clear hW hz b0 b1
  by_cases hg : 0 ≤ free ∧ free ≤ 1099511627776 ∧ 0 ≤ fr ∧ fr ≤ 1099511627776 ∧ free + fr ≤ 1099511627776
  · have hc : (costM l st pd paid).2 = x := by rw [← hx, chargeE, if_neg (not_not_intro hg)]
    have Hc := Lib.hid (later (Below.refl _ _) (rqcost_calls l a s kd z pl vr rk rz rb st (.slice av l.length cap) fr pd paid W (hh.below hw0) hp0 hp1) rfl)
    have hx2 : (x != 0) = true := by rw [bne_iff_ne]; exact hne
    obtain ⟨g1, g2, g3, g4, g5⟩ := hg
    generalize costM l st pd paid = y at *
    obtain ⟨c, e⟩ := y
    dsimp only at hc
    subst hc
    simp only [mp_lit] at *
    clear hx hne hh
    go_enter Try.func29, Try.ntmps29
    go_wp2_with (first | (go_at_call 54; refine (units_t _ (by omega) (by omega)).mono ?_; rintro e w' ⟨rfl, rfl⟩) | (go_at_call 54; refine (units_f _ (by omega)).mono ?_; rintro e w' ⟨rfl, rfl⟩))
    rw [← HW.out]
    refine Hc.out.mono ?_
    rintro e' w1 ⟨rfl, hb1⟩
    have hz1 := hb1.size
    rw [Hz.out] at hz1
    have g0 := (hb1.block w.heap.size (by rw [Hz.out]; omega)).trans Hb.out.1
    have g1 := (hb1.block (w.heap.size + 1) (by rw [Hz.out]; omega)).trans Hb.out.2
    have k0 : w1.cell? ⟨w.heap.size, 0, none⟩ = some (Value.int .i64 a) := cell_of_row w1 _ 0 _ _ _ g0
    have n0 : w1.cell? ⟨w.heap.size + 1, 0, none⟩ = some (Value.int .i64 0) := cell_of_row w1 _ 0 _ _ _ g1
    have f0 : w1.frozen? ⟨w.heap.size, 0, none⟩ = false := by simp [World.frozen?, g0]
    have e0 : w1.frozen? ⟨w.heap.size + 1, 0, none⟩ = false := by simp [World.frozen?, g1]
    have k1 : w1.cell? ⟨w.heap.size, 1, none⟩ = some (Value.int .i64 s) := cell_of_row w1 _ 1 _ _ _ g0
    have n1 : w1.cell? ⟨w.heap.size + 1, 1, none⟩ = some (Value.int .i64 0) := cell_of_row w1 _ 1 _ _ _ g1
    have f1 : w1.frozen? ⟨w.heap.size, 1, none⟩ = false := by simp [World.frozen?, g0]
    have e1 : w1.frozen? ⟨w.heap.size + 1, 1, none⟩ = false := by simp [World.frozen?, g1]
    have k2 : w1.cell? ⟨w.heap.size, 2, none⟩ = some (Value.int .i64 kd) := cell_of_row w1 _ 2 _ _ _ g0
    have n2 : w1.cell? ⟨w.heap.size + 1, 2, none⟩ = some (Value.int .i64 0) := cell_of_row w1 _ 2 _ _ _ g1
    have f2 : w1.frozen? ⟨w.heap.size, 2, none⟩ = false := by simp [World.frozen?, g0]
    have e2 : w1.frozen? ⟨w.heap.size + 1, 2, none⟩ = false := by simp [World.frozen?, g1]
    have k3 : w1.cell? ⟨w.heap.size, 3, none⟩ = some (Value.string z) := cell_of_row w1 _ 3 _ _ _ g0
    have n3 : w1.cell? ⟨w.heap.size + 1, 3, none⟩ = some (Value.string ⟨#[]⟩) := cell_of_row w1 _ 3 _ _ _ g1
    have f3 : w1.frozen? ⟨w.heap.size, 3, none⟩ = false := by simp [World.frozen?, g0]
    have e3 : w1.frozen? ⟨w.heap.size + 1, 3, none⟩ = false := by simp [World.frozen?, g1]
    have k4 : w1.cell? ⟨w.heap.size, 4, none⟩ = some (Value.string pl) := cell_of_row w1 _ 4 _ _ _ g0
    have n4 : w1.cell? ⟨w.heap.size + 1, 4, none⟩ = some (Value.string ⟨#[]⟩) := cell_of_row w1 _ 4 _ _ _ g1
    have f4 : w1.frozen? ⟨w.heap.size, 4, none⟩ = false := by simp [World.frozen?, g0]
    have e4 : w1.frozen? ⟨w.heap.size + 1, 4, none⟩ = false := by simp [World.frozen?, g1]
    have k5 : w1.cell? ⟨w.heap.size, 5, none⟩ = some (Value.int .i64 vr) := cell_of_row w1 _ 5 _ _ _ g0
    have n5 : w1.cell? ⟨w.heap.size + 1, 5, none⟩ = some (Value.int .i64 0) := cell_of_row w1 _ 5 _ _ _ g1
    have f5 : w1.frozen? ⟨w.heap.size, 5, none⟩ = false := by simp [World.frozen?, g0]
    have e5 : w1.frozen? ⟨w.heap.size + 1, 5, none⟩ = false := by simp [World.frozen?, g1]
    have k6 : w1.cell? ⟨w.heap.size, 6, none⟩ = some (Value.int .i64 rk) := cell_of_row w1 _ 6 _ _ _ g0
    have n6 : w1.cell? ⟨w.heap.size + 1, 6, none⟩ = some (Value.int .i64 0) := cell_of_row w1 _ 6 _ _ _ g1
    have f6 : w1.frozen? ⟨w.heap.size, 6, none⟩ = false := by simp [World.frozen?, g0]
    have e6 : w1.frozen? ⟨w.heap.size + 1, 6, none⟩ = false := by simp [World.frozen?, g1]
    have k7 : w1.cell? ⟨w.heap.size, 7, none⟩ = some (Value.string rz) := cell_of_row w1 _ 7 _ _ _ g0
    have n7 : w1.cell? ⟨w.heap.size + 1, 7, none⟩ = some (Value.string ⟨#[]⟩) := cell_of_row w1 _ 7 _ _ _ g1
    have f7 : w1.frozen? ⟨w.heap.size, 7, none⟩ = false := by simp [World.frozen?, g0]
    have e7 : w1.frozen? ⟨w.heap.size + 1, 7, none⟩ = false := by simp [World.frozen?, g1]
    have k8 : w1.cell? ⟨w.heap.size, 8, none⟩ = some (Value.string rb) := cell_of_row w1 _ 8 _ _ _ g0
    have n8 : w1.cell? ⟨w.heap.size + 1, 8, none⟩ = some (Value.string ⟨#[]⟩) := cell_of_row w1 _ 8 _ _ _ g1
    have f8 : w1.frozen? ⟨w.heap.size, 8, none⟩ = false := by simp [World.frozen?, g0]
    have e8 : w1.frozen? ⟨w.heap.size + 1, 8, none⟩ = false := by simp [World.frozen?, g1]
    have k9 : w1.cell? ⟨w.heap.size, 9, none⟩ = some (Value.int .i64 st) := cell_of_row w1 _ 9 _ _ _ g0
    have n9 : w1.cell? ⟨w.heap.size + 1, 9, none⟩ = some (Value.int .i64 0) := cell_of_row w1 _ 9 _ _ _ g1
    have f9 : w1.frozen? ⟨w.heap.size, 9, none⟩ = false := by simp [World.frozen?, g0]
    have e9 : w1.frozen? ⟨w.heap.size + 1, 9, none⟩ = false := by simp [World.frozen?, g1]
    have k10 : w1.cell? ⟨w.heap.size, 10, none⟩ = some (Value.slice av l.length cap) := cell_of_row w1 _ 10 _ _ _ g0
    have n10 : w1.cell? ⟨w.heap.size + 1, 10, none⟩ = some (Value.slice none 0 0) := cell_of_row w1 _ 10 _ _ _ g1
    have f10 : w1.frozen? ⟨w.heap.size, 10, none⟩ = false := by simp [World.frozen?, g0]
    have e10 : w1.frozen? ⟨w.heap.size + 1, 10, none⟩ = false := by simp [World.frozen?, g1]
    have k11 : w1.cell? ⟨w.heap.size, 11, none⟩ = some (Value.int .i64 fr) := cell_of_row w1 _ 11 _ _ _ g0
    have n11 : w1.cell? ⟨w.heap.size + 1, 11, none⟩ = some (Value.int .i64 0) := cell_of_row w1 _ 11 _ _ _ g1
    have f11 : w1.frozen? ⟨w.heap.size, 11, none⟩ = false := by simp [World.frozen?, g0]
    have e11 : w1.frozen? ⟨w.heap.size + 1, 11, none⟩ = false := by simp [World.frozen?, g1]
    have k12 : w1.cell? ⟨w.heap.size, 12, none⟩ = some (Value.int .i64 pd) := cell_of_row w1 _ 12 _ _ _ g0
    have n12 : w1.cell? ⟨w.heap.size + 1, 12, none⟩ = some (Value.int .i64 0) := cell_of_row w1 _ 12 _ _ _ g1
    have f12 : w1.frozen? ⟨w.heap.size, 12, none⟩ = false := by simp [World.frozen?, g0]
    have e12 : w1.frozen? ⟨w.heap.size + 1, 12, none⟩ = false := by simp [World.frozen?, g1]
    clear g0 g1
    go_wp2
    refine bodyPost_ret (v := .tuple #[.agg #[.int .i64 0, .int .i64 0, .int .i64 0, .string ⟨#[]⟩, .string ⟨#[]⟩, .int .i64 0, .int .i64 0, .string ⟨#[]⟩, .string ⟨#[]⟩, .int .i64 0, .slice none 0 0, .int .i64 0, .int .i64 0], .int .i64 0, .int .i64 e]) (by simp [results, Try.results29, go_sem, n0, n1, n2, n3, n4, n5, n6, n7, n8, n9, n10, n11, n12]) rfl ⟨rfl, ?_⟩
    have hb := hw0.trans (hb1.mono hw0.size)
    go_grown
  · have hx6 : x = 6 := by rw [← hx, chargeE, if_pos hg]
    subst hx6
    have hcase : (free < 0 ∨ 1099511627776 < free) ∨ (0 ≤ free ∧ free ≤ 1099511627776 ∧ (fr < 0 ∨ 1099511627776 < fr)) ∨ (0 ≤ free ∧ free ≤ 1099511627776 ∧ 0 ≤ fr ∧ fr ≤ 1099511627776 ∧ 1099511627776 < free + fr) := by omega
    clear hg hx hne hh
    rcases hcase with hg | hg | hg
    all_goals
      go_enter Try.func29, Try.ntmps29
      go_wp2_with (first | (go_at_call 54; refine (units_t _ (by omega) (by omega)).mono ?_; rintro e w' ⟨rfl, rfl⟩) | (go_at_call 54; refine (units_f _ (by omega)).mono ?_; rintro e w' ⟨rfl, rfl⟩))
      refine bodyPost_ret (v := .tuple #[.agg #[.int .i64 0, .int .i64 0, .int .i64 0, .string ⟨#[]⟩, .string ⟨#[]⟩, .int .i64 0, .int .i64 0, .string ⟨#[]⟩, .string ⟨#[]⟩, .int .i64 0, .slice none 0 0, .int .i64 0, .int .i64 0], .int .i64 0, .int .i64 6]) (by simp [results, Try.results29, go_sem]) rfl ⟨rfl, ?_⟩
      go_grown
end Go.Proofs.Ytkipebdhagccbaa
