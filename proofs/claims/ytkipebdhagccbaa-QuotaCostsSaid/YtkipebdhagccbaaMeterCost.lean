/-
  What further units of a meter cost: the walks of cost and of the reference's Cost.
-/
import Derived.Test.YtkipebdhagccbaaMeter
namespace Go.Proofs.Ytkipebdhagccbaa
open Go.RowKit

theorem mp_lit (x : Int × Int) : priceTup x = .tuple #[.int .i64 x.1, .int .i64 x.2] := rfl

set_option maxHeartbeats 1600000 in
theorem qcost_calls (l : List St) (a s kd : Int) (z pl : ByteArray) (vr rk : Int) (rz rb : ByteArray) (st : Int) (sv : Value) (fr pd : Int) (n : Int) (w : World) (h : StepsAt w sv l) (hn0 : -9223372036854775808 ≤ n) (hn1 : n ≤ 9223372036854775807) :
    Calls Try.prog 53 #[.agg #[.int .i64 a, .int .i64 s, .int .i64 kd, .string z, .string pl, .int .i64 vr, .int .i64 rk, .string rz, .string rb, .int .i64 st, sv, .int .i64 fr, .int .i64 pd], .int .i64 n] w fun e w' => e = .returned (priceTup (costM l st pd n)) ∧ Below w.heap.size w w' := by
  have hh := h
  obtain ⟨av, cap, rfl, hm, hc⟩ := h
  clear hm hc
  obtain ⟨W, hW⟩ : ∃ W, W = w.alloc (Obj.cells #[Value.int .i64 a, Value.int .i64 s, Value.int .i64 kd, Value.string z, Value.string pl, Value.int .i64 vr, Value.int .i64 rk, Value.string rz, Value.string rb, Value.int .i64 st, Value.slice av l.length cap, Value.int .i64 fr, Value.int .i64 pd] 79) := ⟨_, rfl⟩
  have hw0 : Below w.heap.size w W := by rw [hW]; go_grown
  have m0 : W.cell? ⟨w.heap.size, 0, none⟩ = some (Value.int .i64 a) := by rw [hW]; simp [go_sem]
  have m1 : W.cell? ⟨w.heap.size, 1, none⟩ = some (Value.int .i64 s) := by rw [hW]; simp [go_sem]
  have m2 : W.cell? ⟨w.heap.size, 2, none⟩ = some (Value.int .i64 kd) := by rw [hW]; simp [go_sem]
  have m3 : W.cell? ⟨w.heap.size, 3, none⟩ = some (Value.string z) := by rw [hW]; simp [go_sem]
  have m4 : W.cell? ⟨w.heap.size, 4, none⟩ = some (Value.string pl) := by rw [hW]; simp [go_sem]
  have m5 : W.cell? ⟨w.heap.size, 5, none⟩ = some (Value.int .i64 vr) := by rw [hW]; simp [go_sem]
  have m6 : W.cell? ⟨w.heap.size, 6, none⟩ = some (Value.int .i64 rk) := by rw [hW]; simp [go_sem]
  have m7 : W.cell? ⟨w.heap.size, 7, none⟩ = some (Value.string rz) := by rw [hW]; simp [go_sem]
  have m8 : W.cell? ⟨w.heap.size, 8, none⟩ = some (Value.string rb) := by rw [hW]; simp [go_sem]
  have m9 : W.cell? ⟨w.heap.size, 9, none⟩ = some (Value.int .i64 st) := by rw [hW]; simp [go_sem]
  have m10 : W.cell? ⟨w.heap.size, 10, none⟩ = some (Value.slice av l.length cap) := by rw [hW]; simp [go_sem]
  have m11 : W.cell? ⟨w.heap.size, 11, none⟩ = some (Value.int .i64 fr) := by rw [hW]; simp [go_sem]
  have m12 : W.cell? ⟨w.heap.size, 12, none⟩ = some (Value.int .i64 pd) := by rw [hW]; simp [go_sem]
  have hlt : w.heap.size < W.heap.size := by rw [hW]; simp
  have HW := Lib.hid hW
  clear hW
  by_cases hg : 0 ≤ n ∧ n ≤ 1099511627776 ∧ 0 ≤ pd ∧ pd ≤ 1099511627776 ∧ pd + n ≤ 1099511627776 ∧ 0 ≤ st ∧ st ≤ 1125899906842624
  · have hp0 : costM l st pd n = if (mpriceL l st (pd + n)).2 ≠ 0 then (0, (mpriceL l st (pd + n)).2) else if (mpriceL l st pd).2 ≠ 0 then (0, (mpriceL l st pd).2) else ((mpriceL l st (pd + n)).1 - (mpriceL l st pd).1, 0) := by
      rw [costM, if_neg (not_not_intro hg)]
    obtain ⟨g1, g2, g3, g4, g5, g6, g7⟩ := hg
    have bd1 := mpriceL_bd (l := l) (p := pd + n) g6
    have bd2 := mpriceL_bd (l := l) (p := pd) g6
    have Hc := Lib.hid (fun (w1 : World) (hb : Below W.heap.size W w1) => later hb (qprice_calls l a s kd z pl vr rk rz rb st (.slice av l.length cap) fr pd (pd + n) w1 ((hh.below hw0).below hb) g6 g7) rfl)
    have Hd := Lib.hid (fun (w1 : World) (hb : Below W.heap.size W w1) => later hb (qprice_calls l a s kd z pl vr rk rz rb st (.slice av l.length cap) fr pd pd w1 ((hh.below hw0).below hb) g6 g7) rfl)
    clear hh
    have hn2 : ¬ n < 0 := by omega
    generalize mpriceL l st (pd + n) = x at *
    obtain ⟨c, e⟩ := x
    generalize mpriceL l st pd = x at *
    obtain ⟨d, f⟩ := x
    dsimp only at *
    simp only [mp_lit] at *
    by_cases he : e = 0
    · subst he
      rw [if_neg (by simp)] at hp0
      by_cases hf : f = 0
      · subst hf
        rw [if_neg (by simp)] at hp0
        have HP := Lib.hid hp0
        clear hp0
        go_enter Try.func53, Try.ntmps53
        go_wp2_with fail
        rw [← HW.out]
        go_wp2_with (first | (go_at_call 56; refine (qwithin_t _ (by omega) (by omega)).mono ?_; rintro e w' ⟨rfl, rfl⟩) | (go_at_call 56; refine (qwithin_f _ (by omega)).mono ?_; rintro e w' ⟨rfl, rfl⟩))
        refine (Hc.out _ (Below.refl _ _)).mono ?_
        rintro e' w1 ⟨rfl, hb1⟩
        have k0 := (hb1.cell (p := ⟨w.heap.size, 0, none⟩) hlt).trans m0
        have k1 := (hb1.cell (p := ⟨w.heap.size, 1, none⟩) hlt).trans m1
        have k2 := (hb1.cell (p := ⟨w.heap.size, 2, none⟩) hlt).trans m2
        have k3 := (hb1.cell (p := ⟨w.heap.size, 3, none⟩) hlt).trans m3
        have k4 := (hb1.cell (p := ⟨w.heap.size, 4, none⟩) hlt).trans m4
        have k5 := (hb1.cell (p := ⟨w.heap.size, 5, none⟩) hlt).trans m5
        have k6 := (hb1.cell (p := ⟨w.heap.size, 6, none⟩) hlt).trans m6
        have k7 := (hb1.cell (p := ⟨w.heap.size, 7, none⟩) hlt).trans m7
        have k8 := (hb1.cell (p := ⟨w.heap.size, 8, none⟩) hlt).trans m8
        have k9 := (hb1.cell (p := ⟨w.heap.size, 9, none⟩) hlt).trans m9
        have k10 := (hb1.cell (p := ⟨w.heap.size, 10, none⟩) hlt).trans m10
        have k11 := (hb1.cell (p := ⟨w.heap.size, 11, none⟩) hlt).trans m11
        have k12 := (hb1.cell (p := ⟨w.heap.size, 12, none⟩) hlt).trans m12
        go_wp2_with fail
        refine (Hd.out _ hb1).mono ?_
        rintro e' w2 ⟨rfl, hb2⟩
        go_wp2
        go_ret2
        exact ⟨tup_eq HP.out, hw0.trans (hb2.mono hw0.size)⟩
      · rw [if_pos hf] at hp0
        have HP := Lib.hid hp0
        have hf2 : (f != 0) = true := by rw [bne_iff_ne]; exact hf
        clear hp0 hf
        go_enter Try.func53, Try.ntmps53
        go_wp2_with fail
        rw [← HW.out]
        go_wp2_with (first | (go_at_call 56; refine (qwithin_t _ (by omega) (by omega)).mono ?_; rintro e w' ⟨rfl, rfl⟩) | (go_at_call 56; refine (qwithin_f _ (by omega)).mono ?_; rintro e w' ⟨rfl, rfl⟩))
        refine (Hc.out _ (Below.refl _ _)).mono ?_
        rintro e' w1 ⟨rfl, hb1⟩
        have k0 := (hb1.cell (p := ⟨w.heap.size, 0, none⟩) hlt).trans m0
        have k1 := (hb1.cell (p := ⟨w.heap.size, 1, none⟩) hlt).trans m1
        have k2 := (hb1.cell (p := ⟨w.heap.size, 2, none⟩) hlt).trans m2
        have k3 := (hb1.cell (p := ⟨w.heap.size, 3, none⟩) hlt).trans m3
        have k4 := (hb1.cell (p := ⟨w.heap.size, 4, none⟩) hlt).trans m4
        have k5 := (hb1.cell (p := ⟨w.heap.size, 5, none⟩) hlt).trans m5
        have k6 := (hb1.cell (p := ⟨w.heap.size, 6, none⟩) hlt).trans m6
        have k7 := (hb1.cell (p := ⟨w.heap.size, 7, none⟩) hlt).trans m7
        have k8 := (hb1.cell (p := ⟨w.heap.size, 8, none⟩) hlt).trans m8
        have k9 := (hb1.cell (p := ⟨w.heap.size, 9, none⟩) hlt).trans m9
        have k10 := (hb1.cell (p := ⟨w.heap.size, 10, none⟩) hlt).trans m10
        have k11 := (hb1.cell (p := ⟨w.heap.size, 11, none⟩) hlt).trans m11
        have k12 := (hb1.cell (p := ⟨w.heap.size, 12, none⟩) hlt).trans m12
        go_wp2_with fail
        refine (Hd.out _ hb1).mono ?_
        rintro e' w2 ⟨rfl, hb2⟩
        go_wp2
        go_ret2
        exact ⟨tup_eq HP.out, hw0.trans (hb2.mono hw0.size)⟩
    · rw [if_pos he] at hp0
      have HP := Lib.hid hp0
      have he2 : (e != 0) = true := by rw [bne_iff_ne]; exact he
      clear hp0 he
      go_enter Try.func53, Try.ntmps53
      go_wp2_with fail
      rw [← HW.out]
      go_wp2_with (first | (go_at_call 56; refine (qwithin_t _ (by omega) (by omega)).mono ?_; rintro e w' ⟨rfl, rfl⟩) | (go_at_call 56; refine (qwithin_f _ (by omega)).mono ?_; rintro e w' ⟨rfl, rfl⟩))
      refine (Hc.out _ (Below.refl _ _)).mono ?_
      rintro e' w1 ⟨rfl, hb1⟩
      have k0 := (hb1.cell (p := ⟨w.heap.size, 0, none⟩) hlt).trans m0
      have k1 := (hb1.cell (p := ⟨w.heap.size, 1, none⟩) hlt).trans m1
      have k2 := (hb1.cell (p := ⟨w.heap.size, 2, none⟩) hlt).trans m2
      have k3 := (hb1.cell (p := ⟨w.heap.size, 3, none⟩) hlt).trans m3
      have k4 := (hb1.cell (p := ⟨w.heap.size, 4, none⟩) hlt).trans m4
      have k5 := (hb1.cell (p := ⟨w.heap.size, 5, none⟩) hlt).trans m5
      have k6 := (hb1.cell (p := ⟨w.heap.size, 6, none⟩) hlt).trans m6
      have k7 := (hb1.cell (p := ⟨w.heap.size, 7, none⟩) hlt).trans m7
      have k8 := (hb1.cell (p := ⟨w.heap.size, 8, none⟩) hlt).trans m8
      have k9 := (hb1.cell (p := ⟨w.heap.size, 9, none⟩) hlt).trans m9
      have k10 := (hb1.cell (p := ⟨w.heap.size, 10, none⟩) hlt).trans m10
      have k11 := (hb1.cell (p := ⟨w.heap.size, 11, none⟩) hlt).trans m11
      have k12 := (hb1.cell (p := ⟨w.heap.size, 12, none⟩) hlt).trans m12
      go_wp2
      go_ret2
      exact ⟨tup_eq HP.out, hw0.trans (hb1.mono hw0.size)⟩
  · have HP := Lib.hid (show costM l st pd n = (0, 6) by rw [costM, if_pos hg])
    clear hh
    have hcase : (n < 0 ∨ 1099511627776 < n) ∨ (0 ≤ n ∧ n ≤ 1099511627776 ∧ (pd < 0 ∨ 1099511627776 < pd)) ∨ (0 ≤ n ∧ n ≤ 1099511627776 ∧ 0 ≤ pd ∧ pd ≤ 1099511627776 ∧ 1099511627776 < pd + n) ∨ (0 ≤ n ∧ n ≤ 1099511627776 ∧ 0 ≤ pd ∧ pd ≤ 1099511627776 ∧ pd + n ≤ 1099511627776 ∧ st < 0) ∨ (0 ≤ n ∧ n ≤ 1099511627776 ∧ 0 ≤ pd ∧ pd ≤ 1099511627776 ∧ pd + n ≤ 1099511627776 ∧ 0 ≤ st ∧ 1125899906842624 < st) := by omega
    clear hg
    rcases hcase with hg | hg | hg | hg | hg
    all_goals
      go_enter Try.func53, Try.ntmps53
      go_wp2_with fail
      rw [← HW.out]
      go_wp2_with (first | (go_at_call 56; refine (qwithin_t _ (by omega) (by omega)).mono ?_; rintro e w' ⟨rfl, rfl⟩) | (go_at_call 56; refine (qwithin_f _ (by omega)).mono ?_; rintro e w' ⟨rfl, rfl⟩))
      go_ret2
      exact ⟨tup_eq HP.out, hw0⟩

set_option maxHeartbeats 1600000 in
theorem rqcost_calls (l : List St) (a s kd : Int) (z pl : ByteArray) (vr rk : Int) (rz rb : ByteArray) (st : Int) (sv : Value) (fr pd : Int) (n : Int) (w : World) (h : StepsAt w sv l) (hn0 : -9223372036854775808 ≤ n) (hn1 : n ≤ 9223372036854775807) :
    Calls Try.prog 27 #[.agg #[.int .i64 a, .int .i64 s, .int .i64 kd, .string z, .string pl, .int .i64 vr, .int .i64 rk, .string rz, .string rb, .int .i64 st, sv, .int .i64 fr, .int .i64 pd], .int .i64 n] w fun e w' => e = .returned (priceTup (costM l st pd n)) ∧ Below w.heap.size w w' := by
  have hh := h
  obtain ⟨av, cap, rfl, hm, hc⟩ := h
  clear hm hc
  obtain ⟨W, hW⟩ : ∃ W, W = w.alloc (Obj.cells #[Value.int .i64 a, Value.int .i64 s, Value.int .i64 kd, Value.string z, Value.string pl, Value.int .i64 vr, Value.int .i64 rk, Value.string rz, Value.string rb, Value.int .i64 st, Value.slice av l.length cap, Value.int .i64 fr, Value.int .i64 pd] 43) := ⟨_, rfl⟩
  have hw0 : Below w.heap.size w W := by rw [hW]; go_grown
  have m0 : W.cell? ⟨w.heap.size, 0, none⟩ = some (Value.int .i64 a) := by rw [hW]; simp [go_sem]
  have m1 : W.cell? ⟨w.heap.size, 1, none⟩ = some (Value.int .i64 s) := by rw [hW]; simp [go_sem]
  have m2 : W.cell? ⟨w.heap.size, 2, none⟩ = some (Value.int .i64 kd) := by rw [hW]; simp [go_sem]
  have m3 : W.cell? ⟨w.heap.size, 3, none⟩ = some (Value.string z) := by rw [hW]; simp [go_sem]
  have m4 : W.cell? ⟨w.heap.size, 4, none⟩ = some (Value.string pl) := by rw [hW]; simp [go_sem]
  have m5 : W.cell? ⟨w.heap.size, 5, none⟩ = some (Value.int .i64 vr) := by rw [hW]; simp [go_sem]
  have m6 : W.cell? ⟨w.heap.size, 6, none⟩ = some (Value.int .i64 rk) := by rw [hW]; simp [go_sem]
  have m7 : W.cell? ⟨w.heap.size, 7, none⟩ = some (Value.string rz) := by rw [hW]; simp [go_sem]
  have m8 : W.cell? ⟨w.heap.size, 8, none⟩ = some (Value.string rb) := by rw [hW]; simp [go_sem]
  have m9 : W.cell? ⟨w.heap.size, 9, none⟩ = some (Value.int .i64 st) := by rw [hW]; simp [go_sem]
  have m10 : W.cell? ⟨w.heap.size, 10, none⟩ = some (Value.slice av l.length cap) := by rw [hW]; simp [go_sem]
  have m11 : W.cell? ⟨w.heap.size, 11, none⟩ = some (Value.int .i64 fr) := by rw [hW]; simp [go_sem]
  have m12 : W.cell? ⟨w.heap.size, 12, none⟩ = some (Value.int .i64 pd) := by rw [hW]; simp [go_sem]
  have hlt : w.heap.size < W.heap.size := by rw [hW]; simp
  have HW := Lib.hid hW
  clear hW
  by_cases hg : 0 ≤ n ∧ n ≤ 1099511627776 ∧ 0 ≤ pd ∧ pd ≤ 1099511627776 ∧ pd + n ≤ 1099511627776 ∧ 0 ≤ st ∧ st ≤ 1125899906842624
  · have hp0 : costM l st pd n = if (mpriceL l st (pd + n)).2 ≠ 0 then (0, (mpriceL l st (pd + n)).2) else if (mpriceL l st pd).2 ≠ 0 then (0, (mpriceL l st pd).2) else ((mpriceL l st (pd + n)).1 - (mpriceL l st pd).1, 0) := by
      rw [costM, if_neg (not_not_intro hg)]
    obtain ⟨g1, g2, g3, g4, g5, g6, g7⟩ := hg
    have bd1 := mpriceL_bd (l := l) (p := pd + n) g6
    have bd2 := mpriceL_bd (l := l) (p := pd) g6
    have Hc := Lib.hid (fun (w1 : World) (hb : Below W.heap.size W w1) => later hb (rqprice_calls l a s kd z pl vr rk rz rb st (.slice av l.length cap) fr pd (pd + n) w1 ((hh.below hw0).below hb) g6 g7) rfl)
    have Hd := Lib.hid (fun (w1 : World) (hb : Below W.heap.size W w1) => later hb (rqprice_calls l a s kd z pl vr rk rz rb st (.slice av l.length cap) fr pd pd w1 ((hh.below hw0).below hb) g6 g7) rfl)
    clear hh
    have hn2 : ¬ n < 0 := by omega
    generalize mpriceL l st (pd + n) = x at *
    obtain ⟨c, e⟩ := x
    generalize mpriceL l st pd = x at *
    obtain ⟨d, f⟩ := x
    dsimp only at *
    simp only [mp_lit] at *
    by_cases he : e = 0
    · subst he
      rw [if_neg (by simp)] at hp0
      by_cases hf : f = 0
      · subst hf
        rw [if_neg (by simp)] at hp0
        have HP := Lib.hid hp0
        clear hp0
        go_enter Try.func27, Try.ntmps27
        go_wp2_with fail
        rw [← HW.out]
        go_wp2_with (first | (go_at_call 54; refine (units_t _ (by omega) (by omega)).mono ?_; rintro e w' ⟨rfl, rfl⟩) | (go_at_call 54; refine (units_f _ (by omega)).mono ?_; rintro e w' ⟨rfl, rfl⟩))
        refine (Hc.out _ (Below.refl _ _)).mono ?_
        rintro e' w1 ⟨rfl, hb1⟩
        have k0 := (hb1.cell (p := ⟨w.heap.size, 0, none⟩) hlt).trans m0
        have k1 := (hb1.cell (p := ⟨w.heap.size, 1, none⟩) hlt).trans m1
        have k2 := (hb1.cell (p := ⟨w.heap.size, 2, none⟩) hlt).trans m2
        have k3 := (hb1.cell (p := ⟨w.heap.size, 3, none⟩) hlt).trans m3
        have k4 := (hb1.cell (p := ⟨w.heap.size, 4, none⟩) hlt).trans m4
        have k5 := (hb1.cell (p := ⟨w.heap.size, 5, none⟩) hlt).trans m5
        have k6 := (hb1.cell (p := ⟨w.heap.size, 6, none⟩) hlt).trans m6
        have k7 := (hb1.cell (p := ⟨w.heap.size, 7, none⟩) hlt).trans m7
        have k8 := (hb1.cell (p := ⟨w.heap.size, 8, none⟩) hlt).trans m8
        have k9 := (hb1.cell (p := ⟨w.heap.size, 9, none⟩) hlt).trans m9
        have k10 := (hb1.cell (p := ⟨w.heap.size, 10, none⟩) hlt).trans m10
        have k11 := (hb1.cell (p := ⟨w.heap.size, 11, none⟩) hlt).trans m11
        have k12 := (hb1.cell (p := ⟨w.heap.size, 12, none⟩) hlt).trans m12
        go_wp2_with fail
        refine (Hd.out _ hb1).mono ?_
        rintro e' w2 ⟨rfl, hb2⟩
        go_wp2
        go_ret2
        exact ⟨tup_eq HP.out, hw0.trans (hb2.mono hw0.size)⟩
      · rw [if_pos hf] at hp0
        have HP := Lib.hid hp0
        have hf2 : (f != 0) = true := by rw [bne_iff_ne]; exact hf
        clear hp0 hf
        go_enter Try.func27, Try.ntmps27
        go_wp2_with fail
        rw [← HW.out]
        go_wp2_with (first | (go_at_call 54; refine (units_t _ (by omega) (by omega)).mono ?_; rintro e w' ⟨rfl, rfl⟩) | (go_at_call 54; refine (units_f _ (by omega)).mono ?_; rintro e w' ⟨rfl, rfl⟩))
        refine (Hc.out _ (Below.refl _ _)).mono ?_
        rintro e' w1 ⟨rfl, hb1⟩
        have k0 := (hb1.cell (p := ⟨w.heap.size, 0, none⟩) hlt).trans m0
        have k1 := (hb1.cell (p := ⟨w.heap.size, 1, none⟩) hlt).trans m1
        have k2 := (hb1.cell (p := ⟨w.heap.size, 2, none⟩) hlt).trans m2
        have k3 := (hb1.cell (p := ⟨w.heap.size, 3, none⟩) hlt).trans m3
        have k4 := (hb1.cell (p := ⟨w.heap.size, 4, none⟩) hlt).trans m4
        have k5 := (hb1.cell (p := ⟨w.heap.size, 5, none⟩) hlt).trans m5
        have k6 := (hb1.cell (p := ⟨w.heap.size, 6, none⟩) hlt).trans m6
        have k7 := (hb1.cell (p := ⟨w.heap.size, 7, none⟩) hlt).trans m7
        have k8 := (hb1.cell (p := ⟨w.heap.size, 8, none⟩) hlt).trans m8
        have k9 := (hb1.cell (p := ⟨w.heap.size, 9, none⟩) hlt).trans m9
        have k10 := (hb1.cell (p := ⟨w.heap.size, 10, none⟩) hlt).trans m10
        have k11 := (hb1.cell (p := ⟨w.heap.size, 11, none⟩) hlt).trans m11
        have k12 := (hb1.cell (p := ⟨w.heap.size, 12, none⟩) hlt).trans m12
        go_wp2_with fail
        refine (Hd.out _ hb1).mono ?_
        rintro e' w2 ⟨rfl, hb2⟩
        go_wp2
        go_ret2
        exact ⟨tup_eq HP.out, hw0.trans (hb2.mono hw0.size)⟩
    · rw [if_pos he] at hp0
      have HP := Lib.hid hp0
      have he2 : (e != 0) = true := by rw [bne_iff_ne]; exact he
      clear hp0 he
      go_enter Try.func27, Try.ntmps27
      go_wp2_with fail
      rw [← HW.out]
      go_wp2_with (first | (go_at_call 54; refine (units_t _ (by omega) (by omega)).mono ?_; rintro e w' ⟨rfl, rfl⟩) | (go_at_call 54; refine (units_f _ (by omega)).mono ?_; rintro e w' ⟨rfl, rfl⟩))
      refine (Hc.out _ (Below.refl _ _)).mono ?_
      rintro e' w1 ⟨rfl, hb1⟩
      have k0 := (hb1.cell (p := ⟨w.heap.size, 0, none⟩) hlt).trans m0
      have k1 := (hb1.cell (p := ⟨w.heap.size, 1, none⟩) hlt).trans m1
      have k2 := (hb1.cell (p := ⟨w.heap.size, 2, none⟩) hlt).trans m2
      have k3 := (hb1.cell (p := ⟨w.heap.size, 3, none⟩) hlt).trans m3
      have k4 := (hb1.cell (p := ⟨w.heap.size, 4, none⟩) hlt).trans m4
      have k5 := (hb1.cell (p := ⟨w.heap.size, 5, none⟩) hlt).trans m5
      have k6 := (hb1.cell (p := ⟨w.heap.size, 6, none⟩) hlt).trans m6
      have k7 := (hb1.cell (p := ⟨w.heap.size, 7, none⟩) hlt).trans m7
      have k8 := (hb1.cell (p := ⟨w.heap.size, 8, none⟩) hlt).trans m8
      have k9 := (hb1.cell (p := ⟨w.heap.size, 9, none⟩) hlt).trans m9
      have k10 := (hb1.cell (p := ⟨w.heap.size, 10, none⟩) hlt).trans m10
      have k11 := (hb1.cell (p := ⟨w.heap.size, 11, none⟩) hlt).trans m11
      have k12 := (hb1.cell (p := ⟨w.heap.size, 12, none⟩) hlt).trans m12
      go_wp2
      go_ret2
      exact ⟨tup_eq HP.out, hw0.trans (hb1.mono hw0.size)⟩
  · have HP := Lib.hid (show costM l st pd n = (0, 6) by rw [costM, if_pos hg])
    clear hh
    have hcase : (n < 0 ∨ 1099511627776 < n) ∨ (0 ≤ n ∧ n ≤ 1099511627776 ∧ (pd < 0 ∨ 1099511627776 < pd)) ∨ (0 ≤ n ∧ n ≤ 1099511627776 ∧ 0 ≤ pd ∧ pd ≤ 1099511627776 ∧ 1099511627776 < pd + n) ∨ (0 ≤ n ∧ n ≤ 1099511627776 ∧ 0 ≤ pd ∧ pd ≤ 1099511627776 ∧ pd + n ≤ 1099511627776 ∧ st < 0) ∨ (0 ≤ n ∧ n ≤ 1099511627776 ∧ 0 ≤ pd ∧ pd ≤ 1099511627776 ∧ pd + n ≤ 1099511627776 ∧ 0 ≤ st ∧ 1125899906842624 < st) := by omega
    clear hg
    rcases hcase with hg | hg | hg | hg | hg
    all_goals
      go_enter Try.func27, Try.ntmps27
      go_wp2_with fail
      rw [← HW.out]
      go_wp2_with (first | (go_at_call 54; refine (units_t _ (by omega) (by omega)).mono ?_; rintro e w' ⟨rfl, rfl⟩) | (go_at_call 54; refine (units_f _ (by omega)).mono ?_; rintro e w' ⟨rfl, rfl⟩))
      go_ret2
      exact ⟨tup_eq HP.out, hw0⟩
end Go.Proofs.Ytkipebdhagccbaa
