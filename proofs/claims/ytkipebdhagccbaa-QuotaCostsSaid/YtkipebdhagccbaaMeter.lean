/-
  Meters: what further units cost, by the program and by the reference.
-/
import Derived.Test.YtkipebdhagccbaaAwake29
namespace Go.Proofs.Ytkipebdhagccbaa
open Go.RowKit

/-- The price of p paid units. -/
def mpriceL (l : List St) (st p : Int) : Int × Int :=
  if (priceL l p).2 ≠ 0 then (0, (priceL l p).2) else if p = 0 then (0, 0) else if 1125899906842624 < st + (priceL l p).1 then (0, 6) else (st + (priceL l p).1, 0)

/-- The price of n further units. -/
def costM (l : List St) (st pd n : Int) : Int × Int :=
  if ¬ (0 ≤ n ∧ n ≤ 1099511627776 ∧ 0 ≤ pd ∧ pd ≤ 1099511627776 ∧ pd + n ≤ 1099511627776 ∧ 0 ≤ st ∧ st ≤ 1125899906842624) then (0, 6)
  else if (mpriceL l st (pd + n)).2 ≠ 0 then (0, (mpriceL l st (pd + n)).2)
  else if (mpriceL l st pd).2 ≠ 0 then (0, (mpriceL l st pd).2)
  else ((mpriceL l st (pd + n)).1 - (mpriceL l st pd).1, 0)

theorem priceL_bd (l : List St) (n : Int) : 0 ≤ (priceL l n).1 ∧ (priceL l n).1 ≤ 1125899906842624 := by
  unfold priceL
  split
  · dsimp only; omega
  · rename_i h
    have := tot_nonneg (Decidable.not_not.1 h) n
    split
    · dsimp only; omega
    · split
      · dsimp only; omega
      · dsimp only; omega

theorem mpriceL_bd {l : List St} {st p : Int} (h0 : 0 ≤ st) : 0 ≤ (mpriceL l st p).1 ∧ (mpriceL l st p).1 ≤ 1125899906842624 := by
  have := priceL_bd l p
  unfold mpriceL
  split
  · dsimp only; omega
  · split
    · dsimp only; omega
    · split
      · dsimp only; omega
      · dsimp only; omega

set_option maxHeartbeats 400000 in
theorem qwithin_calls (n h : Int) (w : World) : Calls Try.prog 56 #[.int .i64 n, .int .i64 h] w fun e w' => e = .returned (.bool (decide (0 ≤ n ∧ n ≤ h))) ∧ w = w' := by
  by_cases h0 : 0 ≤ n
  · go_enter Try.func56, Try.ntmps56
    go_wp2
    go_ret
    exact ⟨ret_bool (by simp [h0]), rfl⟩
  · go_enter Try.func56, Try.ntmps56
    go_wp2
    go_ret
    exact ⟨ret_bool (by simp; omega), rfl⟩

set_option maxHeartbeats 400000 in
theorem units_ok_calls (n : Int) (w : World) : Calls Try.prog 54 #[.int .i64 n] w fun e w' => e = .returned (.bool (decide (0 ≤ n ∧ n ≤ 1099511627776))) ∧ w = w' := by
  by_cases h0 : 0 ≤ n
  · go_enter Try.func54, Try.ntmps54
    go_wp2
    go_ret
    exact ⟨ret_bool (by simp [h0]), rfl⟩
  · go_enter Try.func54, Try.ntmps54
    go_wp2
    go_ret
    exact ⟨ret_bool (by simp; omega), rfl⟩

set_option maxHeartbeats 800000 in
theorem qprice_calls (l : List St) (a s kd : Int) (z pl : ByteArray) (vr rk : Int) (rz rb : ByteArray) (st : Int) (sv : Value) (fr pd : Int) (p : Int) (w : World) (h : StepsAt w sv l) (h0 : 0 ≤ st) (h1 : st ≤ 1125899906842624) :
    Calls Try.prog 66 #[.agg #[.int .i64 a, .int .i64 s, .int .i64 kd, .string z, .string pl, .int .i64 vr, .int .i64 rk, .string rz, .string rb, .int .i64 st, sv, .int .i64 fr, .int .i64 pd], .int .i64 p] w fun e w' => e = .returned (priceTup (mpriceL l st p)) ∧ Below w.heap.size w w' := by
  have bd := priceL_bd l p
  have hh := h
  obtain ⟨av, cap, rfl, hm, hc⟩ := h
  clear hm hc
  obtain ⟨W, hW⟩ : ∃ W, W = w.alloc (Obj.cells #[Value.int .i64 a, Value.int .i64 s, Value.int .i64 kd, Value.string z, Value.string pl, Value.int .i64 vr, Value.int .i64 rk, Value.string rz, Value.string rb, Value.int .i64 st, Value.slice av l.length cap, Value.int .i64 fr, Value.int .i64 pd] 79) := ⟨_, rfl⟩
  have hw0 : Below w.heap.size w W := by rw [hW]; go_grown
  have m9 : W.cell? ⟨w.heap.size, 9, none⟩ = some (Value.int .i64 st) := by rw [hW]; simp [go_sem]
  have hlt : w.heap.size < W.heap.size := by rw [hW]; simp
  have HW := Lib.hid hW
  clear hW
  have Hc := Lib.hid (price_pub _ l p W (hh.below hw0))
  clear hh
  by_cases he : (priceL l p).2 = 0
  · by_cases hp : p = 0
    · have HP := Lib.hid (show mpriceL l st p = (0, 0) by rw [mpriceL, if_neg (not_not_intro he), if_pos hp])
      subst hp
      generalize priceL l 0 = x at *
      obtain ⟨c, e⟩ := x
      dsimp only at he
      subst he
      simp only [priceTup_eq] at *
      go_enter Try.func66, Try.ntmps66
      go_wp2_with fail
      rw [← HW.out]
      refine Hc.out.mono ?_
      rintro e' w1 ⟨rfl, hb1⟩
      have k9 := (hb1.cell (p := ⟨w.heap.size, 9, none⟩) hlt).trans m9
      go_wp2
      go_ret2
      exact ⟨tup_eq HP.out, hw0.trans (hb1.mono hw0.size)⟩
    · have hp2 : (p == 0) = false := beq_eq_false_iff_ne.2 hp
      by_cases hm : 1125899906842624 < st + (priceL l p).1
      · have HP := Lib.hid (show mpriceL l st p = (0, 6) by rw [mpriceL, if_neg (not_not_intro he), if_neg hp, if_pos hm])
        clear hp
        generalize priceL l p = x at *
        obtain ⟨c, e⟩ := x
        dsimp only at he bd hm
        subst he
        simp only [priceTup_eq] at *
        go_enter Try.func66, Try.ntmps66
        go_wp2_with fail
        rw [← HW.out]
        refine Hc.out.mono ?_
        rintro e' w1 ⟨rfl, hb1⟩
        have k9 := (hb1.cell (p := ⟨w.heap.size, 9, none⟩) hlt).trans m9
        go_wp2
        go_ret2
        exact ⟨tup_eq HP.out, hw0.trans (hb1.mono hw0.size)⟩
      · have HP := Lib.hid (show mpriceL l st p = (st + (priceL l p).1, 0) by rw [mpriceL, if_neg (not_not_intro he), if_neg hp, if_neg hm])
        clear hp
        generalize priceL l p = x at *
        obtain ⟨c, e⟩ := x
        dsimp only at he bd hm HP
        subst he
        simp only [priceTup_eq] at *
        go_enter Try.func66, Try.ntmps66
        go_wp2_with fail
        rw [← HW.out]
        refine Hc.out.mono ?_
        rintro e' w1 ⟨rfl, hb1⟩
        have k9 := (hb1.cell (p := ⟨w.heap.size, 9, none⟩) hlt).trans m9
        go_wp2
        go_ret2
        exact ⟨tup_eq HP.out, hw0.trans (hb1.mono hw0.size)⟩
  · have HP := Lib.hid (show mpriceL l st p = (0, (priceL l p).2) by rw [mpriceL, if_pos he])
    generalize priceL l p = x at *
    obtain ⟨c, e⟩ := x
    dsimp only at he HP
    have he2 : (e != 0) = true := by rw [bne_iff_ne]; exact he
    clear he
    simp only [priceTup_eq] at *
    go_enter Try.func66, Try.ntmps66
    go_wp2_with fail
    rw [← HW.out]
    refine Hc.out.mono ?_
    rintro e' w1 ⟨rfl, hb1⟩
    have k9 := (hb1.cell (p := ⟨w.heap.size, 9, none⟩) hlt).trans m9
    go_wp2
    go_ret2
    exact ⟨tup_eq HP.out, hw0.trans (hb1.mono hw0.size)⟩

set_option maxHeartbeats 800000 in
theorem rqprice_calls (l : List St) (a s kd : Int) (z pl : ByteArray) (vr rk : Int) (rz rb : ByteArray) (st : Int) (sv : Value) (fr pd : Int) (p : Int) (w : World) (h : StepsAt w sv l) (h0 : 0 ≤ st) (h1 : st ≤ 1125899906842624) :
    Calls Try.prog 55 #[.agg #[.int .i64 a, .int .i64 s, .int .i64 kd, .string z, .string pl, .int .i64 vr, .int .i64 rk, .string rz, .string rb, .int .i64 st, sv, .int .i64 fr, .int .i64 pd], .int .i64 p] w fun e w' => e = .returned (priceTup (mpriceL l st p)) ∧ Below w.heap.size w w' := by
  have bd := priceL_bd l p
  have hh := h
  obtain ⟨av, cap, rfl, hm, hc⟩ := h
  clear hm hc
  obtain ⟨W, hW⟩ : ∃ W, W = w.alloc (Obj.cells #[Value.int .i64 a, Value.int .i64 s, Value.int .i64 kd, Value.string z, Value.string pl, Value.int .i64 vr, Value.int .i64 rk, Value.string rz, Value.string rb, Value.int .i64 st, Value.slice av l.length cap, Value.int .i64 fr, Value.int .i64 pd] 43) := ⟨_, rfl⟩
  have hw0 : Below w.heap.size w W := by rw [hW]; go_grown
  have m9 : W.cell? ⟨w.heap.size, 9, none⟩ = some (Value.int .i64 st) := by rw [hW]; simp [go_sem]
  have hlt : w.heap.size < W.heap.size := by rw [hW]; simp
  have HW := Lib.hid hW
  clear hW
  have Hc := Lib.hid (rprice_calls _ l p W (hh.below hw0))
  clear hh
  by_cases he : (priceL l p).2 = 0
  · by_cases hp : p = 0
    · have HP := Lib.hid (show mpriceL l st p = (0, 0) by rw [mpriceL, if_neg (not_not_intro he), if_pos hp])
      subst hp
      generalize priceL l 0 = x at *
      obtain ⟨c, e⟩ := x
      dsimp only at he
      subst he
      simp only [priceTup_eq] at *
      go_enter Try.func55, Try.ntmps55
      go_wp2_with fail
      rw [← HW.out]
      refine Hc.out.mono ?_
      rintro e' w1 ⟨rfl, hb1⟩
      have k9 := (hb1.cell (p := ⟨w.heap.size, 9, none⟩) hlt).trans m9
      go_wp2
      go_ret2
      exact ⟨tup_eq HP.out, hw0.trans (hb1.mono hw0.size)⟩
    · have hp2 : (p == 0) = false := beq_eq_false_iff_ne.2 hp
      by_cases hm : 1125899906842624 < st + (priceL l p).1
      · have HP := Lib.hid (show mpriceL l st p = (0, 6) by rw [mpriceL, if_neg (not_not_intro he), if_neg hp, if_pos hm])
        clear hp
        generalize priceL l p = x at *
        obtain ⟨c, e⟩ := x
        dsimp only at he bd hm
        subst he
        simp only [priceTup_eq] at *
        go_enter Try.func55, Try.ntmps55
        go_wp2_with fail
        rw [← HW.out]
        refine Hc.out.mono ?_
        rintro e' w1 ⟨rfl, hb1⟩
        have k9 := (hb1.cell (p := ⟨w.heap.size, 9, none⟩) hlt).trans m9
        go_wp2
        go_ret2
        exact ⟨tup_eq HP.out, hw0.trans (hb1.mono hw0.size)⟩
      · have HP := Lib.hid (show mpriceL l st p = (st + (priceL l p).1, 0) by rw [mpriceL, if_neg (not_not_intro he), if_neg hp, if_neg hm])
        clear hp
        generalize priceL l p = x at *
        obtain ⟨c, e⟩ := x
        dsimp only at he bd hm HP
        subst he
        simp only [priceTup_eq] at *
        go_enter Try.func55, Try.ntmps55
        go_wp2_with fail
        rw [← HW.out]
        refine Hc.out.mono ?_
        rintro e' w1 ⟨rfl, hb1⟩
        have k9 := (hb1.cell (p := ⟨w.heap.size, 9, none⟩) hlt).trans m9
        go_wp2
        go_ret2
        exact ⟨tup_eq HP.out, hw0.trans (hb1.mono hw0.size)⟩
  · have HP := Lib.hid (show mpriceL l st p = (0, (priceL l p).2) by rw [mpriceL, if_pos he])
    generalize priceL l p = x at *
    obtain ⟨c, e⟩ := x
    dsimp only at he HP
    have he2 : (e != 0) = true := by rw [bne_iff_ne]; exact he
    clear he
    simp only [priceTup_eq] at *
    go_enter Try.func55, Try.ntmps55
    go_wp2_with fail
    rw [← HW.out]
    refine Hc.out.mono ?_
    rintro e' w1 ⟨rfl, hb1⟩
    have k9 := (hb1.cell (p := ⟨w.heap.size, 9, none⟩) hlt).trans m9
    go_wp2
    go_ret2
    exact ⟨tup_eq HP.out, hw0.trans (hb1.mono hw0.size)⟩

theorem qwithin_t {n h : Int} (w : World) (h0 : 0 ≤ n) (h1 : n ≤ h) : Calls Try.prog 56 #[.int .i64 n, .int .i64 h] w fun e w' => e = .returned (.bool true) ∧ w = w' :=
  (qwithin_calls n h w).mono fun _ _ ⟨he, hw⟩ => ⟨he.trans (ret_bool (decide_eq_true ⟨h0, h1⟩)), hw⟩
theorem qwithin_f {n h : Int} (w : World) (h0 : n < 0 ∨ h < n) : Calls Try.prog 56 #[.int .i64 n, .int .i64 h] w fun e w' => e = .returned (.bool false) ∧ w = w' :=
  (qwithin_calls n h w).mono fun _ _ ⟨he, hw⟩ => ⟨he.trans (ret_bool (decide_eq_false (by omega))), hw⟩
theorem units_t {n : Int} (w : World) (h0 : 0 ≤ n) (h1 : n ≤ 1099511627776) : Calls Try.prog 54 #[.int .i64 n] w fun e w' => e = .returned (.bool true) ∧ w = w' :=
  (units_ok_calls n w).mono fun _ _ ⟨he, hw⟩ => ⟨he.trans (ret_bool (decide_eq_true ⟨h0, h1⟩)), hw⟩
theorem units_f {n : Int} (w : World) (h0 : n < 0 ∨ 1099511627776 < n) : Calls Try.prog 54 #[.int .i64 n] w fun e w' => e = .returned (.bool false) ∧ w = w' :=
  (units_ok_calls n w).mono fun _ _ ⟨he, hw⟩ => ⟨he.trans (ret_bool (decide_eq_false (by omega))), hw⟩

theorem costM_bd {l : List St} {st pd n : Int} : -1125899906842624 ≤ (costM l st pd n).1 ∧ (costM l st pd n).1 ≤ 1125899906842624 := by
  unfold costM
  split
  · dsimp only; omega
  · rename_i h
    have h0 : 0 ≤ st := by omega
    have := mpriceL_bd (l := l) (p := pd + n) h0
    have := mpriceL_bd (l := l) (p := pd) h0
    split
    · dsimp only; omega
    · split
      · dsimp only; omega
      · dsimp only; omega
end Go.Proofs.Ytkipebdhagccbaa
