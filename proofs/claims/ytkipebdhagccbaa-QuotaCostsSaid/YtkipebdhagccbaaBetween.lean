/-
  The walks of ladder.Price, ladder.Between, ladder.Marginal and of the reference's Between and Marginal.
-/
import Derived.Test.YtkipebdhagccbaaRefPrice
namespace Go.Proofs.Ytkipebdhagccbaa
open Go.RowKit

theorem errB {l : List St} (hok : errL l ≠ 0) : (errL l != 0) = true := by rw [bne_iff_ne]; exact hok

set_option maxHeartbeats 400000 in
theorem price_pub (v : Value) (l : List St) (n : Int) (w : World) (h : StepsAt w v l) :
    Calls Try.prog 16 #[v, .int .i64 n] w fun e w' => e = .returned (priceTup (priceL l n)) ∧ Below w.heap.size w w' := by
  have hc0 := steps_calls _ l w h
  by_cases hok : errL l = 0
  · rw [hok] at hc0
    have Hc := Lib.hid hc0
    have hT := tot_nonneg hok n
    by_cases hn : n < 0 ∨ 1099511627776 < n
    · have HP := Lib.hid (show priceL l n = (0, 6) by rw [priceL, if_neg (not_not_intro hok), if_pos hn])
      clear hok hc0 hT
      obtain ⟨av, cap, rfl, hm, hc⟩ := h
      clear hc hm
      have hcase : n < 0 ∨ (0 ≤ n ∧ 1099511627776 < n) := by omega
      clear hn
      rcases hcase with hn | hn
      all_goals
        go_enter Try.func16, Try.ntmps16
        go_wp2_with fail
        refine Hc.out.mono ?_
        rintro e w1 ⟨rfl, hb1⟩
        go_wp2
        go_ret2
        exact ⟨tup_eq HP.out, hb1⟩
    · have hn0 : 0 ≤ n := by omega
      have hn1 : n ≤ 1099511627776 := by omega
      have Hp := Lib.hid (fun w1 (hb1 : Below w.heap.size w w1) => price_calls v l n w1 (h.below hb1) hok hn0 hn1)
      by_cases hm : 1125899906842624 < tot l n
      · have HP := Lib.hid (show priceL l n = (0, 6) by rw [priceL, if_neg (not_not_intro hok), if_neg hn, if_pos hm])
        have HV := Lib.hid (show priceV (tot l n) = .tuple #[.int .i64 0, .bool false] by unfold priceV; rw [if_pos hm, decide_eq_false (by omega)])
        clear hok hc0 hT hm hn
        obtain ⟨av, cap, rfl, hm, hc⟩ := h
        clear hc hm
        go_enter Try.func16, Try.ntmps16
        go_wp2_with fail
        refine Hc.out.mono ?_
        rintro e w1 ⟨rfl, hb1⟩
        go_wp2_with fail
        refine (Hp.out _ hb1).mono ?_
        rintro e w2 ⟨rfl, hb2⟩
        simp only [HV.out]
        have hb3 := hb1.trans (hb2.mono hb1.size)
        go_wp2
        go_ret2
        exact ⟨tup_eq HP.out, hb3⟩
      · have HP := Lib.hid (show priceL l n = (tot l n, 0) by rw [priceL, if_neg (not_not_intro hok), if_neg hn, if_neg hm])
        have HV := Lib.hid (show priceV (tot l n) = .tuple #[.int .i64 (tot l n), .bool true] by unfold priceV; rw [if_neg hm, decide_eq_true hm])
        clear hok hc0 hT hm hn
        obtain ⟨av, cap, rfl, hm, hc⟩ := h
        clear hc hm
        go_enter Try.func16, Try.ntmps16
        go_wp2_with fail
        refine Hc.out.mono ?_
        rintro e w1 ⟨rfl, hb1⟩
        go_wp2_with fail
        refine (Hp.out _ hb1).mono ?_
        rintro e w2 ⟨rfl, hb2⟩
        simp only [HV.out]
        have hb3 := hb1.trans (hb2.mono hb1.size)
        go_wp2
        go_ret2
        exact ⟨tup_eq HP.out, hb3⟩
  · have Hc := Lib.hid hc0
    have HP := Lib.hid (show priceL l n = (0, 8) by rw [priceL, if_pos hok])
    have hb := errB hok
    clear hok hc0
    obtain ⟨av, cap, rfl, hm, hc⟩ := h
    clear hc hm
    go_enter Try.func16, Try.ntmps16
    go_wp2_with fail
    refine Hc.out.mono ?_
    rintro e w1 ⟨rfl, hb1⟩
    go_wp2
    go_ret2
    exact ⟨tup_eq HP.out, hb1⟩

set_option maxHeartbeats 800000 in
theorem between_pub (v : Value) (l : List St) (f n : Int) (w : World) (h : StepsAt w v l) (hn63 : -9223372036854775808 ≤ n) (hn64 : n ≤ 9223372036854775807) :
    Calls Try.prog 18 #[v, .int .i64 f, .int .i64 n] w fun e w' => e = .returned (priceTup (betweenL l f n)) ∧ Below w.heap.size w w' := by
  have hc0 := steps_calls _ l w h
  by_cases hok : errL l = 0
  · rw [hok] at hc0
    have Hc := Lib.hid hc0
    have hT := tot_nonneg hok (f + n)
    by_cases hn : f < 0 ∨ n < 0 ∨ 1099511627776 < f ∨ 1099511627776 - f < n
    · have HP := Lib.hid (show betweenL l f n = (0, 6) by rw [betweenL, if_neg (not_not_intro hok), if_pos hn])
      clear hok hc0 hT
      obtain ⟨av, cap, rfl, hm, hc⟩ := h
      clear hc hm
      have hcase : (f < 0) ∨ (0 ≤ f ∧ n < 0) ∨ (0 ≤ f ∧ 0 ≤ n ∧ 1099511627776 < f) ∨ (0 ≤ f ∧ 0 ≤ n ∧ f ≤ 1099511627776 ∧ 1099511627776 - f < n) := by omega
      clear hn
      rcases hcase with hn | hn | hn | hn
      all_goals
        go_enter Try.func18, Try.ntmps18
        go_wp2_with fail
        refine Hc.out.mono ?_
        rintro e w1 ⟨rfl, hb1⟩
        go_wp2
        go_ret2
        exact ⟨tup_eq HP.out, hb1⟩
    · have hf0 : 0 ≤ f := by omega
      have hn0 : 0 ≤ n := by omega
      have hf1 : f ≤ 1099511627776 := by omega
      have hn1 : n ≤ 1099511627776 - f := by omega
      have hT2 := tot_mono hok (n := f) (m := f + n) (by omega)
      have hT3 := tot_nonneg hok f
      have Hp := Lib.hid (fun w1 (hb1 : Below w.heap.size w w1) => price_calls v l (f + n) w1 (h.below hb1) hok (by omega) (by omega))
      have Hq := Lib.hid (fun w1 (hb1 : Below w.heap.size w w1) => price_calls v l f w1 (h.below hb1) hok (by omega) (by omega))
      by_cases hm : 1125899906842624 < tot l (f + n)
      · have HP := Lib.hid (show betweenL l f n = (0, 6) by rw [betweenL, if_neg (not_not_intro hok), if_neg hn, if_pos hm])
        have HV := Lib.hid (show priceV (tot l (f + n)) = .tuple #[.int .i64 0, .bool false] by unfold priceV; rw [if_pos hm, decide_eq_false (by omega)])
        clear hok hc0 hT hm hn hT2 hT3
        obtain ⟨av, cap, rfl, hm, hc⟩ := h
        clear hc hm
        go_enter Try.func18, Try.ntmps18
        go_wp2_with fail
        refine Hc.out.mono ?_
        rintro e w1 ⟨rfl, hb1⟩
        go_wp2_with fail
        refine (Hp.out _ hb1).mono ?_
        rintro e w2 ⟨rfl, hb2⟩
        simp only [HV.out]
        have hb3 := hb1.trans (hb2.mono hb1.size)
        go_wp2
        go_ret2
        exact ⟨tup_eq HP.out, hb3⟩
      · have HP := Lib.hid (show betweenL l f n = (tot l (f + n) - tot l f, 0) by rw [betweenL, if_neg (not_not_intro hok), if_neg hn, if_neg hm])
        have HV := Lib.hid (show priceV (tot l (f + n)) = .tuple #[.int .i64 (tot l (f + n)), .bool true] by unfold priceV; rw [if_neg hm, decide_eq_true hm])
        have HV2 := Lib.hid (show priceV (tot l f) = .tuple #[.int .i64 (tot l f), .bool true] by unfold priceV; rw [if_neg (by omega), decide_eq_true (by omega)])
        clear hok hc0 hn
        obtain ⟨av, cap, rfl, hm2, hc⟩ := h
        clear hc hm2
        generalize tot l (f + n) = T at *
        generalize tot l f = T2 at *
        go_enter Try.func18, Try.ntmps18
        go_wp2_with fail
        refine Hc.out.mono ?_
        rintro e w1 ⟨rfl, hb1⟩
        go_wp2_with fail
        refine (Hp.out _ hb1).mono ?_
        rintro e w2 ⟨rfl, hb2⟩
        simp only [HV.out]
        have hb3 := hb1.trans (hb2.mono hb1.size)
        go_wp2_with fail
        refine (Hq.out _ hb3).mono ?_
        rintro e w4 ⟨rfl, hb4⟩
        simp only [HV2.out]
        have hb5 := hb3.trans (hb4.mono hb3.size)
        go_wp2
        go_ret2
        exact ⟨tup_eq HP.out, hb5⟩
  · have Hc := Lib.hid hc0
    have HP := Lib.hid (show betweenL l f n = (0, 8) by rw [betweenL, if_pos hok])
    have hb := errB hok
    clear hok hc0
    obtain ⟨av, cap, rfl, hm, hc⟩ := h
    clear hc hm
    go_enter Try.func18, Try.ntmps18
    go_wp2_with fail
    refine Hc.out.mono ?_
    rintro e w1 ⟨rfl, hb1⟩
    go_wp2
    go_ret2
    exact ⟨tup_eq HP.out, hb1⟩

set_option maxHeartbeats 800000 in
theorem rbetween_pub (v : Value) (l : List St) (f n : Int) (w : World) (h : StepsAt w v l) (hn63 : -9223372036854775808 ≤ n) (hn64 : n ≤ 9223372036854775807) :
    Calls Try.prog 19 #[v, .int .i64 f, .int .i64 n] w fun e w' => e = .returned (priceTup (betweenL l f n)) ∧ Below w.heap.size w w' := by
  have hc0 := rsteps_calls _ l w h
  by_cases hok : errL l = 0
  · rw [hok] at hc0
    have Hc := Lib.hid hc0
    have hT := tot_nonneg hok (f + n)
    by_cases hn : f < 0 ∨ n < 0 ∨ 1099511627776 < f ∨ 1099511627776 - f < n
    · have HP := Lib.hid (show betweenL l f n = (0, 6) by rw [betweenL, if_neg (not_not_intro hok), if_pos hn])
      clear hok hc0 hT
      obtain ⟨av, cap, rfl, hm, hc⟩ := h
      clear hc hm
      have hcase : (f < 0) ∨ (0 ≤ f ∧ 1099511627776 < f) ∨ (0 ≤ f ∧ f ≤ 1099511627776 ∧ n < 0) ∨ (0 ≤ f ∧ f ≤ 1099511627776 ∧ 0 ≤ n ∧ 1099511627776 - f < n) := by omega
      clear hn
      rcases hcase with hn | hn | hn | hn
      all_goals
        go_enter Try.func19, Try.ntmps19
        go_wp2_with fail
        refine Hc.out.mono ?_
        rintro e w1 ⟨rfl, hb1⟩
        go_wp2
        go_ret2
        exact ⟨tup_eq HP.out, hb1⟩
    · have hf0 : 0 ≤ f := by omega
      have hn0 : 0 ≤ n := by omega
      have hf1 : f ≤ 1099511627776 := by omega
      have hn1 : n ≤ 1099511627776 - f := by omega
      have hT2 := tot_mono hok (n := f) (m := f + n) (by omega)
      have hT3 := tot_nonneg hok f
      have Hp := Lib.hid (fun w1 (hb1 : Below w.heap.size w w1) => rprice_calls v l (f + n) w1 (h.below hb1))
      have Hq := Lib.hid (fun w1 (hb1 : Below w.heap.size w w1) => rprice_calls v l f w1 (h.below hb1))
      by_cases hm : 1125899906842624 < tot l (f + n)
      · have HP := Lib.hid (show betweenL l f n = (0, 6) by rw [betweenL, if_neg (not_not_intro hok), if_neg hn, if_pos hm])
        have HV := Lib.hid (show priceTup (priceL l (f + n)) = .tuple #[.int .i64 0, .int .i64 6] by rw [priceL, if_neg (not_not_intro hok), if_neg (by omega), if_pos hm]; rfl)
        clear hok hc0 hT hm hn hT2 hT3
        obtain ⟨av, cap, rfl, hm, hc⟩ := h
        clear hc hm
        go_enter Try.func19, Try.ntmps19
        go_wp2_with fail
        refine Hc.out.mono ?_
        rintro e w1 ⟨rfl, hb1⟩
        go_wp2_with fail
        refine (Hp.out _ hb1).mono ?_
        rintro e w2 ⟨rfl, hb2⟩
        simp only [HV.out]
        have hb3 := hb1.trans (hb2.mono hb1.size)
        go_wp2
        go_ret2
        exact ⟨tup_eq HP.out, hb3⟩
      · have HP := Lib.hid (show betweenL l f n = (tot l (f + n) - tot l f, 0) by rw [betweenL, if_neg (not_not_intro hok), if_neg hn, if_neg hm])
        have HV := Lib.hid (show priceTup (priceL l (f + n)) = .tuple #[.int .i64 (tot l (f + n)), .int .i64 0] by rw [priceL, if_neg (not_not_intro hok), if_neg (by omega), if_neg hm]; rfl)
        have HV2 := Lib.hid (show priceTup (priceL l f) = .tuple #[.int .i64 (tot l f), .int .i64 0] by rw [priceL, if_neg (not_not_intro hok), if_neg (by omega), if_neg (by omega)]; rfl)
        clear hok hc0 hn
        obtain ⟨av, cap, rfl, hm2, hc⟩ := h
        clear hc hm2
        generalize tot l (f + n) = T at *
        generalize tot l f = T2 at *
        go_enter Try.func19, Try.ntmps19
        go_wp2_with fail
        refine Hc.out.mono ?_
        rintro e w1 ⟨rfl, hb1⟩
        go_wp2_with fail
        refine (Hp.out _ hb1).mono ?_
        rintro e w2 ⟨rfl, hb2⟩
        simp only [HV.out]
        have hb3 := hb1.trans (hb2.mono hb1.size)
        go_wp2_with fail
        refine (Hq.out _ hb3).mono ?_
        rintro e w4 ⟨rfl, hb4⟩
        simp only [HV2.out]
        have hb5 := hb3.trans (hb4.mono hb3.size)
        go_wp2
        go_ret2
        exact ⟨tup_eq HP.out, hb5⟩
  · have Hc := Lib.hid hc0
    have HP := Lib.hid (show betweenL l f n = (0, 8) by rw [betweenL, if_pos hok])
    have hb := errB hok
    clear hok hc0
    obtain ⟨av, cap, rfl, hm, hc⟩ := h
    clear hc hm
    go_enter Try.func19, Try.ntmps19
    go_wp2_with fail
    refine Hc.out.mono ?_
    rintro e w1 ⟨rfl, hb1⟩
    go_wp2
    go_ret2
    exact ⟨tup_eq HP.out, hb1⟩
end Go.Proofs.Ytkipebdhagccbaa
