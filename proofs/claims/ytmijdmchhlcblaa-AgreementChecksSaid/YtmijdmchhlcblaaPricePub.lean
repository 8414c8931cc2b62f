/-
  The walk of ladder.Price.
-/
import Derived.Test.YtmijdmchhlcblaaRefPrice
namespace Go.Proofs.Ytmijdmchhlcblaa
open Go.RowKit

theorem errB {l : List St} (hok : errL l ≠ 0) : (errL l != 0) = true := by rw [bne_iff_ne]; exact hok

set_option maxHeartbeats 400000 in
theorem price_pub (v : Value) (l : List St) (n : Int) (w : World) (h : StepsAt w v l) :
    Calls Try.prog 14 #[v, .int .i64 n] w fun e w' => e = .returned (priceTup (priceL l n)) ∧ Below w.heap.size w w' := by
  have hc0 := steps_calls _ l w h
  by_cases hok : errL l = 0
  · rw [hok] at hc0
    have Hc := Lib.hid hc0
    have hT := tot_nonneg hok n
    by_cases hn : n < 0 ∨ 1099511627776 < n
    · have HP := Lib.hid (show priceL l n = (0, 6) by rw [priceL, if_neg (not_not_intro hok), if_pos hn])
      clear hok hc0 hT
      obtain ⟨av, cap, rfl, hm, hc⟩ := h
      clear hc hm
      have hcase : n < 0 ∨ (0 ≤ n ∧ 1099511627776 < n) := by omega
      clear hn
      rcases hcase with hn | hn
      all_goals
        go_enter Try.func14, Try.ntmps14
        go_wp2_with fail
        refine Hc.out.mono ?_
        rintro e w1 ⟨rfl, hb1⟩
        go_wp2
        go_ret2
        exact ⟨tup_eq HP.out, hb1⟩
    · have hn0 : 0 ≤ n := by omega
      have hn1 : n ≤ 1099511627776 := by omega
      have Hp := Lib.hid (fun w1 (hb1 : Below w.heap.size w w1) => price_calls v l n w1 (h.below hb1) hok hn0 hn1)
      by_cases hm : 1125899906842624 < tot l n
      · have HP := Lib.hid (show priceL l n = (0, 6) by rw [priceL, if_neg (not_not_intro hok), if_neg hn, if_pos hm])
        have HV := Lib.hid (show priceV (tot l n) = .tuple #[.int .i64 0, .bool false] by unfold priceV; rw [if_pos hm, decide_eq_false (by omega)])
        clear hok hc0 hT hm hn
        obtain ⟨av, cap, rfl, hm, hc⟩ := h
        clear hc hm
        go_enter Try.func14, Try.ntmps14
        go_wp2_with fail
        refine Hc.out.mono ?_
        rintro e w1 ⟨rfl, hb1⟩
        go_wp2_with fail
        refine (Hp.out _ hb1).mono ?_
        rintro e w2 ⟨rfl, hb2⟩
        simp only [HV.out]
        have hb3 := hb1.trans (hb2.mono hb1.size)
        go_wp2
        go_ret2
        exact ⟨tup_eq HP.out, hb3⟩
      · have HP := Lib.hid (show priceL l n = (tot l n, 0) by rw [priceL, if_neg (not_not_intro hok), if_neg hn, if_neg hm])
        have HV := Lib.hid (show priceV (tot l n) = .tuple #[.int .i64 (tot l n), .bool true] by unfold priceV; rw [if_neg hm, decide_eq_true hm])
        clear hok hc0 hT hm hn
        obtain ⟨av, cap, rfl, hm, hc⟩ := h
        clear hc hm
        go_enter Try.func14, Try.ntmps14
        go_wp2_with fail
        refine Hc.out.mono ?_
        rintro e w1 ⟨rfl, hb1⟩
        go_wp2_with fail
        refine (Hp.out _ hb1).mono ?_
        rintro e w2 ⟨rfl, hb2⟩
        simp only [HV.out]
        have hb3 := hb1.trans (hb2.mono hb1.size)
        go_wp2
        go_ret2
        exact ⟨tup_eq HP.out, hb3⟩
  · have Hc := Lib.hid hc0
    have HP := Lib.hid (show priceL l n = (0, 8) by rw [priceL, if_pos hok])
    have hb := errB hok
    clear hok hc0
    obtain ⟨av, cap, rfl, hm, hc⟩ := h
    clear hc hm
    go_enter Try.func14, Try.ntmps14
    go_wp2_with fail
    refine Hc.out.mono ?_
    rintro e w1 ⟨rfl, hb1⟩
    go_wp2
    go_ret2
    exact ⟨tup_eq HP.out, hb1⟩
end Go.Proofs.Ytmijdmchhlcblaa
