/-
  The walks of the laws LadderPrices, LadderBetween, LadderUnits, LadderInverse.
-/
import Derived.Test.YtkipebdhagccbaaAwake29
namespace Go.Proofs.Ytkipebdhagccbaa
open Go.RowKit

set_option maxHeartbeats 400000 in
theorem law_prices (v : Value) (l : List St) (n : Int) (w : World) (h : StepsAt w v l) :
    Calls Try.prog 3 #[v, .int .i64 n] w fun e w' => e = .returned (.bool true) ∧ Below w.heap.size w w' := by
  have H1 := Lib.hid (price_pub v l n w h)
  have H2 := Lib.hid (fun w1 (hb : Below w.heap.size w w1) => later hb (rprice_calls v l n w1 (h.below hb)) rfl)
  have H3 := Lib.hid (fun w1 (hb : Below w.heap.size w w1) => later hb (awake29_calls w1) rfl)
  obtain ⟨av, cap, rfl, hm, hc⟩ := h
  clear hc
  generalize priceL l n = x at *
  obtain ⟨a, e⟩ := x
  simp only [priceTup_eq] at *
  unfold maxLen at hm
  by_cases h100 : 100 < l.length
  · go_enter Try.func3, Try.ntmps3
    go_wp2_with fail
    refine (H3.out _ (Below.refl _ _)).mono ?_
    rintro e w1 ⟨rfl, hb1⟩
    go_wp2
    go_ret
    exact ⟨rfl, hb1⟩
  · go_enter Try.func3, Try.ntmps3
    go_wp2_with fail
    refine H1.out.mono ?_
    rintro e w1 ⟨rfl, hb1⟩
    go_wp2_with fail
    refine (H2.out _ hb1).mono ?_
    rintro e w2 ⟨rfl, hb2⟩
    go_wp2_with fail
    refine (H3.out _ hb2).mono ?_
    rintro e w3 ⟨rfl, hb3⟩
    go_wp2
    go_ret
    exact ⟨rfl, hb3⟩

set_option maxHeartbeats 400000 in
theorem law_between (v : Value) (l : List St) (f n : Int) (w : World) (h : StepsAt w v l) (hn0 : -9223372036854775808 ≤ n) (hn1 : n ≤ 9223372036854775807) :
    Calls Try.prog 4 #[v, .int .i64 f, .int .i64 n] w fun e w' => e = .returned (.bool true) ∧ Below w.heap.size w w' := by
  have H1 := Lib.hid (between_pub v l f n w h hn0 hn1)
  have H2 := Lib.hid (fun w1 (hb : Below w.heap.size w w1) => later hb (rbetween_pub v l f n w1 (h.below hb) hn0 hn1) rfl)
  have H4 := Lib.hid (fun w1 (hb : Below w.heap.size w w1) => later hb (marginal_calls v l f w1 (h.below hb)) rfl)
  have H5 := Lib.hid (fun w1 (hb : Below w.heap.size w w1) => later hb (rmarginal_calls v l f w1 (h.below hb)) rfl)
  have H3 := Lib.hid (fun w1 (hb : Below w.heap.size w w1) => later hb (awake29_calls w1) rfl)
  obtain ⟨av, cap, rfl, hm, hc⟩ := h
  clear hc hn0 hn1
  generalize (betweenL l f 1).1 = m at *
  generalize betweenL l f n = x at *
  obtain ⟨a, e⟩ := x
  simp only [priceTup_eq] at *
  unfold maxLen at hm
  by_cases h100 : 100 < l.length
  · go_enter Try.func4, Try.ntmps4
    go_wp2_with fail
    refine (H3.out _ (Below.refl _ _)).mono ?_
    rintro e w1 ⟨rfl, hb1⟩
    go_wp2
    go_ret
    exact ⟨rfl, hb1⟩
  · go_enter Try.func4, Try.ntmps4
    go_wp2_with fail
    refine H1.out.mono ?_
    rintro e w1 ⟨rfl, hb1⟩
    go_wp2_with fail
    refine (H2.out _ hb1).mono ?_
    rintro e w2 ⟨rfl, hb2⟩
    go_wp2_with fail
    refine (H4.out _ hb2).mono ?_
    rintro e w3 ⟨rfl, hb3⟩
    go_wp2_with fail
    refine (H5.out _ hb3).mono ?_
    rintro e w4 ⟨rfl, hb4⟩
    go_wp2_with fail
    refine (H3.out _ hb4).mono ?_
    rintro e w5 ⟨rfl, hb5⟩
    go_wp2
    go_ret
    exact ⟨rfl, hb5⟩

set_option maxHeartbeats 400000 in
theorem law_units (v : Value) (l : List St) (f a : Int) (w : World) (h : StepsAt w v l) :
    Calls Try.prog 5 #[v, .int .i64 f, .int .i64 a] w fun e w' => e = .returned (.bool true) ∧ Below w.heap.size w w' := by
  have H1 := Lib.hid (units_calls v l f a w h)
  have H2 := Lib.hid (fun w1 (hb : Below w.heap.size w w1) => later hb (runits_calls v l f a w1 (h.below hb)) rfl)
  have H3 := Lib.hid (fun w1 (hb : Below w.heap.size w w1) => later hb (awake29_calls w1) rfl)
  obtain ⟨av, cap, rfl, hm, hc⟩ := h
  clear hc
  generalize unitsL l f a = x at *
  unfold maxLen at hm
  by_cases h100 : 100 < l.length
  · go_enter Try.func5, Try.ntmps5
    go_wp2_with fail
    refine (H3.out _ (Below.refl _ _)).mono ?_
    rintro e w1 ⟨rfl, hb1⟩
    go_wp2
    go_ret
    exact ⟨rfl, hb1⟩
  · go_enter Try.func5, Try.ntmps5
    go_wp2_with fail
    refine H1.out.mono ?_
    rintro e w1 ⟨rfl, hb1⟩
    go_wp2_with fail
    refine (H2.out _ hb1).mono ?_
    rintro e w2 ⟨rfl, hb2⟩
    go_wp2_with fail
    refine (H3.out _ hb2).mono ?_
    rintro e w3 ⟨rfl, hb3⟩
    go_wp2
    go_ret
    exact ⟨rfl, hb3⟩

theorem inverse_no {l : List St} {f a : Int} (h : (betweenL l f 0).2 ≠ 0 ∨ a < 0) : unitsL l f a = 0 ∧ (betweenL l f 0).1 = 0 := by
  have hz : (betweenL l f 0).1 = 0 := by
    by_cases he : (betweenL l f 0).2 = 0
    · obtain ⟨-, -, -, -, -, -, h7⟩ := betweenL_ok he
      rw [h7, Int.add_zero, Int.sub_self]
    · exact betweenL_err he
  refine ⟨unitsL_no ?_, hz⟩
  unfold paysL
  rw [hz]
  exact decide_eq_false (by omega)

theorem inverse_yes {l : List St} {f a : Int} (h : (betweenL l f 0).2 = 0) (ha : 0 ≤ a) :
    0 ≤ unitsL l f a ∧ unitsL l f a ≤ 1099511627776 ∧ (betweenL l f (unitsL l f a)).2 = 0 ∧ (betweenL l f (unitsL l f a)).1 ≤ a ∧ ((betweenL l f (unitsL l f a + 1)).2 = 0 → a < (betweenL l f (unitsL l f a + 1)).1) := by
  have hp : paysL l f 0 a = true := by
    obtain ⟨-, -, -, -, -, -, h7⟩ := betweenL_ok h
    unfold paysL
    rw [h7, Int.add_zero, Int.sub_self]
    exact decide_eq_true ⟨h, ha⟩
  obtain ⟨g0, g1, g2⟩ := unitsL_spec hp
  have g3 := paysL_ok g1
  unfold paysL at g1 g2
  have g4 := of_decide_eq_true g1
  have g5 := of_decide_eq_false g2
  exact ⟨g0, by omega, g4.1, g4.2, fun he => by omega⟩

set_option maxHeartbeats 400000 in
theorem law_inverse (v : Value) (l : List St) (f a : Int) (w : World) (h : StepsAt w v l) :
    Calls Try.prog 6 #[v, .int .i64 f, .int .i64 a] w fun e w' => e = .returned (.bool true) ∧ Below w.heap.size w w' := by
  have H1 := Lib.hid (units_calls v l f a w h)
  have H2 := Lib.hid (fun n (h0 : 0 ≤ n) (h1 : n ≤ 1099511627777) w1 (hb : Below w.heap.size w w1) => later hb (between_pub v l f n w1 (h.below hb) (by omega) (by omega)) rfl)
  have H3 := Lib.hid (fun w1 (hb : Below w.heap.size w w1) => later hb (awake29_calls w1) rfl)
  obtain ⟨av, cap, rfl, hm, hc⟩ := h
  clear hc
  unfold maxLen at hm
  by_cases h100 : 100 < l.length
  · go_enter Try.func6, Try.ntmps6
    go_wp2_with fail
    refine (H3.out _ (Below.refl _ _)).mono ?_
    rintro e w1 ⟨rfl, hb1⟩
    go_wp2
    go_ret
    exact ⟨rfl, hb1⟩
  · have K2 := Lib.hid (H2.out 0 (by omega) (by omega))
    by_cases he : (betweenL l f 0).2 ≠ 0 ∨ a < 0
    · obtain ⟨hu, hz⟩ := inverse_no he
      generalize unitsL l f a = u at *
      generalize betweenL l f 0 = x at *
      obtain ⟨z, e⟩ := x
      dsimp only at he hz
      subst hu hz
      simp only [priceTup_eq] at *
      have hcase : (e ≠ 0) ∨ (e = 0 ∧ a < 0) := by omega
      clear he H2
      rcases hcase with he | ⟨rfl, ha⟩
      · have he2 : (e != 0) = true := by rw [bne_iff_ne]; exact he
        clear he
        go_enter Try.func6, Try.ntmps6
        go_wp2_with fail
        refine H1.out.mono ?_
        rintro e w1 ⟨rfl, hb1⟩
        go_wp2_with fail
        refine (K2.out _ hb1).mono ?_
        rintro e w2 ⟨rfl, hb2⟩
        go_wp2_with fail
        refine (H3.out _ hb2).mono ?_
        rintro e w3 ⟨rfl, hb3⟩
        go_wp2
        go_ret
        exact ⟨rfl, hb3⟩
      · go_enter Try.func6, Try.ntmps6
        go_wp2_with fail
        refine H1.out.mono ?_
        rintro e w1 ⟨rfl, hb1⟩
        go_wp2_with fail
        refine (K2.out _ hb1).mono ?_
        rintro e w2 ⟨rfl, hb2⟩
        go_wp2_with fail
        refine (H3.out _ hb2).mono ?_
        rintro e w3 ⟨rfl, hb3⟩
        go_wp2
        go_ret
        exact ⟨rfl, hb3⟩
    · have he0 : (betweenL l f 0).2 = 0 := by omega
      have ha : 0 ≤ a := by omega
      obtain ⟨g0, g1, g2, g3, g4⟩ := inverse_yes he0 ha
      have K3 := Lib.hid (H2.out (unitsL l f a) g0 (by omega))
      have K4 := Lib.hid (H2.out (unitsL l f a + 1) (by omega) (by omega))
      clear he H2
      generalize unitsL l f a = u at *
      generalize betweenL l f 0 = x at *
      obtain ⟨z, e⟩ := x
      generalize betweenL l f u = y at *
      obtain ⟨c, e2⟩ := y
      generalize betweenL l f (u + 1) = y at *
      obtain ⟨d, e3⟩ := y
      dsimp only at he0 g2 g3 g4
      subst he0 g2
      simp only [priceTup_eq] at *
      by_cases he3 : e3 = 0
      · have g5 := g4 he3
        subst he3
        clear g4
        go_enter Try.func6, Try.ntmps6
        go_wp2_with fail
        refine H1.out.mono ?_
        rintro e w1 ⟨rfl, hb1⟩
        go_wp2_with fail
        refine (K2.out _ hb1).mono ?_
        rintro e w2 ⟨rfl, hb2⟩
        go_wp2_with fail
        refine (K3.out _ hb2).mono ?_
        rintro e w3 ⟨rfl, hb3⟩
        go_wp2_with fail
        refine (K4.out _ hb3).mono ?_
        rintro e w4 ⟨rfl, hb4⟩
        go_wp2_with fail
        refine (H3.out _ hb4).mono ?_
        rintro e w5 ⟨rfl, hb5⟩
        go_wp2
        go_ret
        exact ⟨rfl, hb5⟩
      · have he4 : (e3 != 0) = true := by rw [bne_iff_ne]; exact he3
        clear g4 he3
        go_enter Try.func6, Try.ntmps6
        go_wp2_with fail
        refine H1.out.mono ?_
        rintro e w1 ⟨rfl, hb1⟩
        go_wp2_with fail
        refine (K2.out _ hb1).mono ?_
        rintro e w2 ⟨rfl, hb2⟩
        go_wp2_with fail
        refine (K3.out _ hb2).mono ?_
        rintro e w3 ⟨rfl, hb3⟩
        go_wp2_with fail
        refine (K4.out _ hb3).mono ?_
        rintro e w4 ⟨rfl, hb4⟩
        go_wp2_with fail
        refine (H3.out _ hb4).mono ?_
        rintro e w5 ⟨rfl, hb5⟩
        go_wp2
        go_ret
        exact ⟨rfl, hb5⟩
end Go.Proofs.Ytkipebdhagccbaa
