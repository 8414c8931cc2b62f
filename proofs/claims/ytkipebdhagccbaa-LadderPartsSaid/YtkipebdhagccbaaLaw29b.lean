/-
  The walks of the laws LadderParts and LadderBlocks.
-/
import Derived.Test.YtkipebdhagccbaaAwake29
namespace Go.Proofs.Ytkipebdhagccbaa
open Go.RowKit

theorem parts_yes {l : List St} {f m n : Int} (h : (betweenL l f (m + n)).2 = 0) (hm : 0 ≤ m) (hn : 0 ≤ n) :
    (betweenL l f m).2 = 0 ∧ (betweenL l (f + m) n).2 = 0 ∧ (betweenL l f m).1 + (betweenL l (f + m) n).1 = (betweenL l f (m + n)).1 := by
  obtain ⟨h1, h2, h3, h4, h5, h6, h7⟩ := betweenL_ok h
  have e : f + m + n = f + (m + n) := by omega
  have t1 := tot_mono h1 (n := f + m) (m := f + (m + n)) (by omega)
  have b1 := betweenL_mk (n := m) h1 h2 hm (by omega) (by omega)
  have b2 := betweenL_mk (f := f + m) (n := n) h1 (by omega) hn (by omega) (by rw [e]; exact h6)
  rw [b1, b2, h7, e]
  exact ⟨rfl, rfl, by dsimp only; omega⟩

set_option maxHeartbeats 800000 in
theorem law_parts (v : Value) (l : List St) (f m n : Int) (w : World) (h : StepsAt w v l) :
    Calls Try.prog 7 #[v, .int .i64 f, .agg #[.int .i64 m, .int .i64 n]] w fun e w' => e = .returned (.bool true) ∧ Below w.heap.size w w' := by
  have hw0 : Below w.heap.size w (w.alloc (Obj.cells #[Value.int IntKind.i64 m, Value.int IntKind.i64 n] 32)) := by go_grown
  obtain ⟨W, hW⟩ : ∃ W, W = w.alloc (Obj.cells #[Value.int IntKind.i64 m, Value.int IntKind.i64 n] 32) := ⟨_, rfl⟩
  have m0 : W.cell? ⟨w.heap.size, 0, none⟩ = some (.int .i64 m) := by rw [hW]; simp [go_sem]
  have m1 : W.cell? ⟨w.heap.size, 1, none⟩ = some (.int .i64 n) := by rw [hW]; simp [go_sem]
  have hlt : w.heap.size < W.heap.size := by rw [hW]; simp
  rw [← hW] at hw0
  have HW := Lib.hid hW
  clear hW
  have H3 := Lib.hid (fun w1 (hb : Below W.heap.size W w1) => later hb (awake29_calls w1) rfl)
  have H2 := Lib.hid (fun f n (h0 : 0 ≤ n) (h1 : n ≤ 2199023255552) w1 (hb : Below W.heap.size W w1) => later hb (between_pub v l f n w1 ((h.below hw0).below hb) (by omega) (by omega)) rfl)
  obtain ⟨av, cap, rfl, hm, hc⟩ := h
  clear hc
  unfold maxLen at hm
  by_cases h100 : 100 < l.length
  · go_enter Try.func7, Try.ntmps7
    go_wp2_with fail
    rw [← HW.out]
    refine (H3.out _ (Below.refl _ _)).mono ?_
    rintro e w1 ⟨rfl, hb1⟩
    go_wp2
    go_ret
    exact ⟨rfl, hw0.trans (hb1.mono hw0.size)⟩
  · by_cases hg : 0 ≤ m ∧ 0 ≤ n ∧ m ≤ 1099511627776 ∧ n ≤ 1099511627776 ∧ 0 ≤ f ∧ f ≤ 1099511627776
    · obtain ⟨g1, g2, g3, g4, g5, g6⟩ := hg
      have K1 := Lib.hid (H2.out f (m + n) (by omega) (by omega))
      have K2 := Lib.hid (H2.out f m (by omega) (by omega))
      have K3 := Lib.hid (H2.out (f + m) n (by omega) (by omega))
      have hy := @parts_yes l f m n
      have hno := @betweenL_err l f (m + n)
      have bd1 := betweenL_bd l f m
      have bd2 := betweenL_bd l (f + m) n
      clear H2
      generalize betweenL l f (m + n) = x at *
      obtain ⟨z, e⟩ := x
      generalize betweenL l f m = y at *
      obtain ⟨c, e2⟩ := y
      generalize betweenL l (f + m) n = y at *
      obtain ⟨d, e3⟩ := y
      dsimp only at hy hno bd1 bd2
      simp only [priceTup_eq] at *
      by_cases he : e = 0
      · obtain ⟨rfl, rfl, rfl⟩ := hy he g1 g2
        subst he
        clear hno hy
        go_enter Try.func7, Try.ntmps7
        go_wp2_with fail
        rw [← HW.out]
        refine (K1.out _ (Below.refl _ _)).mono ?_
        rintro e w1 ⟨rfl, hb1⟩
        have n0 := (hb1.cell (p := ⟨w.heap.size, 0, none⟩) hlt).trans m0
        have n1 := (hb1.cell (p := ⟨w.heap.size, 1, none⟩) hlt).trans m1
        go_wp2_with fail
        refine (K2.out _ hb1).mono ?_
        rintro e w2 ⟨rfl, hb2⟩
        have o0 := (hb2.cell (p := ⟨w.heap.size, 0, none⟩) hlt).trans m0
        have o1 := (hb2.cell (p := ⟨w.heap.size, 1, none⟩) hlt).trans m1
        go_wp2_with fail
        refine (K3.out _ hb2).mono ?_
        rintro e w3 ⟨rfl, hb3⟩
        go_wp2_with fail
        refine (H3.out _ hb3).mono ?_
        rintro e w4 ⟨rfl, hb4⟩
        go_wp2
        go_ret
        exact ⟨rfl, hw0.trans (hb4.mono hw0.size)⟩
      · obtain rfl := hno he
        have he2 : (e != 0) = true := by rw [bne_iff_ne]; exact he
        clear hno hy he
        go_enter Try.func7, Try.ntmps7
        go_wp2_with fail
        rw [← HW.out]
        refine (K1.out _ (Below.refl _ _)).mono ?_
        rintro e w1 ⟨rfl, hb1⟩
        go_wp2_with fail
        refine (H3.out _ hb1).mono ?_
        rintro e w2 ⟨rfl, hb2⟩
        go_wp2
        go_ret
        exact ⟨rfl, hw0.trans (hb2.mono hw0.size)⟩
    · have hcase : m < 0 ∨ (0 ≤ m ∧ n < 0) ∨ (0 ≤ m ∧ 0 ≤ n ∧ 1099511627776 < m) ∨ (0 ≤ m ∧ 0 ≤ n ∧ m ≤ 1099511627776 ∧ 1099511627776 < n) ∨ (0 ≤ m ∧ 0 ≤ n ∧ m ≤ 1099511627776 ∧ n ≤ 1099511627776 ∧ f < 0) ∨ (0 ≤ m ∧ 0 ≤ n ∧ m ≤ 1099511627776 ∧ n ≤ 1099511627776 ∧ 0 ≤ f ∧ 1099511627776 < f) := by omega
      clear hg H2
      rcases hcase with hg | hg | hg | hg | hg | hg
      all_goals
        go_enter Try.func7, Try.ntmps7
        go_wp2_with fail
        rw [← HW.out]
        refine (H3.out _ (Below.refl _ _)).mono ?_
        rintro e w1 ⟨rfl, hb1⟩
        go_wp2
        go_ret
        exact ⟨rfl, hw0.trans (hb1.mono hw0.size)⟩

/-! ### One step -/

def oneL (q p : Int) : List St := [⟨0, q, p⟩]
def twoL (q p : Int) : List St := [⟨q, q, 0⟩, ⟨0, q, p⟩]

theorem oneL_ok {q p : Int} (h1 : 1 ≤ q) (h2 : q ≤ 1000) (h3 : 0 ≤ p) (h4 : p ≤ 65535) : errL (oneL q p) = 0 := by
  have ok : St.ok ⟨0, q, p⟩ := by simp only [St.ok]; omega
  simp [errL, oneL, errF, ok]

theorem twoL_ok {q p : Int} (h1 : 1 ≤ q) (h2 : q ≤ 1000) (h3 : 0 ≤ p) (h4 : p ≤ 65535) : errL (twoL q p) = 0 := by
  have ok : St.ok ⟨0, q, p⟩ := by simp only [St.ok]; omega
  have ok2 : St.ok ⟨q, q, 0⟩ := by simp only [St.ok]; omega
  have hq : ¬ q = 0 := by omega
  have hq2 : ¬ q ≤ 0 := by omega
  simp [errL, twoL, errF, ok, ok2, hq, hq2]

theorem blocks_bd {q n p : Int} (h1 : 1 ≤ q) (h3 : 0 ≤ p) (h4 : p ≤ 65535) (h5 : 0 ≤ n) (h6 : n ≤ 4294967295) : 0 ≤ (n + q - 1) / q ∧ (n + q - 1) / q ≤ 4294967295 ∧ 0 ≤ (n + q - 1) / q * p ∧ (n + q - 1) / q * p ≤ 281470681677825 := by
  have b0 : 0 ≤ (n + q - 1) / q := ceil_nonneg h1 h5
  have b1 : (n + q - 1) / q ≤ 4294967295 := by
    by_cases hn : n = 0
    · subst hn; rw [ceil_zero h1]; omega
    · have := blocks_le (n := n) h1 (by omega); omega
  refine ⟨b0, b1, Int.mul_nonneg b0 h3, ?_⟩
  have : (n + q - 1) / q * p ≤ 4294967295 * p := Int.mul_le_mul_of_nonneg_right b1 h3
  omega

theorem oneL_price {q p n : Int} (h1 : 1 ≤ q) (h2 : q ≤ 1000) (h3 : 0 ≤ p) (h4 : p ≤ 65535) (h5 : 0 ≤ n) (h6 : n ≤ 4294967295) : priceL (oneL q p) n = ((n + q - 1) / q * p, 0) := by
  have b := blocks_bd (n := n) h1 h3 h4 h5 h6
  have t : tot (oneL q p) n = (n + q - 1) / q * p := by
    simp only [tot, oneL, totF, costS, inS]
    rw [if_neg (by simp), show max 0 (n - 0) = n by omega, Int.add_zero]
  rw [priceL, if_neg (not_not_intro (oneL_ok h1 h2 h3 h4)), if_neg (by omega), t, if_neg (by omega)]

theorem more_blocks {q n : Int} (h1 : 1 ≤ q) (h5 : 0 ≤ n) : (max 0 (n - q) + q - 1) / q = max 0 ((n + q - 1) / q - 1) := by
  by_cases hn : q ≤ n
  · have e : n + q - 1 = (n - 1) + q * 1 := by omega
    have h0 : 0 ≤ (n - 1) / q := Int.ediv_nonneg (by omega) (by omega)
    rw [show max 0 (n - q) + q - 1 = n - 1 by omega, e, Int.add_mul_ediv_left _ _ (by omega)]
    omega
  · rw [show max 0 (n - q) + q - 1 = 0 + q - 1 by omega, ceil_zero h1]
    by_cases hz : n = 0
    · subst hz; rw [ceil_zero h1]; omega
    · have e : n + q - 1 = (n - 1) + q * 1 := by omega
      rw [e, Int.add_mul_ediv_left _ _ (by omega), Int.ediv_eq_zero_of_lt (by omega) (by omega)]; omega

theorem twoL_price {q p n : Int} (h1 : 1 ≤ q) (h2 : q ≤ 1000) (h3 : 0 ≤ p) (h4 : p ≤ 65535) (h5 : 0 ≤ n) (h6 : n ≤ 4294967295) : priceL (twoL q p) n = (max 0 ((n + q - 1) / q - 1) * p, 0) ∧ 0 ≤ max 0 ((n + q - 1) / q - 1) * p ∧ max 0 ((n + q - 1) / q - 1) * p ≤ 281470681677825 := by
  have b := blocks_bd (n := n) h1 h3 h4 h5 h6
  have c0 : 0 ≤ max 0 ((n + q - 1) / q - 1) * p := Int.mul_nonneg (by omega) h3
  have c1 : max 0 ((n + q - 1) / q - 1) * p ≤ (n + q - 1) / q * p := Int.mul_le_mul_of_nonneg_right (by omega) h3
  have t : tot (twoL q p) n = max 0 ((n + q - 1) / q - 1) * p := by
    simp only [tot, twoL, totF, costS, inS]
    rw [Int.mul_zero, Int.zero_add, Int.add_zero, if_neg (by simp), more_blocks h1 h5]
  refine ⟨?_, c0, by omega⟩
  rw [priceL, if_neg (not_not_intro (twoL_ok h1 h2 h3 h4)), if_neg (by omega), t, if_neg (by omega)]

theorem steps_one (q p : Int) (w : World) : StepsAt (w.alloc (Obj.cells #[Value.int IntKind.i64 0, Value.int IntKind.i64 q, Value.int IntKind.i64 p] 37)) (.slice (some ⟨w.heap.size, 0, none⟩) 1 1) (oneL q p) := by
  refine ⟨some ⟨w.heap.size, 0, none⟩, 1, rfl, show 1 ≤ maxLen by decide, fun _ => ⟨w.heap.size, 0, rfl, by simp, fun i hi => ?_⟩⟩
  match i, hi with
  | 0, _ => exact ⟨by simp [go_sem, oneL], by simp [go_sem, oneL], by simp [go_sem, oneL]⟩

theorem steps_two (q p : Int) (w : World) : StepsAt (w.alloc (Obj.cells #[Value.int IntKind.i64 q, Value.int IntKind.i64 q, Value.int IntKind.i64 0, Value.int IntKind.i64 0, Value.int IntKind.i64 q, Value.int IntKind.i64 p] 37)) (.slice (some ⟨w.heap.size, 0, none⟩) 2 2) (twoL q p) := by
  refine ⟨some ⟨w.heap.size, 0, none⟩, 2, rfl, show 2 ≤ maxLen by decide, fun _ => ⟨w.heap.size, 0, rfl, by simp, fun i hi => ?_⟩⟩
  match i, hi with
  | 0, _ => exact ⟨by simp [go_sem, twoL], by simp [go_sem, twoL], by simp [go_sem, twoL]⟩
  | 1, _ => exact ⟨by simp [go_sem, twoL], by simp [go_sem, twoL], by simp [go_sem, twoL]⟩

set_option maxHeartbeats 800000 in
theorem law_blocks (x p n : Int) (w : World) (hx0 : 0 ≤ x) (hx1 : x ≤ 65535) (h3 : 0 ≤ p) (h4 : p ≤ 65535) (h5 : 0 ≤ n) (h6 : n ≤ 4294967295) :
    Calls Try.prog 8 #[.int .u16 x, .int .u16 p, .int .u32 n] w fun e w' => e = .returned (.bool true) ∧ Below w.heap.size w w' := by
  have h1 : 1 ≤ 1 + x % 1000 := by omega
  have h2 : 1 + x % 1000 ≤ 1000 := by omega
  have H1 := Lib.hid (fun W => price_pub _ _ n _ (steps_one (1 + x % 1000) p W))
  have H2 := Lib.hid (fun W => price_pub _ _ n _ (steps_two (1 + x % 1000) p W))
  have H3 := Lib.hid (fun w1 (hb : Below w.heap.size w w1) => later hb (awake29_calls w1) rfl)
  have H4 := Lib.hid (fun W w1 (hb : Below (w.alloc W).heap.size (w.alloc W) w1) (h : StepsAt (w.alloc W) (.slice (some ⟨w.heap.size, 0, none⟩) 1 1) (oneL (1 + x % 1000) p)) => steps_calls _ _ w1 (h.below hb))
  have H5 := Lib.hid (steps_one (1 + x % 1000) p w)
  have E0 := Lib.hid (oneL_ok h1 h2 h3 h4)
  have E1 := Lib.hid (oneL_price h1 h2 h3 h4 h5 h6)
  have E2 := Lib.hid (twoL_price h1 h2 h3 h4 h5 h6).1
  obtain ⟨b0, b1, b2, b3⟩ := blocks_bd (n := n) (p := p) h1 h3 h4 h5 h6
  obtain ⟨-, c0, c1⟩ := twoL_price h1 h2 h3 h4 h5 h6
  have hm0 := Int.emod_nonneg n (b := 1 + x % 1000) (by omega)
  have hmd := Int.mul_ediv_add_emod n (1 + x % 1000)
  rw [Int.mul_comm] at hmd
  have hd0 : 0 ≤ n / (1 + x % 1000) := Int.ediv_nonneg h5 (by omega)
  have hd1 : n / (1 + x % 1000) ≤ n := Int.ediv_le_self _ h5
  have hd2 : 0 ≤ n / (1 + x % 1000) * (1 + x % 1000) := Int.mul_nonneg hd0 (by omega)
  have HM := Lib.hid hmd
  have hd3 : n / (1 + x % 1000) * (1 + x % 1000) ≤ n := by omega
  clear hmd
  by_cases hr : n % (1 + x % 1000) = 0
  · skip
    have hB : (n + (1 + x % 1000) - 1) / (1 + x % 1000) = n / (1 + x % 1000) := ceil_exact h1 hr
    have hnl : ¬ n / (1 + x % 1000) * (1 + x % 1000) < n := by have := HM.out; omega
    rw [hB] at b0 b1 b2 b3 c0 c1
    have F1 := Lib.hid (show priceL (oneL (1 + x % 1000) p) n = ((n / (1 + x % 1000)) * p, 0) by rw [E1.out, hB])
    by_cases h1B : 1 < n / (1 + x % 1000)
    · have hmx : max 0 (n / (1 + x % 1000) - 1) = n / (1 + x % 1000) - 1 := by omega
      have F2 := Lib.hid (show priceL (twoL (1 + x % 1000) p) n = ((n / (1 + x % 1000) - 1) * p, 0) by rw [E2.out, hB, hmx])
      rw [hmx] at c0 c1
      clear hmx hB E1 E2 HM hm0 hr
      go_enter Try.func8, Try.ntmps8
      go_wp2_with fail
      generalize 1 + x % 1000 = q at *
      refine (H1.out w).mono ?_
      rintro e w1 ⟨rfl, hb1⟩
      simp only [F1.out, priceTup_eq]
      have hw1 : Below w.heap.size w w1 := Below.trans (by go_grown) (hb1.mono (by simp))
      have hz1 := hw1.size
      have A1 := Lib.hid (H5.out.below hb1)
      clear hb1
      go_wp2_with fail
      generalize n / q = B at *
      refine (H2.out w1).mono ?_
      rintro e w2 ⟨rfl, hb2⟩
      simp only [F2.out, priceTup_eq]
      have hb3 : Below w1.heap.size w1 w2 := Below.trans (by go_grown) (hb2.mono (by simp))
      have hw2 := hw1.trans (hb3.mono hz1)
      have hz2 := hw2.size
      have S4 := Lib.hid (steps_calls _ _ w2 (A1.out.below hb3))
      clear hb2
      go_wp2_with fail
      refine S4.out.mono ?_
      rintro e w3 ⟨rfl, hb4⟩
      rw [E0.out]
      have hw3 := hw2.trans (hb4.mono hz2)
      go_wp2_with fail
      refine (H3.out _ hw3).mono ?_
      rintro e w4 ⟨rfl, hb5⟩
      go_wp2
      go_ret
      exact ⟨rfl, hb5⟩
    · have hmx : max 0 (n / (1 + x % 1000) - 1) = 0 := by omega
      have F2 := Lib.hid (show priceL (twoL (1 + x % 1000) p) n = (0, 0) by rw [E2.out, hB, hmx, Int.zero_mul])
      clear hmx hB E1 E2 HM hm0 hr c0 c1
      go_enter Try.func8, Try.ntmps8
      go_wp2_with fail
      generalize 1 + x % 1000 = q at *
      refine (H1.out w).mono ?_
      rintro e w1 ⟨rfl, hb1⟩
      simp only [F1.out, priceTup_eq]
      have hw1 : Below w.heap.size w w1 := Below.trans (by go_grown) (hb1.mono (by simp))
      have hz1 := hw1.size
      have A1 := Lib.hid (H5.out.below hb1)
      clear hb1
      go_wp2_with fail
      generalize n / q = B at *
      refine (H2.out w1).mono ?_
      rintro e w2 ⟨rfl, hb2⟩
      simp only [F2.out, priceTup_eq]
      have hb3 : Below w1.heap.size w1 w2 := Below.trans (by go_grown) (hb2.mono (by simp))
      have hw2 := hw1.trans (hb3.mono hz1)
      have hz2 := hw2.size
      have S4 := Lib.hid (steps_calls _ _ w2 (A1.out.below hb3))
      clear hb2
      go_wp2_with fail
      refine S4.out.mono ?_
      rintro e w3 ⟨rfl, hb4⟩
      rw [E0.out]
      have hw3 := hw2.trans (hb4.mono hz2)
      go_wp2_with fail
      refine (H3.out _ hw3).mono ?_
      rintro e w4 ⟨rfl, hb5⟩
      go_wp2
      go_ret
      exact ⟨rfl, hb5⟩
  · skip
    have hB : (n + (1 + x % 1000) - 1) / (1 + x % 1000) = n / (1 + x % 1000) + 1 := ceil_more h1 hr
    have hnl : n / (1 + x % 1000) * (1 + x % 1000) < n := by have := HM.out; omega
    rw [hB] at b0 b1 b2 b3 c0 c1
    have F1 := Lib.hid (show priceL (oneL (1 + x % 1000) p) n = ((n / (1 + x % 1000) + 1) * p, 0) by rw [E1.out, hB])
    by_cases h1B : 1 < n / (1 + x % 1000) + 1
    · have hmx : max 0 (n / (1 + x % 1000) + 1 - 1) = n / (1 + x % 1000) + 1 - 1 := by omega
      have F2 := Lib.hid (show priceL (twoL (1 + x % 1000) p) n = ((n / (1 + x % 1000)) * p, 0) by rw [E2.out, hB, hmx]; simp)
      rw [hmx] at c0 c1
      rw [Int.add_sub_cancel] at c0 c1
      clear hmx hB E1 E2 HM hm0 hr
      go_enter Try.func8, Try.ntmps8
      go_wp2_with fail
      generalize 1 + x % 1000 = q at *
      refine (H1.out w).mono ?_
      rintro e w1 ⟨rfl, hb1⟩
      simp only [F1.out, priceTup_eq]
      have hw1 : Below w.heap.size w w1 := Below.trans (by go_grown) (hb1.mono (by simp))
      have hz1 := hw1.size
      have A1 := Lib.hid (H5.out.below hb1)
      clear hb1
      go_wp2_with fail
      generalize n / q = B at *
      refine (H2.out w1).mono ?_
      rintro e w2 ⟨rfl, hb2⟩
      simp only [F2.out, priceTup_eq]
      have hb3 : Below w1.heap.size w1 w2 := Below.trans (by go_grown) (hb2.mono (by simp))
      have hw2 := hw1.trans (hb3.mono hz1)
      have hz2 := hw2.size
      have S4 := Lib.hid (steps_calls _ _ w2 (A1.out.below hb3))
      clear hb2
      go_wp2_with fail
      refine S4.out.mono ?_
      rintro e w3 ⟨rfl, hb4⟩
      rw [E0.out]
      have hw3 := hw2.trans (hb4.mono hz2)
      go_wp2_with fail
      refine (H3.out _ hw3).mono ?_
      rintro e w4 ⟨rfl, hb5⟩
      go_wp2
      go_ret
      exact ⟨rfl, hb5⟩
    · have hmx : max 0 (n / (1 + x % 1000) + 1 - 1) = 0 := by omega
      have F2 := Lib.hid (show priceL (twoL (1 + x % 1000) p) n = (0, 0) by rw [E2.out, hB, hmx, Int.zero_mul])
      clear hmx hB E1 E2 HM hm0 hr c0 c1
      go_enter Try.func8, Try.ntmps8
      go_wp2_with fail
      generalize 1 + x % 1000 = q at *
      refine (H1.out w).mono ?_
      rintro e w1 ⟨rfl, hb1⟩
      simp only [F1.out, priceTup_eq]
      have hw1 : Below w.heap.size w w1 := Below.trans (by go_grown) (hb1.mono (by simp))
      have hz1 := hw1.size
      have A1 := Lib.hid (H5.out.below hb1)
      clear hb1
      go_wp2_with fail
      generalize n / q = B at *
      refine (H2.out w1).mono ?_
      rintro e w2 ⟨rfl, hb2⟩
      simp only [F2.out, priceTup_eq]
      have hb3 : Below w1.heap.size w1 w2 := Below.trans (by go_grown) (hb2.mono (by simp))
      have hw2 := hw1.trans (hb3.mono hz1)
      have hz2 := hw2.size
      have S4 := Lib.hid (steps_calls _ _ w2 (A1.out.below hb3))
      clear hb2
      go_wp2_with fail
      refine S4.out.mono ?_
      rintro e w3 ⟨rfl, hb4⟩
      rw [E0.out]
      have hw3 := hw2.trans (hb4.mono hz2)
      go_wp2_with fail
      refine (H3.out _ hw3).mono ?_
      rintro e w4 ⟨rfl, hb5⟩
      go_wp2
      go_ret
      exact ⟨rfl, hb5⟩
end Go.Proofs.Ytkipebdhagccbaa
