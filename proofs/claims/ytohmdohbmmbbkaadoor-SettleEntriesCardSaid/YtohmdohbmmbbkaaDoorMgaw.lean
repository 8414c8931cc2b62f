/-
  The walks of Price of agreements, of the program and of the reference.
-/
import Derived.Test.YtohmdohbmmbbkaaDoorMgav
namespace Go.Proofs.YtohmdohbmmbbkaaDoor
open Go.RowKit

theorem cappedL_bd (a : Ag) (n : Int) (h0 : 0 ≤ a.cap) : 0 ≤ (cappedL a n).1 ∧ (cappedL a n).1 ≤ 1125899906842624 := by
  have := priceL_bd a.st n
  unfold cappedL capV
  dsimp only
  split
  · exact this
  · omega

theorem agPriceL_eq (a : Ag) (m n : Int) : agPriceL a m n = if m < 0 ∨ 1099511627776 < m ∨ n < 0 ∨ 1099511627776 < n ∨ 1099511627776 < m + n ∨ a.cap < 0 ∨ 1125899906842624 < a.cap then (0, 6)
  else if (cappedL a (m + n)).2 ≠ 0 then (0, (cappedL a (m + n)).2) else if (cappedL a m).2 ≠ 0 then (0, (cappedL a m).2) else ((cappedL a (m + n)).1 - (cappedL a m).1, 0) := rfl

theorem units_calls (x : Int) (w : World) (r : Bool) (h : decide (0 ≤ x ∧ x ≤ 1099511627776) = r) : Calls Tryd.prog 55 #[.int .i64 x] w fun e w' => e = .returned (.bool r) ∧ w = w' := by
  by_cases h1 : 0 ≤ x
  · have k1 : decide (0 ≤ x) = true := decide_eq_true h1
    by_cases h2 : x ≤ 1099511627776
    · have k2 : decide (x ≤ 1099511627776) = true := decide_eq_true h2
      have H := Lib.hid (show true = r by rw [← h]; simp [h1, h2])
      clear h
      go_enter Tryd.func55, Tryd.ntmps55
      go_wp2
      go_ret
      exact ⟨ret_bool H.out, rfl⟩
    · have k2 : decide (x ≤ 1099511627776) = false := decide_eq_false h2
      have H := Lib.hid (show false = r by rw [← h]; simp [h2])
      clear h
      go_enter Tryd.func55, Tryd.ntmps55
      go_wp2
      go_ret
      exact ⟨ret_bool H.out, rfl⟩
  · have k1 : decide (0 ≤ x) = false := decide_eq_false h1
    have H := Lib.hid (show false = r by rw [← h]; simp [h1])
    clear h
    go_enter Tryd.func55, Tryd.ntmps55
    go_wp2
    go_ret
    exact ⟨ret_bool H.out, rfl⟩

set_option maxRecDepth 100000 in
set_option maxHeartbeats 1600000 in
theorem agprice_calls (a : Ag) (v : Value) (m n : Int) (w : World) (h : StepsAt w v a.st) : Calls Tryd.prog 26 #[agVal a v, .int .i64 m, .int .i64 n] w fun e w' => e = .returned (priceTup (agPriceL a m n)) ∧ Below w.heap.size w w' := by
  have hE := agPriceL_eq a m n
  by_cases h0 : m < 0
  · have k0 : decide (m < 0) = true := decide_eq_true h0
    have HE := Lib.hid (show agPriceL a m n = (0, 6) by rw [hE, if_pos (by omega)])
    clear hE
    unfold agVal
    obtain ⟨av, cap, rfl, hm, -⟩ := h
    go_enter Tryd.func26, Tryd.ntmps26
    go_wp2
    go_ret2
    exact ⟨tup_eq HE.out, by go_grown⟩
  · have k0 : decide (m < 0) = false := decide_eq_false h0
    by_cases h1 : 1099511627776 < m
    · have k1 : decide (1099511627776 < m) = true := decide_eq_true h1
      have HE := Lib.hid (show agPriceL a m n = (0, 6) by rw [hE, if_pos (by omega)])
      clear hE
      unfold agVal
      obtain ⟨av, cap, rfl, hm, -⟩ := h
      go_enter Tryd.func26, Tryd.ntmps26
      go_wp2
      go_ret2
      exact ⟨tup_eq HE.out, by go_grown⟩
    · have k1 : decide (1099511627776 < m) = false := decide_eq_false h1
      by_cases h2 : n < 0
      · have k2 : decide (n < 0) = true := decide_eq_true h2
        have HE := Lib.hid (show agPriceL a m n = (0, 6) by rw [hE, if_pos (by omega)])
        clear hE
        unfold agVal
        obtain ⟨av, cap, rfl, hm, -⟩ := h
        go_enter Tryd.func26, Tryd.ntmps26
        go_wp2
        go_ret2
        exact ⟨tup_eq HE.out, by go_grown⟩
      · have k2 : decide (n < 0) = false := decide_eq_false h2
        by_cases h3 : 1099511627776 < n
        · have k3 : decide (1099511627776 < n) = true := decide_eq_true h3
          have HE := Lib.hid (show agPriceL a m n = (0, 6) by rw [hE, if_pos (by omega)])
          clear hE
          unfold agVal
          obtain ⟨av, cap, rfl, hm, -⟩ := h
          go_enter Tryd.func26, Tryd.ntmps26
          go_wp2
          go_ret2
          exact ⟨tup_eq HE.out, by go_grown⟩
        · have k3 : decide (1099511627776 < n) = false := decide_eq_false h3
          by_cases h4 : 1099511627776 < m + n
          · have k4 : decide (1099511627776 < m + n) = true := decide_eq_true h4
            have HE := Lib.hid (show agPriceL a m n = (0, 6) by rw [hE, if_pos (by omega)])
            clear hE
            unfold agVal
            obtain ⟨av, cap, rfl, hm, -⟩ := h
            go_enter Tryd.func26, Tryd.ntmps26
            go_wp2
            go_ret2
            exact ⟨tup_eq HE.out, by go_grown⟩
          · have k4 : decide (1099511627776 < m + n) = false := decide_eq_false h4
            by_cases h5 : a.cap < 0
            · have k5 : decide (a.cap < 0) = true := decide_eq_true h5
              have HE := Lib.hid (show agPriceL a m n = (0, 6) by rw [hE, if_pos (by omega)])
              clear hE
              unfold agVal
              obtain ⟨av, cap, rfl, hm, -⟩ := h
              go_enter Tryd.func26, Tryd.ntmps26
              go_wp2
              go_ret2
              exact ⟨tup_eq HE.out, by go_grown⟩
            · have k5 : decide (a.cap < 0) = false := decide_eq_false h5
              by_cases h6 : 1125899906842624 < a.cap
              · have k6 : decide (1125899906842624 < a.cap) = true := decide_eq_true h6
                have HE := Lib.hid (show agPriceL a m n = (0, 6) by rw [hE, if_pos (by omega)])
                clear hE
                unfold agVal
                obtain ⟨av, cap, rfl, hm, -⟩ := h
                go_enter Tryd.func26, Tryd.ntmps26
                go_wp2
                go_ret2
                exact ⟨tup_eq HE.out, by go_grown⟩
              · have k6 : decide (1125899906842624 < a.cap) = false := decide_eq_false h6
                rw [if_neg (by omega)] at hE
                have b1 := cappedL_bd a (m + n) (by omega)
                have b2 := cappedL_bd a m (by omega)
                have hv := h
                obtain ⟨av, cap, rfl, hm, -⟩ := h
                obtain ⟨W, hW⟩ : ∃ W, W = w.alloc (Obj.cells #[.int .i64 a.pa, .int .i64 a.kd, .bool a.ib, .int .i64 a.fr, .int .i64 a.tt, .slice av a.st.length cap, .int .i64 a.cap] 53) := ⟨_, rfl⟩
                have hw0 : Below w.heap.size w W := by rw [hW]; go_grown
                have hz : W.heap.size = w.heap.size + 1 := by rw [hW]; simp
                have r2 : W.heap[w.heap.size]? = some (Obj.cells #[.int .i64 a.pa, .int .i64 a.kd, .bool a.ib, .int .i64 a.fr, .int .i64 a.tt, .slice av a.st.length cap, .int .i64 a.cap] 53) := by rw [hW]; exact heap_alloc_new _ _
                have HW := Lib.hid hW
                have hz2 : w.heap.size < W.heap.size := by omega
                have Hr := Lib.hid r2
                have hvW := hv.below hw0
                have HvW := Lib.hid hvW
                clear hW r2 hz hv hvW
                have Hp := Lib.hid (fun w1 (hb : Below W.heap.size W w1) => capped_calls a (.slice av a.st.length cap) (m + n) w1 (HvW.out.below hb))
                have Hq := Lib.hid (fun w1 (hb : Below W.heap.size W w1) => capped_calls a (.slice av a.st.length cap) m w1 (HvW.out.below hb))
                unfold priceTup agVal at Hp Hq
                generalize cappedL a (m + n) = p at *
                generalize cappedL a m = q at *
                obtain ⟨x, y⟩ := p
                obtain ⟨x2, y2⟩ := q
                dsimp only at hE b1 b2 Hp Hq
                unfold agVal
                clear HvW
                by_cases hy : y = 0
                · subst hy
                  rw [if_neg (by simp)] at hE
                  by_cases hy2 : y2 = 0
                  · subst hy2
                    have HE := Lib.hid (show agPriceL a m n = (x - x2, 0) by rw [hE, if_neg (by simp)])
                    clear hE
                    go_enter Tryd.func26, Tryd.ntmps26
                    go_wp2_with fail
                    rw [← HW.out]
                    refine (Hp.out W (Below.refl _ _)).mono ?_
                    rintro e w1 ⟨rfl, hb1⟩
                    have g0 : w1.cell? ⟨w.heap.size, 0, none⟩ = some (.int .i64 a.pa) := cell_of_row w1 _ 0 _ _ _ ((hb1.block _ hz2).trans Hr.out)
                    have g1 : w1.cell? ⟨w.heap.size, 1, none⟩ = some (.int .i64 a.kd) := cell_of_row w1 _ 1 _ _ _ ((hb1.block _ hz2).trans Hr.out)
                    have g2 : w1.cell? ⟨w.heap.size, 2, none⟩ = some (.bool a.ib) := cell_of_row w1 _ 2 _ _ _ ((hb1.block _ hz2).trans Hr.out)
                    have g3 : w1.cell? ⟨w.heap.size, 3, none⟩ = some (.int .i64 a.fr) := cell_of_row w1 _ 3 _ _ _ ((hb1.block _ hz2).trans Hr.out)
                    have g4 : w1.cell? ⟨w.heap.size, 4, none⟩ = some (.int .i64 a.tt) := cell_of_row w1 _ 4 _ _ _ ((hb1.block _ hz2).trans Hr.out)
                    have g5 : w1.cell? ⟨w.heap.size, 5, none⟩ = some (.slice av a.st.length cap) := cell_of_row w1 _ 5 _ _ _ ((hb1.block _ hz2).trans Hr.out)
                    have g6 : w1.cell? ⟨w.heap.size, 6, none⟩ = some (.int .i64 a.cap) := cell_of_row w1 _ 6 _ _ _ ((hb1.block _ hz2).trans Hr.out)
                    go_wp2_with fail
                    refine (Hq.out w1 hb1).mono ?_
                    rintro e w2 ⟨rfl, hb2⟩
                    have hb3 := hw0.trans ((hb1.trans (hb2.mono hb1.size)).mono hw0.size)
                    clear g0 g1 g2 g3 g4 g5 g6
                    go_wp2
                    go_ret2
                    exact ⟨tup_eq HE.out, hb3⟩
                  · have hyn : (y2 != 0) = true := by rw [bne_iff_ne]; exact hy2
                    have HE := Lib.hid (show agPriceL a m n = (0, y2) by rw [hE, if_pos hy2])
                    clear hE hy2
                    go_enter Tryd.func26, Tryd.ntmps26
                    go_wp2_with fail
                    rw [← HW.out]
                    refine (Hp.out W (Below.refl _ _)).mono ?_
                    rintro e w1 ⟨rfl, hb1⟩
                    have g0 : w1.cell? ⟨w.heap.size, 0, none⟩ = some (.int .i64 a.pa) := cell_of_row w1 _ 0 _ _ _ ((hb1.block _ hz2).trans Hr.out)
                    have g1 : w1.cell? ⟨w.heap.size, 1, none⟩ = some (.int .i64 a.kd) := cell_of_row w1 _ 1 _ _ _ ((hb1.block _ hz2).trans Hr.out)
                    have g2 : w1.cell? ⟨w.heap.size, 2, none⟩ = some (.bool a.ib) := cell_of_row w1 _ 2 _ _ _ ((hb1.block _ hz2).trans Hr.out)
                    have g3 : w1.cell? ⟨w.heap.size, 3, none⟩ = some (.int .i64 a.fr) := cell_of_row w1 _ 3 _ _ _ ((hb1.block _ hz2).trans Hr.out)
                    have g4 : w1.cell? ⟨w.heap.size, 4, none⟩ = some (.int .i64 a.tt) := cell_of_row w1 _ 4 _ _ _ ((hb1.block _ hz2).trans Hr.out)
                    have g5 : w1.cell? ⟨w.heap.size, 5, none⟩ = some (.slice av a.st.length cap) := cell_of_row w1 _ 5 _ _ _ ((hb1.block _ hz2).trans Hr.out)
                    have g6 : w1.cell? ⟨w.heap.size, 6, none⟩ = some (.int .i64 a.cap) := cell_of_row w1 _ 6 _ _ _ ((hb1.block _ hz2).trans Hr.out)
                    go_wp2_with fail
                    refine (Hq.out w1 hb1).mono ?_
                    rintro e w2 ⟨rfl, hb2⟩
                    have hb3 := hw0.trans ((hb1.trans (hb2.mono hb1.size)).mono hw0.size)
                    clear g0 g1 g2 g3 g4 g5 g6
                    go_wp2
                    go_ret2
                    exact ⟨tup_eq HE.out, hb3⟩
                · have hyn : (y != 0) = true := by rw [bne_iff_ne]; exact hy
                  have HE := Lib.hid (show agPriceL a m n = (0, y) by rw [hE, if_pos hy])
                  clear hE hy
                  go_enter Tryd.func26, Tryd.ntmps26
                  go_wp2_with fail
                  rw [← HW.out]
                  refine (Hp.out W (Below.refl _ _)).mono ?_
                  rintro e w1 ⟨rfl, hb1⟩
                  have hb3 := hw0.trans (hb1.mono hw0.size)
                  go_wp2
                  go_ret2
                  exact ⟨tup_eq HE.out, hb3⟩

set_option maxRecDepth 100000 in
set_option maxHeartbeats 1600000 in
theorem ragprice_calls (a : Ag) (v : Value) (m n : Int) (w : World) (h : StepsAt w v a.st) : Calls Tryd.prog 33 #[agVal a v, .int .i64 m, .int .i64 n] w fun e w' => e = .returned (priceTup (agPriceL a m n)) ∧ Below w.heap.size w w' := by
  have hE := agPriceL_eq a m n
  by_cases h0 : 0 ≤ m ∧ m ≤ 1099511627776
  rotate_left
  · have U0 := Lib.hid (fun w => units_calls (m) w false (decide_eq_false h0))
    have HE := Lib.hid (show agPriceL a m n = (0, 6) by rw [hE, if_pos (by omega)])
    clear hE
    unfold agVal
    obtain ⟨av, cap, rfl, hm, -⟩ := h
    go_enter Tryd.func33, Tryd.ntmps33
    go_wp2_with fail
    refine (U0.out _).mono ?_
    rintro e w0 ⟨rfl, hw1⟩
    subst w0
    go_wp2
    go_ret2
    exact ⟨tup_eq HE.out, by go_grown⟩
  · have U0 := Lib.hid (fun w => units_calls (m) w true (decide_eq_true h0))
    by_cases h1 : 0 ≤ n ∧ n ≤ 1099511627776
    rotate_left
    · have U1 := Lib.hid (fun w => units_calls (n) w false (decide_eq_false h1))
      have HE := Lib.hid (show agPriceL a m n = (0, 6) by rw [hE, if_pos (by omega)])
      clear hE
      unfold agVal
      obtain ⟨av, cap, rfl, hm, -⟩ := h
      go_enter Tryd.func33, Tryd.ntmps33
      go_wp2_with fail
      refine (U0.out _).mono ?_
      rintro e w0 ⟨rfl, hw1⟩
      subst w0
      go_wp2_with fail
      refine (U1.out _).mono ?_
      rintro e w0 ⟨rfl, hw1⟩
      subst w0
      go_wp2
      go_ret2
      exact ⟨tup_eq HE.out, by go_grown⟩
    · have U1 := Lib.hid (fun w => units_calls (n) w true (decide_eq_true h1))
      by_cases h2 : 0 ≤ m + n ∧ m + n ≤ 1099511627776
      rotate_left
      · have U2 := Lib.hid (fun w => units_calls (m + n) w false (decide_eq_false h2))
        have HE := Lib.hid (show agPriceL a m n = (0, 6) by rw [hE, if_pos (by omega)])
        clear hE
        unfold agVal
        obtain ⟨av, cap, rfl, hm, -⟩ := h
        go_enter Tryd.func33, Tryd.ntmps33
        go_wp2_with fail
        refine (U0.out _).mono ?_
        rintro e w0 ⟨rfl, hw1⟩
        subst w0
        go_wp2_with fail
        refine (U1.out _).mono ?_
        rintro e w0 ⟨rfl, hw1⟩
        subst w0
        go_wp2_with fail
        refine (U2.out _).mono ?_
        rintro e w0 ⟨rfl, hw1⟩
        subst w0
        go_wp2
        go_ret2
        exact ⟨tup_eq HE.out, by go_grown⟩
      · have U2 := Lib.hid (fun w => units_calls (m + n) w true (decide_eq_true h2))
        by_cases h5 : a.cap < 0
        · have k5 : decide (a.cap < 0) = true := decide_eq_true h5
          have HE := Lib.hid (show agPriceL a m n = (0, 6) by rw [hE, if_pos (by omega)])
          clear hE
          unfold agVal
          obtain ⟨av, cap, rfl, hm, -⟩ := h
          go_enter Tryd.func33, Tryd.ntmps33
          go_wp2_with fail
          refine (U0.out _).mono ?_
          rintro e w0 ⟨rfl, hw1⟩
          subst w0
          go_wp2_with fail
          refine (U1.out _).mono ?_
          rintro e w0 ⟨rfl, hw1⟩
          subst w0
          go_wp2_with fail
          refine (U2.out _).mono ?_
          rintro e w0 ⟨rfl, hw1⟩
          subst w0
          go_wp2
          go_ret2
          exact ⟨tup_eq HE.out, by go_grown⟩
        · have k5 : decide (a.cap < 0) = false := decide_eq_false h5
          by_cases h6 : 1125899906842624 < a.cap
          · have k6 : decide (1125899906842624 < a.cap) = true := decide_eq_true h6
            have HE := Lib.hid (show agPriceL a m n = (0, 6) by rw [hE, if_pos (by omega)])
            clear hE
            unfold agVal
            obtain ⟨av, cap, rfl, hm, -⟩ := h
            go_enter Tryd.func33, Tryd.ntmps33
            go_wp2_with fail
            refine (U0.out _).mono ?_
            rintro e w0 ⟨rfl, hw1⟩
            subst w0
            go_wp2_with fail
            refine (U1.out _).mono ?_
            rintro e w0 ⟨rfl, hw1⟩
            subst w0
            go_wp2_with fail
            refine (U2.out _).mono ?_
            rintro e w0 ⟨rfl, hw1⟩
            subst w0
            go_wp2
            go_ret2
            exact ⟨tup_eq HE.out, by go_grown⟩
          · have k6 : decide (1125899906842624 < a.cap) = false := decide_eq_false h6
            rw [if_neg (by omega)] at hE
            have b1 := cappedL_bd a (m + n) (by omega)
            have b2 := cappedL_bd a m (by omega)
            have hv := h
            obtain ⟨av, cap, rfl, hm, -⟩ := h
            obtain ⟨W, hW⟩ : ∃ W, W = w.alloc (Obj.cells #[.int .i64 a.pa, .int .i64 a.kd, .bool a.ib, .int .i64 a.fr, .int .i64 a.tt, .slice av a.st.length cap, .int .i64 a.cap] 53) := ⟨_, rfl⟩
            have hw0 : Below w.heap.size w W := by rw [hW]; go_grown
            have hz : W.heap.size = w.heap.size + 1 := by rw [hW]; simp
            have r2 : W.heap[w.heap.size]? = some (Obj.cells #[.int .i64 a.pa, .int .i64 a.kd, .bool a.ib, .int .i64 a.fr, .int .i64 a.tt, .slice av a.st.length cap, .int .i64 a.cap] 53) := by rw [hW]; exact heap_alloc_new _ _
            have HW := Lib.hid hW
            have hz2 : w.heap.size < W.heap.size := by omega
            have Hr := Lib.hid r2
            have hvW := hv.below hw0
            have HvW := Lib.hid hvW
            clear hW r2 hz hv hvW
            have Hp := Lib.hid (fun w1 (hb : Below W.heap.size W w1) => rcapped_calls a (.slice av a.st.length cap) (m + n) w1 (HvW.out.below hb) (by omega))
            have Hq := Lib.hid (fun w1 (hb : Below W.heap.size W w1) => rcapped_calls a (.slice av a.st.length cap) m w1 (HvW.out.below hb) (by omega))
            unfold priceTup agVal at Hp Hq
            generalize cappedL a (m + n) = p at *
            generalize cappedL a m = q at *
            obtain ⟨x, y⟩ := p
            obtain ⟨x2, y2⟩ := q
            dsimp only at hE b1 b2 Hp Hq
            unfold agVal
            clear HvW
            by_cases hy : y = 0
            · subst hy
              rw [if_neg (by simp)] at hE
              by_cases hy2 : y2 = 0
              · subst hy2
                have HE := Lib.hid (show agPriceL a m n = (x - x2, 0) by rw [hE, if_neg (by simp)])
                clear hE
                go_enter Tryd.func33, Tryd.ntmps33
                go_wp2_with fail
                rw [← HW.out]
                refine (U0.out _).mono ?_
                rintro e w0 ⟨rfl, hw1⟩
                subst w0
                go_wp2_with fail
                refine (U1.out _).mono ?_
                rintro e w0 ⟨rfl, hw1⟩
                subst w0
                go_wp2_with fail
                refine (U2.out _).mono ?_
                rintro e w0 ⟨rfl, hw1⟩
                subst w0
                have g0 : W.cell? ⟨w.heap.size, 0, none⟩ = some (.int .i64 a.pa) := cell_of_row W _ 0 _ _ _ (Hr.out)
                have g1 : W.cell? ⟨w.heap.size, 1, none⟩ = some (.int .i64 a.kd) := cell_of_row W _ 1 _ _ _ (Hr.out)
                have g2 : W.cell? ⟨w.heap.size, 2, none⟩ = some (.bool a.ib) := cell_of_row W _ 2 _ _ _ (Hr.out)
                have g3 : W.cell? ⟨w.heap.size, 3, none⟩ = some (.int .i64 a.fr) := cell_of_row W _ 3 _ _ _ (Hr.out)
                have g4 : W.cell? ⟨w.heap.size, 4, none⟩ = some (.int .i64 a.tt) := cell_of_row W _ 4 _ _ _ (Hr.out)
                have g5 : W.cell? ⟨w.heap.size, 5, none⟩ = some (.slice av a.st.length cap) := cell_of_row W _ 5 _ _ _ (Hr.out)
                have g6 : W.cell? ⟨w.heap.size, 6, none⟩ = some (.int .i64 a.cap) := cell_of_row W _ 6 _ _ _ (Hr.out)
                go_wp2_with fail
                refine (Hp.out W (Below.refl _ _)).mono ?_
                rintro e w1 ⟨rfl, hb1⟩
                clear g0 g1 g2 g3 g4 g5 g6
                have g0 : w1.cell? ⟨w.heap.size, 0, none⟩ = some (.int .i64 a.pa) := cell_of_row w1 _ 0 _ _ _ ((hb1.block _ hz2).trans Hr.out)
                have g1 : w1.cell? ⟨w.heap.size, 1, none⟩ = some (.int .i64 a.kd) := cell_of_row w1 _ 1 _ _ _ ((hb1.block _ hz2).trans Hr.out)
                have g2 : w1.cell? ⟨w.heap.size, 2, none⟩ = some (.bool a.ib) := cell_of_row w1 _ 2 _ _ _ ((hb1.block _ hz2).trans Hr.out)
                have g3 : w1.cell? ⟨w.heap.size, 3, none⟩ = some (.int .i64 a.fr) := cell_of_row w1 _ 3 _ _ _ ((hb1.block _ hz2).trans Hr.out)
                have g4 : w1.cell? ⟨w.heap.size, 4, none⟩ = some (.int .i64 a.tt) := cell_of_row w1 _ 4 _ _ _ ((hb1.block _ hz2).trans Hr.out)
                have g5 : w1.cell? ⟨w.heap.size, 5, none⟩ = some (.slice av a.st.length cap) := cell_of_row w1 _ 5 _ _ _ ((hb1.block _ hz2).trans Hr.out)
                have g6 : w1.cell? ⟨w.heap.size, 6, none⟩ = some (.int .i64 a.cap) := cell_of_row w1 _ 6 _ _ _ ((hb1.block _ hz2).trans Hr.out)
                go_wp2_with fail
                refine (Hq.out w1 hb1).mono ?_
                rintro e w2 ⟨rfl, hb2⟩
                have hb3 := hw0.trans ((hb1.trans (hb2.mono hb1.size)).mono hw0.size)
                clear g0 g1 g2 g3 g4 g5 g6
                go_wp2
                go_ret2
                exact ⟨tup_eq HE.out, hb3⟩
              · have hyn : (y2 != 0) = true := by rw [bne_iff_ne]; exact hy2
                have HE := Lib.hid (show agPriceL a m n = (0, y2) by rw [hE, if_pos hy2])
                clear hE hy2
                go_enter Tryd.func33, Tryd.ntmps33
                go_wp2_with fail
                rw [← HW.out]
                refine (U0.out _).mono ?_
                rintro e w0 ⟨rfl, hw1⟩
                subst w0
                go_wp2_with fail
                refine (U1.out _).mono ?_
                rintro e w0 ⟨rfl, hw1⟩
                subst w0
                go_wp2_with fail
                refine (U2.out _).mono ?_
                rintro e w0 ⟨rfl, hw1⟩
                subst w0
                have g0 : W.cell? ⟨w.heap.size, 0, none⟩ = some (.int .i64 a.pa) := cell_of_row W _ 0 _ _ _ (Hr.out)
                have g1 : W.cell? ⟨w.heap.size, 1, none⟩ = some (.int .i64 a.kd) := cell_of_row W _ 1 _ _ _ (Hr.out)
                have g2 : W.cell? ⟨w.heap.size, 2, none⟩ = some (.bool a.ib) := cell_of_row W _ 2 _ _ _ (Hr.out)
                have g3 : W.cell? ⟨w.heap.size, 3, none⟩ = some (.int .i64 a.fr) := cell_of_row W _ 3 _ _ _ (Hr.out)
                have g4 : W.cell? ⟨w.heap.size, 4, none⟩ = some (.int .i64 a.tt) := cell_of_row W _ 4 _ _ _ (Hr.out)
                have g5 : W.cell? ⟨w.heap.size, 5, none⟩ = some (.slice av a.st.length cap) := cell_of_row W _ 5 _ _ _ (Hr.out)
                have g6 : W.cell? ⟨w.heap.size, 6, none⟩ = some (.int .i64 a.cap) := cell_of_row W _ 6 _ _ _ (Hr.out)
                go_wp2_with fail
                refine (Hp.out W (Below.refl _ _)).mono ?_
                rintro e w1 ⟨rfl, hb1⟩
                clear g0 g1 g2 g3 g4 g5 g6
                have g0 : w1.cell? ⟨w.heap.size, 0, none⟩ = some (.int .i64 a.pa) := cell_of_row w1 _ 0 _ _ _ ((hb1.block _ hz2).trans Hr.out)
                have g1 : w1.cell? ⟨w.heap.size, 1, none⟩ = some (.int .i64 a.kd) := cell_of_row w1 _ 1 _ _ _ ((hb1.block _ hz2).trans Hr.out)
                have g2 : w1.cell? ⟨w.heap.size, 2, none⟩ = some (.bool a.ib) := cell_of_row w1 _ 2 _ _ _ ((hb1.block _ hz2).trans Hr.out)
                have g3 : w1.cell? ⟨w.heap.size, 3, none⟩ = some (.int .i64 a.fr) := cell_of_row w1 _ 3 _ _ _ ((hb1.block _ hz2).trans Hr.out)
                have g4 : w1.cell? ⟨w.heap.size, 4, none⟩ = some (.int .i64 a.tt) := cell_of_row w1 _ 4 _ _ _ ((hb1.block _ hz2).trans Hr.out)
                have g5 : w1.cell? ⟨w.heap.size, 5, none⟩ = some (.slice av a.st.length cap) := cell_of_row w1 _ 5 _ _ _ ((hb1.block _ hz2).trans Hr.out)
                have g6 : w1.cell? ⟨w.heap.size, 6, none⟩ = some (.int .i64 a.cap) := cell_of_row w1 _ 6 _ _ _ ((hb1.block _ hz2).trans Hr.out)
                go_wp2_with fail
                refine (Hq.out w1 hb1).mono ?_
                rintro e w2 ⟨rfl, hb2⟩
                have hb3 := hw0.trans ((hb1.trans (hb2.mono hb1.size)).mono hw0.size)
                clear g0 g1 g2 g3 g4 g5 g6
                go_wp2
                go_ret2
                exact ⟨tup_eq HE.out, hb3⟩
            · have hyn : (y != 0) = true := by rw [bne_iff_ne]; exact hy
              have HE := Lib.hid (show agPriceL a m n = (0, y) by rw [hE, if_pos hy])
              clear hE hy
              go_enter Tryd.func33, Tryd.ntmps33
              go_wp2_with fail
              rw [← HW.out]
              refine (U0.out _).mono ?_
              rintro e w0 ⟨rfl, hw1⟩
              subst w0
              go_wp2_with fail
              refine (U1.out _).mono ?_
              rintro e w0 ⟨rfl, hw1⟩
              subst w0
              go_wp2_with fail
              refine (U2.out _).mono ?_
              rintro e w0 ⟨rfl, hw1⟩
              subst w0
              have g0 : W.cell? ⟨w.heap.size, 0, none⟩ = some (.int .i64 a.pa) := cell_of_row W _ 0 _ _ _ (Hr.out)
              have g1 : W.cell? ⟨w.heap.size, 1, none⟩ = some (.int .i64 a.kd) := cell_of_row W _ 1 _ _ _ (Hr.out)
              have g2 : W.cell? ⟨w.heap.size, 2, none⟩ = some (.bool a.ib) := cell_of_row W _ 2 _ _ _ (Hr.out)
              have g3 : W.cell? ⟨w.heap.size, 3, none⟩ = some (.int .i64 a.fr) := cell_of_row W _ 3 _ _ _ (Hr.out)
              have g4 : W.cell? ⟨w.heap.size, 4, none⟩ = some (.int .i64 a.tt) := cell_of_row W _ 4 _ _ _ (Hr.out)
              have g5 : W.cell? ⟨w.heap.size, 5, none⟩ = some (.slice av a.st.length cap) := cell_of_row W _ 5 _ _ _ (Hr.out)
              have g6 : W.cell? ⟨w.heap.size, 6, none⟩ = some (.int .i64 a.cap) := cell_of_row W _ 6 _ _ _ (Hr.out)
              go_wp2_with fail
              refine (Hp.out W (Below.refl _ _)).mono ?_
              rintro e w1 ⟨rfl, hb1⟩
              have hb3 := hw0.trans (hb1.mono hw0.size)
              clear g0 g1 g2 g3 g4 g5 g6
              go_wp2
              go_ret2
              exact ⟨tup_eq HE.out, hb3⟩

end Go.Proofs.YtohmdohbmmbbkaaDoor
