/-
  The walks of the reference's calendar: leap years, lengths of months, the cycles of a period, the cycle of an instant.
-/
import Derived.Test.YtmilpaibkemmdaaMgau
namespace Go.Proofs.Ytmilpaibkemmdaa
open Go.RowKit

set_option maxRecDepth 100000 in
set_option maxHeartbeats 800000 in
theorem r3valid_calls (f t : Int) (w : World) : Calls Try.prog 51 #[.agg #[.int .i64 f, .int .i64 t]] w fun e w' => e = .returned (.bool (validB f t)) ∧ Below w.heap.size w w' := by
  by_cases h1 : 0 ≤ f
  · have k1 : decide (0 ≤ f) = true := decide_eq_true h1
    by_cases h2 : f < t
    · have k2 : decide (f < t) = true := decide_eq_true h2
      by_cases h3 : t ≤ 12622780800
      · have k3 : decide (t ≤ 12622780800) = true := decide_eq_true h3
        have H := Lib.hid (bool_of (validB_iff f t) ⟨h1, h2, h3⟩)
        go_enter Try.func51, Try.ntmps51
        go_wp2
        go_ret
        exact ⟨ret_bool H.out, by go_grown⟩
      · have k3 : decide (t ≤ 12622780800) = false := decide_eq_false h3
        have H := Lib.hid (bool_no (validB_iff f t) (fun h => h3 h.2.2))
        go_enter Try.func51, Try.ntmps51
        go_wp2
        go_ret
        exact ⟨ret_bool H.out, by go_grown⟩
    · have k2 : decide (f < t) = false := decide_eq_false h2
      have H := Lib.hid (bool_no (validB_iff f t) (fun h => h2 h.2.1))
      go_enter Try.func51, Try.ntmps51
      go_wp2
      go_ret
      exact ⟨ret_bool H.out, by go_grown⟩
  · have k1 : decide (0 ≤ f) = false := decide_eq_false h1
    have H := Lib.hid (bool_no (validB_iff f t) (fun h => h1 h.1))
    go_enter Try.func51, Try.ntmps51
    go_wp2
    go_ret
    exact ⟨ret_bool H.out, by go_grown⟩

set_option maxHeartbeats 800000 in
theorem rleap_calls (y : Int) (w : World) (h0 : 0 ≤ y) : Calls Try.prog 74 #[.int .i64 y] w fun e w' => e = .returned (.bool (lpB y)) ∧ w = w' := by
  have H : lpB y = ((y % 4 == 0) && ((!(y % 100 == 0)) || (y % 400 == 0))) := by
    rw [Bool.eq_iff_iff, lpB_iff]
    simp
  have H := Lib.hid H
  cases k1 : (y % 4 == 0) <;> cases k2 : (y % 100 == 0) <;> cases k3 : (y % 400 == 0)
  all_goals
    have k4 := bne_of k2
    simp only [Bool.not_true, Bool.not_false] at k4
    rw [k1, k2, k3] at H
    go_enter Try.func74, Try.ntmps74
    go_wp2
    go_ret
    exact ⟨ret_bool H.out.symm, rfl⟩

set_option maxRecDepth 100000 in
set_option maxHeartbeats 1600000 in
theorem rlength_calls (y m : Int) (w : World) (h0 : 2000 ≤ y) (h3 : y ≤ 2399) (h1 : 1 ≤ m) (h2 : m ≤ 12) : Calls Try.prog 52 #[.int .i64 y, .int .i64 m] w fun e w' => e = .returned (.int .i64 (lenM y m)) ∧ w = w' := by
  obtain rfl | rfl | rfl | rfl | rfl | rfl | rfl | rfl | rfl | rfl | rfl | rfl : m = 1 ∨ m = 2 ∨ m = 3 ∨ m = 4 ∨ m = 5 ∨ m = 6 ∨ m = 7 ∨ m = 8 ∨ m = 9 ∨ m = 10 ∨ m = 11 ∨ m = 12 := by omega
  case inr.inl =>
    cases hl : lpB y with
    | true =>
      have HL := Lib.hid (lp_of hl)
      have HC := Lib.hid (rleap_calls y · (by omega))
      rw [hl] at HC
      clear hl
      go_enter Try.func52, Try.ntmps52
      go_wp2_with (go_at_call 74; refine (HC.out _).mono ?_; rintro e w' ⟨rfl, rfl⟩)
      go_ret
      exact ⟨ret_int (by unfold lenM; rw [HL.out]; rfl), rfl⟩
    | false =>
      have HL := Lib.hid (lp_of hl)
      have HC := Lib.hid (rleap_calls y · (by omega))
      rw [hl] at HC
      clear hl
      go_enter Try.func52, Try.ntmps52
      go_wp2_with (go_at_call 74; refine (HC.out _).mono ?_; rintro e w' ⟨rfl, rfl⟩)
      go_ret
      exact ⟨ret_int (by unfold lenM; rw [HL.out]; rfl), rfl⟩
  all_goals
    go_enter Try.func52, Try.ntmps52
    go_wp2
    go_ret
    exact ⟨ret_int (by simp [lenM]), rfl⟩

theorem meets_iff {a f t lo hi m : Int} (ha : 1 ≤ a) (hb : a ≤ 28) (h0 : 0 ≤ f) (hlo : IsMo a f lo) (hhi : IsMo a (t - 1) hi) :
    (lo ≤ m - 1 ∧ m - 1 ≤ hi → beg a m > beg a (m - 1)) ∧ (lo ≤ m - 1 ↔ f < beg a m) ∧ (m - 1 ≤ hi ↔ beg a (m - 1) < t) := by
  obtain ⟨l0, l1, l2, l3⟩ := hlo
  obtain ⟨g0, g1, g2, g3⟩ := hhi
  refine ⟨fun ⟨h1, h2⟩ => ?_, ⟨fun h => ?_, fun h => ?_⟩, ⟨fun h => ?_, fun h => ?_⟩⟩
  · by_cases hk : 0 ≤ m - 1
    · have := beg_lt ha hb hk (by omega)
      rwa [show m - 1 + 1 = m by omega] at this
    · obtain rfl : m = 0 := by omega
      obtain rfl : lo = -1 := by omega
      rw [beg_low (show (0 : Int) - 1 < 0 by decide)]
      rw [show (-1 : Int) + 1 = 0 by rfl] at l3
      omega
  · have := beg_mono ha hb (show lo + 1 ≤ m by omega)
    omega
  · refine Classical.byContradiction fun hn => ?_
    have := beg_mono ha hb (show m ≤ lo by omega)
    omega
  · have := beg_mono ha hb h
    omega
  · refine Classical.byContradiction fun hn => ?_
    have := beg_mono ha hb (show hi + 1 ≤ m - 1 by omega)
    omega
theorem cycL_step {a f t lo hi m : Int} (ha : 1 ≤ a) (hb : a ≤ 28) (h0 : 0 ≤ f) (hft : f < t) (hlo : IsMo a f lo) (hhi : IsMo a (t - 1) hi) :
    cycL a lo (min hi (m - 1)) = if beg a m > beg a (m - 1) ∧ beg a (m - 1) < t ∧ f < beg a m then cycL a lo (min hi (m - 2)) ++ [(beg a (m - 1), beg a m)] else cycL a lo (min hi (m - 2)) := by
  obtain ⟨m1, m2, m3⟩ := @meets_iff a f t lo hi m ha hb h0 hlo hhi
  have hle := hlo.le ha hb hhi (by omega)
  by_cases h : lo ≤ m - 1 ∧ m - 1 ≤ hi
  · rw [if_pos ⟨m1 h, m3.1 h.2, m2.1 h.1⟩]
    rw [show min hi (m - 1) = m - 1 by omega, show min hi (m - 2) = m - 2 by omega]
    have := cycL_snoc (a := a) (lo := lo) (hi := m - 2) (by omega)
    rw [show m - 2 + 1 = m - 1 by omega] at this
    rw [this]
    unfold cyc
    rw [show m - 1 + 1 = m by omega]
  · rw [if_neg (fun hh => h ⟨m2.2 hh.2.2, m3.2 hh.2.1⟩)]
    by_cases h2 : lo ≤ m - 1
    · rw [show min hi (m - 1) = hi by omega, show min hi (m - 2) = hi by omega]
    · rw [cycL_nil (by omega), cycL_nil (by omega)]

set_option maxRecDepth 100000 in
set_option maxHeartbeats 6400000 in
theorem rcycles_calls (a f t lo hi : Int) (w : World) (ha : 1 ≤ a) (hb : a ≤ 28) (hv : validB f t = true) (hlo : IsMo a f lo) (hhi : IsMo a (t - 1) hi) :
    Calls Try.prog 37 #[.int .i64 a, .agg #[.int .i64 f, .int .i64 t]] w (PersTo w (cycL a lo hi)) := by
  obtain ⟨v0, v1, v2⟩ := (validB_iff f t).1 hv
  obtain ⟨W, hW⟩ : ∃ W, W = w.alloc (Obj.cells #[Value.int .i64 f, .int .i64 t] 26) := ⟨_, rfl⟩
  have hw0 : Below w.heap.size w W := by rw [hW]; go_grown
  have r0 : W.heap[w.heap.size]? = some (Obj.cells #[Value.int .i64 f, .int .i64 t] 26) := by rw [hW]; exact heap_alloc_new _ _
  have hz : w.heap.size < W.heap.size := by rw [hW]; simp
  have HC := Lib.hid (show ∀ X, Below W.heap.size W X → X.cell? ⟨w.heap.size, 0, none⟩ = some (.int .i64 f) ∧ X.cell? ⟨w.heap.size, 1, none⟩ = some (.int .i64 t) from fun X hb => by
    have q := (hb.block _ hz).trans r0
    exact ⟨cell_of_row X _ 0 _ _ _ q, cell_of_row X _ 1 _ _ _ q⟩)
  have HW := Lib.hid hW
  have Hw0 := Lib.hid hw0
  have HV := Lib.hid (r3valid_calls f t W)
  rw [hv] at HV
  have HLn := Lib.hid (fun y m w h h' h1 h2 => rlength_calls y m w h h' h1 h2)
  have HSt := Lib.hid (fun m => @cycL_step a f t lo hi m ha hb v0 v1 hlo hhi)
  have HL := Lib.hid (cycL_len a lo)
  have HD := Lib.hid (fun m h => dm_succ m h)
  have HDb := Lib.hid (fun m h h' => @dm_bd m h h')
  have HBm := Lib.hid (fun m h h' => @beg_mid a m h h')
  have HBh := Lib.hid (fun m h => @beg_high a m h)
  have HBb := Lib.hid (fun m => @beg_bd a m ha hb)
  have HN := Lib.hid (show cycL a lo (min hi (0 - 2)) = [] from cycL_nil (by have := hlo.1; omega))
  have HEnd := Lib.hid (show cycL a lo (min hi (4801 - 2)) = cycL a lo hi by rw [show min hi (4801 - 2) = hi by have := hhi.2.1; omega])
  have hl1 := hlo.1
  have h2 := hhi.2.1
  clear hW r0 hw0 hlo hhi hv
  obtain ⟨c0, c1⟩ := HC.out W (Below.refl _ _)
  go_enter Try.func37, Try.ntmps37
  go_upto_region 1 with (fail)
  rw [← HW.out]
  go_wp2_with fail
  refine HV.out.mono ?_
  rintro e w1 ⟨rfl, hb1⟩
  have Hb1 := Lib.hid hb1
  clear hb1 c0 c1
  go_wp2_with fail
  go_loopg [5, 6, 7, 8, 9] 4801 (fun g vo fr dy k _ wx => ∃ j : Int, 0 ≤ j ∧ j ≤ 4801 ∧ 4801 ≤ j + g ∧ k = .int .i64 j ∧ fr = .int .i64 (beg a (j - 1)) ∧ (j ≤ 4800 → dy = .int .i64 (dm j)) ∧ wx.ownsRow W.heap.size 26 2 vo (cycL a lo (min hi (j - 2))).length ((cycL a lo (min hi (j - 2))).flatMap perCells) ∧ Below W.heap.size W wx)
  case atStart => exact ⟨0, by omega, by omega, by omega, rfl, rfl, fun _ => rfl, by rw [HN.out]; exact World.ownsRow_nil _ _ _ _, Hb1.out⟩
  case round =>
    obtain ⟨wo, rfl⟩ : ∃ wo : World, wo = wr := ⟨_, rfl⟩
    obtain ⟨j, hj0, hj1, hjg, rfl, rfl, hdy, hown, hb⟩ := hrel
    obtain ⟨av, cp, rfl, hcp, hcm⟩ := own_shape hown
    obtain ⟨d0, d1⟩ := HC.out wo hb
    have Hown := Lib.hid hown
    have Hb := Lib.hid hb
    have Hlen := Lib.hid (HL.out (min hi (j - 2)))
    have HS1 := Lib.hid (HSt.out j)
    have hbp := HBb.out (j - 1)
    have HBpj := Lib.hid (show beg a (j + 1 - 1) = beg a j by rw [show j + 1 - 1 = j by omega])
    obtain ⟨L, hL⟩ : ∃ L, L = cycL a lo (min hi (j - 2)) := ⟨_, rfl⟩
    rw [← hL] at Hown Hlen HS1 ⊢
    obtain ⟨bp, hbpe⟩ : ∃ bp, bp = beg a (j - 1) := ⟨_, rfl⟩
    rw [← hbpe] at hbp HS1 ⊢
    have HLe := Lib.hid hL
    have hlenb : L.length ≤ 10000 := by rw [Hlen.out]; omega
    clear hown hb hL hbpe
    by_cases h48 : j ≤ 4800
    · cases gk with
      | zero => omega
      | succ gk =>
        obtain rfl := hdy h48
        by_cases h47 : j ≤ 4799
        · have HBj := Lib.hid (HBm.out j hj0 h47)
          have HDj := Lib.hid (HD.out j hj0)
          have hdb := HDb.out j hj0 h47
          have HLj := Lib.hid (HLn.out (2000 + j / 12) (j % 12 + 1) wo (by omega) (by omega) (by omega) (by omega))
          have hll := lenM_bd (2000 + j / 12) (j % 12 + 1)
          obtain ⟨d, hd⟩ : ∃ d, d = dm j := ⟨_, rfl⟩
          obtain ⟨ln, hln⟩ : ∃ ln, ln = lenM (2000 + j / 12) (j % 12 + 1) := ⟨_, rfl⟩
          rw [← hd] at HBj HDj hdb ⊢
          rw [← hln] at HDj HLj hll
          clear hd hln h48 hdy
          rw [HBj.out] at HS1
          have hd1 : 0 ≤ (d + a - 1) * 86400 := by omega
          have hd2 : (d + a - 1) * 86400 ≤ 12622780800 := by omega
          go_wp2_with fail
          refine HLj.out.mono ?_
          rintro e w2 ⟨rfl, rfl⟩
          go_upto_region 12 with (fail)
          by_cases hall : (d + a - 1) * 86400 > bp ∧ bp < t ∧ f < (d + a - 1) * 86400
          · have HS2 := Lib.hid (HS1.out.trans (if_pos hall))
            obtain ⟨g1, g2, g3⟩ := hall
            have k1 : decide (bp < (d + a - 1) * 86400) = true := decide_eq_true g1
            have k2 : decide (bp < t) = true := decide_eq_true g2
            have k3 : decide (f < (d + a - 1) * 86400) = true := decide_eq_true g3
            have hbs := Hb.out.size
            have HX := Lib.hid (RecAt.one (c := perCells) (sz := 2) wo (bp, (d + a - 1) * 86400) 26 #[.int .i64 bp, .int .i64 ((d + a - 1) * 86400)] rfl)
            go_wp2_with (at_builtin; refine append_prs rfl _ _ rfl W.heap.size ?hs1 _ _ L [(bp, (d + a - 1) * 86400)] rfl rfl (Hown.out.alloc _) HX.out ?hl1 ?_)
            case hs1 => simp; omega
            case hl1 => simp; omega
            intro R hR v4 w4 own4 hb4
            have Hb4 := Lib.hid ((Hb.out.alloc hbs (Obj.cells #[.int .i64 bp, .int .i64 ((d + a - 1) * 86400)] 26)).trans hb4)
            have Own4 := Lib.hid own4
            have HR := Lib.hid (hR.out.trans HS2.out.symm)
            clear own4 hb4 hR
            go_wp2
            go_roundg gk
            case measure => omega
            case rel => exact ⟨j + 1, by omega, by omega, by omega, by go_num, by rw [show (j : Int) + 1 - 1 = j by omega, HBj.out], fun _ => by rw [HDj.out], by rw [show (j : Int) + 1 - 2 = j - 1 by omega, ← HR.out]; exact Own4.out, Hb4.out⟩
          · have HS2 := Lib.hid (HS1.out.trans (if_neg hall))
            have Own4 := Hown
            have Hb4 := Hb
            have HR := Lib.hid HS2.out.symm
            have hor : (¬ bp < (d + a - 1) * 86400) ∨ (bp < (d + a - 1) * 86400 ∧ ¬ bp < t) ∨ (bp < (d + a - 1) * 86400 ∧ bp < t ∧ ¬ f < (d + a - 1) * 86400) := by
              by_cases q1 : bp < (d + a - 1) * 86400
              · by_cases q2 : bp < t
                · by_cases q3 : f < (d + a - 1) * 86400
                  · exact absurd ⟨q1, q2, q3⟩ hall
                  · exact Or.inr (Or.inr ⟨q1, q2, q3⟩)
                · exact Or.inr (Or.inl ⟨q1, q2⟩)
              · exact Or.inl q1
            clear hall
            rcases hor with q1 | ⟨q1, q2⟩ | ⟨q1, q2, q3⟩
            · have k1 : decide (bp < (d + a - 1) * 86400) = false := decide_eq_false q1
              go_wp2
              go_roundg gk
              case measure => omega
              case rel => exact ⟨j + 1, by omega, by omega, by omega, by go_num, by rw [show (j : Int) + 1 - 1 = j by omega, HBj.out], fun _ => by rw [HDj.out], by rw [show (j : Int) + 1 - 2 = j - 1 by omega, ← HR.out]; exact Own4.out, Hb4.out⟩
            · have k1 : decide (bp < (d + a - 1) * 86400) = true := decide_eq_true q1
              have k2 : decide (bp < t) = false := decide_eq_false q2
              go_wp2
              go_roundg gk
              case measure => omega
              case rel => exact ⟨j + 1, by omega, by omega, by omega, by go_num, by rw [show (j : Int) + 1 - 1 = j by omega, HBj.out], fun _ => by rw [HDj.out], by rw [show (j : Int) + 1 - 2 = j - 1 by omega, ← HR.out]; exact Own4.out, Hb4.out⟩
            · have k1 : decide (bp < (d + a - 1) * 86400) = true := decide_eq_true q1
              have k2 : decide (bp < t) = true := decide_eq_true q2
              have k3 : decide (f < (d + a - 1) * 86400) = false := decide_eq_false q3
              go_wp2
              go_roundg gk
              case measure => omega
              case rel => exact ⟨j + 1, by omega, by omega, by omega, by go_num, by rw [show (j : Int) + 1 - 1 = j by omega, HBj.out], fun _ => by rw [HDj.out], by rw [show (j : Int) + 1 - 2 = j - 1 by omega, ← HR.out]; exact Own4.out, Hb4.out⟩
        · obtain rfl : j = 4800 := by omega
          rw [HBh.out 4800 (by decide)] at HS1
          have HBj := Lib.hid (HBh.out 4800 (by decide))
          clear h48 hdy h47
          obtain ⟨d, hd⟩ : ∃ d, d = dm 4800 := ⟨_, rfl⟩
          rw [← hd]
          clear hd
          go_upto_region 12 with (fail)
          by_cases hall : 12622780800 > bp ∧ bp < t ∧ f < 12622780800
          · have HS2 := Lib.hid (HS1.out.trans (if_pos hall))
            obtain ⟨g1, g2, g3⟩ := hall
            have k1 : decide (bp < 12622780800) = true := decide_eq_true g1
            have k2 : decide (bp < t) = true := decide_eq_true g2
            have k3 : decide (f < 12622780800) = true := decide_eq_true g3
            have hbs := Hb.out.size
            have HX := Lib.hid (RecAt.one (c := perCells) (sz := 2) wo (bp, 12622780800) 26 #[.int .i64 bp, .int .i64 (12622780800)] rfl)
            go_wp2_with (at_builtin; refine append_prs rfl _ _ rfl W.heap.size ?hs1 _ _ L [(bp, 12622780800)] rfl rfl (Hown.out.alloc _) HX.out ?hl1 ?_)
            case hs1 => simp; omega
            case hl1 => simp; omega
            intro R hR v4 w4 own4 hb4
            have Hb4 := Lib.hid ((Hb.out.alloc hbs (Obj.cells #[.int .i64 bp, .int .i64 (12622780800)] 26)).trans hb4)
            have Own4 := Lib.hid own4
            have HR := Lib.hid (hR.out.trans HS2.out.symm)
            clear own4 hb4 hR
            go_wp2
            go_roundg gk
            case measure => omega
            case rel => exact ⟨4800 + 1, by omega, by omega, by omega, by go_num, by rw [show (4800 : Int) + 1 - 1 = 4800 by omega, HBj.out], fun h => absurd h (by decide), by rw [show (4800 : Int) + 1 - 2 = 4800 - 1 by omega, ← HR.out]; exact Own4.out, Hb4.out⟩
          · have HS2 := Lib.hid (HS1.out.trans (if_neg hall))
            have Own4 := Hown
            have Hb4 := Hb
            have HR := Lib.hid HS2.out.symm
            have hor : (¬ bp < 12622780800) ∨ (bp < 12622780800 ∧ ¬ bp < t) ∨ (bp < 12622780800 ∧ bp < t ∧ ¬ f < 12622780800) := by
              by_cases q1 : bp < 12622780800
              · by_cases q2 : bp < t
                · by_cases q3 : f < 12622780800
                  · exact absurd ⟨q1, q2, q3⟩ hall
                  · exact Or.inr (Or.inr ⟨q1, q2, q3⟩)
                · exact Or.inr (Or.inl ⟨q1, q2⟩)
              · exact Or.inl q1
            clear hall
            rcases hor with q1 | ⟨q1, q2⟩ | ⟨q1, q2, q3⟩
            · have k1 : decide (bp < 12622780800) = false := decide_eq_false q1
              go_wp2
              go_roundg gk
              case measure => omega
              case rel => exact ⟨4800 + 1, by omega, by omega, by omega, by go_num, by rw [show (4800 : Int) + 1 - 1 = 4800 by omega, HBj.out], fun h => absurd h (by decide), by rw [show (4800 : Int) + 1 - 2 = 4800 - 1 by omega, ← HR.out]; exact Own4.out, Hb4.out⟩
            · have k1 : decide (bp < 12622780800) = true := decide_eq_true q1
              have k2 : decide (bp < t) = false := decide_eq_false q2
              go_wp2
              go_roundg gk
              case measure => omega
              case rel => exact ⟨4800 + 1, by omega, by omega, by omega, by go_num, by rw [show (4800 : Int) + 1 - 1 = 4800 by omega, HBj.out], fun h => absurd h (by decide), by rw [show (4800 : Int) + 1 - 2 = 4800 - 1 by omega, ← HR.out]; exact Own4.out, Hb4.out⟩
            · exact absurd (show f < 12622780800 by omega) q3
    · obtain rfl : j = 4801 := by omega
      have HE := Lib.hid (show L = cycL a lo hi by rw [HLe.out, HEnd.out])
      clear h48 hdy
      go_wp2
      go_ret
      exact ⟨_, rfl, pers_of_rec (RecAt.own (fun _ => rfl) (by rw [← HE.out]; exact Hown.out)), Hw0.out.trans (Hb.out.mono Hw0.out.size)⟩
end Go.Proofs.Ytmilpaibkemmdaa
