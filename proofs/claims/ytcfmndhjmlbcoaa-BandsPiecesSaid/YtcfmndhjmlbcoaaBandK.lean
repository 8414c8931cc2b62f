/-
  The walks of the reference's at and At.
-/
import Derived.Test.YtcfmndhjmlbcoaaBandF
import Derived.Test.YtcfmndhjmlbcoaaBandE
namespace Go.Proofs.Ytcfmndhjmlbcoaa
open Go.RowKit

set_option maxRecDepth 100000 in
set_option maxHeartbeats 6400000 in
theorem rat_calls (v vh : Value) (l : List Bn) (hol : List Int) (t : Int) (w : World) (h : BnsAt w v l) (hh : IcsAt w vh hol) (hall : ∀ b ∈ l, b.2.all slotOk = true) (hne : 0 < l.length) (h0 : 0 ≤ t) (h1 : t < 12622780800) :
    Calls Try.prog 58 #[v, vh, .int .i64 t] w (StrTo (bandAt l hol t) w) := by
  have hB := h
  have Hb := Lib.hid (rbit_calls vh hol (t / 86400) w hh (by omega) (by omega))
  have HE0 := Lib.hid (show bandAt l hol t = findB (lastB l) (bitQ hol (t / 86400)) (t % 86400 / 60) l from rfl)
  have Hq8 := Lib.hid (bitQ_lt hol (t / 86400))
  obtain ⟨av, cap, rfl, hlc, hm, -⟩ := h
  obtain ⟨avh, caph, rfl, -, -, -⟩ := hh
  have hm := hm.1
  unfold maxLen at hm
  have HLast := Lib.hid (last_get l (by omega))
  have Hall := Lib.hid hall
  have ht1 : t.tdiv 86400 = t / 86400 := Int.tdiv_eq_ediv_of_nonneg h0
  have ht2 : t.tmod 86400 = t % 86400 := Int.tmod_eq_emod_of_nonneg h0
  have ht3 : (t % 86400).tdiv 60 = t % 86400 / 60 := Int.tdiv_eq_ediv_of_nonneg (by omega)
  have hw1 : IntKind.i64.wrap (t / 86400) = t / 86400 := IntWalk.i64_in _ (by omega)
  have hw2 : IntKind.i64.wrap (t % 86400) = t % 86400 := IntWalk.i64_in _ (by omega)
  have hw3 : IntKind.i64.wrap (t % 86400 / 60) = t % 86400 / 60 := IntWalk.i64_in _ (by omega)
  generalize bitQ hol (t / 86400) = q at *
  clear hall
  go_enter Try.func58, Try.ntmps58
  go_wp2_with fail
  refine Hb.out.mono ?_
  rintro e w1 ⟨rfl, hb1⟩
  go_wp2_with fail
  clear ht1 ht2 ht3 hw1 hw2 hw3
  generalize t % 86400 / 60 = m at *
  go_loopw [9] (fun i wr => ∃ k : Nat, k ≤ l.length ∧ i = .int .i64 k ∧ findB (lastB l) q m l = findB (lastB l) q m (l.drop k) ∧ Below w.heap.size w wr) (fun i _ => l.length - (intOf i).toNat)
  case atStart => exact ⟨0, Nat.zero_le _, rfl, rfl, hb1⟩
  case round =>
    obtain ⟨k, hk, rfl, hn, hb⟩ := hrel
    obtain ⟨wq, rfl⟩ : ∃ wq : World, wq = wr := ⟨_, rfl⟩
    have Hn := Lib.hid hn
    clear hn
    by_cases hlt : k < l.length
    · have Hst := Lib.hid (Hn.out.trans (findB_drop (lastB l) q m l k hlt))
      obtain ⟨av2, cap2, e2, -, -, hx⟩ := id hB
      cases e2
      obtain ⟨b, o, rfl, hBb, hx⟩ := hx (by rintro rfl; cases hlt)
      obtain ⟨⟨c0, s0⟩, sv, c1, hs⟩ := hx k hlt
      have Hc := Lib.hid (show ∀ w', Below w.heap.size w w' → w'.cell? ⟨b, o + k * 2, none⟩ = some (.string l[k].1) ∧ w'.cell? ⟨b, o + k * 2 + 1, none⟩ = some sv from fun w' h => ⟨(h.cell (p := ⟨b, _, none⟩) hBb).trans c0, (h.cell (p := ⟨b, _, none⟩) hBb).trans c1⟩)
      have hok := Hall.out l[k] (List.getElem_mem hlt)
      have hk0 : (0 : Int) ≤ (k : Int) := Int.natCast_nonneg _
      have hk1 : (k : Int) < (l.length : Int) := by omega
      clear hx c0 c1
      generalize l[k] = y at *
      obtain ⟨nm, ss⟩ := y
      dsimp only at hs hok Hst Hc
      have Hok := Lib.hid hok
      have hs0 := hs
      obtain ⟨asv, cs, rfl, hsc, hms, -⟩ := hs0
      have hms := hms.1
      unfold maxLen at hms
      clear hok
      go_wp2_with fail
      go_loopw [10] (fun i wr => ∃ j : Nat, j ≤ ss.length ∧ i = .int .i64 j ∧ (ss.take j).any (inSl q m) = false ∧ Below w.heap.size w wr) (fun i _ => ss.length - (intOf i).toNat)
      case atStart => exact ⟨0, Nat.zero_le _, rfl, rfl, hb⟩
      case round =>
        obtain ⟨j, hj, rfl, ha, hbi⟩ := hrel
        have Ha := Lib.hid ha
        clear ha
        obtain ⟨c0, c1⟩ := Hc.out wr hbi
        by_cases hlj : j < ss.length
        · obtain ⟨av3, cap3, e3, -, -, hx⟩ := hs.below hbi
          cases e3
          obtain ⟨b3, o3, rfl, hB3, hx⟩ := hx (by rintro rfl; cases hlj)
          obtain ⟨d0, d1, d2⟩ := hx j hlj
          have hj0 : (0 : Int) ≤ (j : Int) := Int.natCast_nonneg _
          have hj1 : (j : Int) < (ss.length : Int) := by omega
          have hsl := (List.all_eq_true.1 Hok.out) ss[j] (List.getElem_mem hlj)
          have HF := Lib.hid (fun h2 => any_take_false (p := inSl q m) hlj Ha.out h2)
          have HT := Lib.hid (fun h2 => any_hit (p := inSl q m) hlj h2)
          clear hx
          generalize ss[j] = z at *
          obtain ⟨d, f, u⟩ := z
          dsimp only at d0 d1 d2
          obtain ⟨g1, g2, -, -, -⟩ := slot_good hsl
          dsimp only at g1 g2
          have HR := Lib.hid (show inSl q m (d, f, u) = (decide (d / 2 ^ q % 2 = 1) && decide (f ≤ m ∧ m < u)) from rfl)
          obtain ⟨Y, hY⟩ : ∃ Y, Y = wr.alloc (Obj.cells #[Value.int .i64 d, .int .i64 f, .int .i64 u] 97) := ⟨_, rfl⟩
          have hbY : Below wr.heap.size wr Y := by rw [hY]; exact (Below.refl _ _).alloc (Nat.le_refl _) _
          have rY : Y.heap[wr.heap.size]? = some (Obj.cells #[Value.int .i64 d, .int .i64 f, .int .i64 u] 97) := by rw [hY]; exact heap_alloc_new _ _
          have y0 := cell_of_row Y _ 0 _ _ _ rY
          have y1 := cell_of_row Y _ 1 _ _ _ rY
          have y2 := cell_of_row Y _ 2 _ _ _ rY
          have HY := Lib.hid hY
          have HbY := Lib.hid (hbi.trans (hbY.mono hbi.size))
          clear hY rY hbY hsl
          obtain ⟨e0, e1⟩ := Hc.out Y HbY.out
          have hmin : min q 64 = q := Nat.min_eq_left (by have := Hq8.out; omega)
          have hdq : 0 ≤ d / 2 ^ q := Int.ediv_nonneg (by omega) (Int.le_of_lt (Int.pow_pos (by decide)))
          have htm : (d / 2 ^ min q 64).tmod 2 = d / 2 ^ q % 2 := by rw [hmin]; exact Int.tmod_eq_emod_of_nonneg hdq
          have Htm := Lib.hid htm
          clear hmin htm hdq
          by_cases hA : d / 2 ^ q % 2 = 1
          · have hA1 : (d / 2 ^ min q 64).tmod 2 = 1 := Htm.out.trans hA
            by_cases hf : f ≤ m
            · by_cases hu : m < u
              · have HE := Lib.hid (show bandAt l hol t = nm by rw [HE0.out, Hst.out, if_pos (HT.out (by rw [HR.out, decide_eq_true hA, decide_eq_true ⟨hf, hu⟩]; rfl))])
                clear hA
                go_upto_region 9 with (fail)
                rw [← HY.out]
                go_wp2
                go_ret
                exact ⟨ret_str HE.out.symm, HbY.out⟩
              · have HE := Lib.hid (HF.out (by rw [HR.out, decide_eq_false (show ¬ (f ≤ m ∧ m < u) from fun h => hu h.2)]; simp))
                clear hA
                go_upto_region 9 with (fail)
                rw [← HY.out]
                go_wp2
                exact ⟨⟨j + 1, by omega, by go_num, HE.out, HbY.out⟩, by simp [intOf]; omega⟩
            · have HE := Lib.hid (HF.out (by rw [HR.out, decide_eq_false (show ¬ (f ≤ m ∧ m < u) from fun h => hf h.1)]; simp))
              clear hA
              go_upto_region 9 with (fail)
              rw [← HY.out]
              go_wp2
              exact ⟨⟨j + 1, by omega, by go_num, HE.out, HbY.out⟩, by simp [intOf]; omega⟩
          · have hA1 : (d / 2 ^ min q 64).tmod 2 = 0 := Htm.out.trans (by omega)
            have HE := Lib.hid (HF.out (by rw [HR.out, decide_eq_false hA]; simp))
            clear hA
            go_upto_region 9 with (fail)
            rw [← HY.out]
            go_wp2
            exact ⟨⟨j + 1, by omega, by go_num, HE.out, HbY.out⟩, by simp [intOf]; omega⟩
        · have HE := Lib.hid (show findB (lastB l) q m l = findB (lastB l) q m (l.drop (k + 1)) by rw [Hst.out, any_end (by omega) Ha.out]; rfl)
          go_wp2
          exact ⟨⟨k + 1, by omega, by go_num, HE.out, hbi⟩, by simp [intOf]; omega⟩
    · have HE := Lib.hid (show bandAt l hol t = lastB l by rw [HE0.out, Hn.out, List.drop_eq_nil_of_le (by omega)]; rfl)
      obtain ⟨av2, cap2, e2, -, -, hx⟩ := hB.below hb
      cases e2
      obtain ⟨b, o, rfl, hBb, hx⟩ := hx (by rintro rfl; cases hne)
      obtain ⟨⟨c0, s0⟩, -⟩ := hx (l.length - 1) (by omega)
      rw [← HLast.out] at c0
      have hj5 : IntKind.i64.wrap ((l.length : Int) - 1) = (l.length : Int) - 1 := IntWalk.i64_in _ (by omega)
      have hj6 : ((l.length : Int) - 1).toNat = l.length - 1 := by omega
      have hj0 : (0 : Int) ≤ (l.length : Int) - 1 := by omega
      have hj1 : (l.length : Int) - 1 < (l.length : Int) := by omega
      clear hx
      go_wp2
      go_ret
      exact ⟨ret_str HE.out.symm, hb⟩

set_option maxRecDepth 100000 in
set_option maxHeartbeats 3200000 in
theorem rAt_calls (v vh : Value) (l : List Bn) (hol : List Int) (t : Int) (w : World) (h : BnsAt w v l) (hh : IcsAt w vh hol) :
    Calls Try.prog 20 #[v, vh, .int .i64 t] w (StrTo (atB l hol t) w) := by
  have HC := Lib.hid (rcheck_calls v l w h)
  have Hf := Lib.hid (fun w1 (hb : Below w.heap.size w w1) ha hn h0 h1 => rat_calls v vh l hol t w1 (h.below hb) (hh.below hb) ha hn h0 h1)
  obtain ⟨av, cap, rfl, -, -, -⟩ := h
  obtain ⟨avh, caph, rfl, -, -, -⟩ := hh
  by_cases hz : checkB l = 0
  · by_cases h0 : 0 ≤ t
    · by_cases h1 : t < 12622780800
      · have HE := Lib.hid (show atB l hol t = bandAt l hol t from if_pos ⟨hz, h0, h1⟩)
        obtain ⟨hn, -, hall, -⟩ := checkB_ok hz
        have Hf := Lib.hid (fun w1 hb => Hf.out w1 hb (fun b hb => (hall b hb).2.1) hn h0 h1)
        rw [hz] at HC
        clear hz hn hall
        go_enter Try.func20, Try.ntmps20
        go_wp2_with fail
        refine HC.out.mono ?_
        rintro e w1 ⟨rfl, hb1⟩
        go_wp2_with fail
        refine (Hf.out w1 hb1).mono ?_
        rintro e w3 ⟨rfl, hbx⟩
        have hb3 := hb1.trans (hbx.mono hb1.size)
        go_wp2
        go_ret
        exact ⟨ret_str HE.out.symm, hb3⟩
      · have HE := Lib.hid (show atB l hol t = { data := #[] } from if_neg (fun h => h1 h.2.2))
        rw [hz] at HC
        clear hz
        go_enter Try.func20, Try.ntmps20
        go_wp2_with fail
        refine HC.out.mono ?_
        rintro e w1 ⟨rfl, hb1⟩
        go_wp2
        go_ret
        exact ⟨ret_str HE.out.symm, hb1⟩
    · have HE := Lib.hid (show atB l hol t = { data := #[] } from if_neg (fun h => h0 h.2.1))
      rw [hz] at HC
      clear hz
      go_enter Try.func20, Try.ntmps20
      go_wp2_with fail
      refine HC.out.mono ?_
      rintro e w1 ⟨rfl, hb1⟩
      go_wp2
      go_ret
      exact ⟨ret_str HE.out.symm, hb1⟩
  · have HE := Lib.hid (show atB l hol t = { data := #[] } from if_neg (fun h => hz h.1))
    have hz2 : (checkB l != 0) = true := bne_iff_ne.2 hz
    clear hz
    go_enter Try.func20, Try.ntmps20
    go_wp2_with fail
    refine HC.out.mono ?_
    rintro e w1 ⟨rfl, hb1⟩
    go_wp2
    go_ret
    exact ⟨ret_str HE.out.symm, hb1⟩
end Go.Proofs.Ytcfmndhjmlbcoaa
