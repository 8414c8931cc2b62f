/-
  The body of AgreementParts.
-/
import Derived.Test.YtmijdmchhlcblaaParts50
import Derived.Test.YtmijdmchhlcblaaLaw50a
import Derived.Test.YtmijdmchhlcblaaOpenAg
import Derived.Deep.RegionHeld3
namespace Go.Proofs.Ytmijdmchhlcblaa
open Go.RowKit

set_option maxRecDepth 100000 in
set_option maxHeartbeats 6400000 in
theorem parts50_law (hA : Alive50) (a : Ag) (v v2 : Value) (ps : List Int) (w : World) (h : StepsAt w v a.st) (h2 : IntsAt w v2 ps) :
    Calls Try.prog 11 #[agVal a v, v2] w fun e w' => e = .returned (.bool true) ∧ Below w.heap.size w w' := by
  have hv := h
  have hv2 := h2
  obtain ⟨av, cap, rfl, hm, -⟩ := h
  obtain ⟨av2, cap2, rfl, hlc2, hm2, -⟩ := h2
  have hm2 := hm2.1
  unfold maxLen at hm hm2
  obtain ⟨W, hW⟩ : ∃ W, W = w.alloc (Obj.cells #[.int .i64 a.pa, .int .i64 a.kd, .bool a.ib, .int .i64 a.fr, .int .i64 a.tt, .slice av a.st.length cap, .int .i64 a.cap] 55) := ⟨_, rfl⟩
  have hw0 : Below w.heap.size w W := by rw [hW]; go_grown
  have r2 : W.heap[w.heap.size]? = some (Obj.cells #[.int .i64 a.pa, .int .i64 a.kd, .bool a.ib, .int .i64 a.fr, .int .i64 a.tt, .slice av a.st.length cap, .int .i64 a.cap] 55) := by rw [hW]; exact heap_alloc_new _ _
  have hz2 : w.heap.size < W.heap.size := by rw [hW]; simp
  have Hr := Lib.hid r2
  have HW := Lib.hid hW
  have HA := Lib.hid hA
  have Hs := Lib.hid (hv.below hw0)
  have Hi := Lib.hid (hv2.below hw0)
  clear hW r2 hA hv hv2
  unfold agVal
  by_cases h8 : 8 < a.st.length
  · have h9 : decide (8 < (a.st.length : Int)) = true := decide_eq_true (by omega)
    clear Hs Hr Hi
    go_enter Try.func11, Try.ntmps11
    go_wp2_with fail
    rw [← HW.out]
    refine (HA.out _).mono ?_
    rintro e w9 ⟨rfl, hb9⟩
    go_wp2
    go_ret
    exact ⟨rfl, hw0.trans (hb9.mono hw0.size)⟩
  · have h9 : decide (8 < (a.st.length : Int)) = false := decide_eq_false (by omega)
    by_cases h20 : 20 < ps.length
    · have h21 : decide (20 < (ps.length : Int)) = true := decide_eq_true (by omega)
      clear Hs Hr Hi
      go_enter Try.func11, Try.ntmps11
      go_wp2_with fail
      rw [← HW.out]
      refine (HA.out _).mono ?_
      rintro e w9 ⟨rfl, hb9⟩
      go_wp2
      go_ret
      exact ⟨rfl, hw0.trans (hb9.mono hw0.size)⟩
    · have h21 : decide (20 < (ps.length : Int)) = false := decide_eq_false (by omega)
      have hp20 : ps.length ≤ 20 := by omega
      have Hpr := Lib.hid (fun m n w1 (hb : Below W.heap.size W w1) => agprice_calls a _ m n w1 (Hs.out.below hb))
      unfold agVal priceTup at Hpr
      go_enter Try.func11, Try.ntmps11
      go_wp2_with fail
      rw [← HW.out]
      go_loop [5, 6] (fun s i => ∃ k : Nat, k ≤ ps.length ∧ i = .int .i64 k ∧ s = .int .i64 (ps.take k).sum ∧ ∀ j (hj : j < (ps.take k).length), 0 ≤ (ps.take k)[j] ∧ (ps.take k)[j] ≤ 1099511627776) (fun _ i => ps.length - (intOf i).toNat)
      case atStart => exact ⟨0, Nat.zero_le _, rfl, rfl, by simp⟩
      case round =>
        obtain ⟨k, hk, rfl, rfl, hgood⟩ := hrel
        have hsb := sum_bd _ hgood
        have hlk : (ps.take k).length ≤ 20 := by rw [List.length_take]; omega
        have hs0 : 0 ≤ (ps.take k).sum := hsb.1
        have hs1 : (ps.take k).sum ≤ 21990232555520 := by have := hsb.2; omega
        have Hgood := Lib.hid hgood
        clear hgood hsb
        by_cases hlt : k < ps.length
        · obtain ⟨av', cap', e, -, -, hx⟩ := Hi.out
          cases e
          obtain ⟨b, o, rfl, hB, hx⟩ := hx (by rintro rfl; cases hlt)
          obtain ⟨c0, -⟩ := hx k hlt
          rw [Nat.mul_one] at c0
          have hsn := sum_snoc ps k hlt
          have hg2 : (0 ≤ ps[k] ∧ ps[k] ≤ 1099511627776) → ∀ j (hj : j < (ps.take (k + 1)).length), 0 ≤ (ps.take (k + 1))[j] ∧ (ps.take (k + 1))[j] ≤ 1099511627776 := fun h j hj => by
            rw [List.length_take] at hj
            rw [List.getElem_take]
            by_cases e : j = k
            · subst e; exact h
            · have := Hgood.out j (by rw [List.length_take]; omega)
              rwa [List.getElem_take] at this
          have hk0 : (0 : Int) ≤ (k : Int) := Int.natCast_nonneg _
          have hk1 : (k : Int) < (ps.length : Int) := by omega
          have Hg2 := Lib.hid hg2
          have Hsn := Lib.hid hsn
          clear hx hsn hg2
          generalize ps[k] = x at *
          by_cases hx0 : x < 0
          · have k1 : decide (x < 0) = true := decide_eq_true hx0
            go_wp2_with fail
            refine (HA.out _).mono ?_
            rintro e w9 ⟨rfl, hb9⟩
            go_wp2
            go_ret
            exact ⟨rfl, hw0.trans (hb9.mono hw0.size)⟩
          · have k1 : decide (x < 0) = false := decide_eq_false hx0
            by_cases hx1 : 1099511627776 < x
            · have k2 : decide (1099511627776 < x) = true := decide_eq_true hx1
              go_wp2_with fail
              refine (HA.out _).mono ?_
              rintro e w9 ⟨rfl, hb9⟩
              go_wp2
              go_ret
              exact ⟨rfl, hw0.trans (hb9.mono hw0.size)⟩
            · have k2 : decide (1099511627776 < x) = false := decide_eq_false hx1
              have HG := Lib.hid (Hg2.out ⟨by omega, by omega⟩)
              generalize hsum : (ps.take k).sum = sm at *
              go_wp2
              go_round
              case rel => exact ⟨k + 1, by omega, by go_num, by rw [Hsn.out], HG.out⟩
              case measure => simp [intOf]; omega
        · have hall : ps.take k = ps := List.take_of_length_le (by omega)
          rw [hall] at hs0 hs1 ⊢
          have Hgd := Lib.hid (show ∀ j (hj : j < ps.length), 0 ≤ ps[j] ∧ ps[j] ≤ 1099511627776 from fun j hj => by
            have := Hgood.out j (by rw [hall]; exact hj)
            simp only [hall] at this
            exact this)
          have Hle := Lib.hid (fun k => sum_le ps Hgd.out k)
          clear Hgood hlk hall
          generalize hall2 : ps.sum = all at *
          have Hall := Lib.hid hall2
          clear hall2
          have m := Hr.out
          have g0 : W.cell? ⟨w.heap.size, 0, none⟩ = some (.int .i64 a.pa) := cell_of_row W _ 0 _ _ _ m
          have g1 : W.cell? ⟨w.heap.size, 1, none⟩ = some (.int .i64 a.kd) := cell_of_row W _ 1 _ _ _ m
          have g2 : W.cell? ⟨w.heap.size, 2, none⟩ = some (.bool a.ib) := cell_of_row W _ 2 _ _ _ m
          have g3 : W.cell? ⟨w.heap.size, 3, none⟩ = some (.int .i64 a.fr) := cell_of_row W _ 3 _ _ _ m
          have g4 : W.cell? ⟨w.heap.size, 4, none⟩ = some (.int .i64 a.tt) := cell_of_row W _ 4 _ _ _ m
          have g5 : W.cell? ⟨w.heap.size, 5, none⟩ = some (.slice av a.st.length cap) := cell_of_row W _ 5 _ _ _ m
          have g6 : W.cell? ⟨w.heap.size, 6, none⟩ = some (.int .i64 a.cap) := cell_of_row W _ 6 _ _ _ m
          clear m
          have Hp := Lib.hid (Hpr.out 0 all W (Below.refl _ _))
          by_cases hez : (agPriceL a 0 all).2 = 0
          · have hok := ag_ok hez
            have hpv := hok.price (m := 0) (p := all) (Int.le_refl _) hok.n0 (by omega)
            rw [Int.zero_add, hok.zero, Int.sub_zero] at hpv
            rw [hpv] at Hp
            have hbd := hok.bd hok.n0 (Int.le_refl _)
            have Hok := Lib.hid hok
            have hn1 := hok.n1
            have HT0 := Lib.hid (show tv a 0 = 0 from hok.zero)
            clear hez hpv hok
            dsimp only at Hp
            go_wp2_with fail
            refine Hp.out.mono ?_
            rintro e w1 ⟨rfl, hb1⟩
            clear g0 g1 g2 g3 g4 g5 g6
            go_wp2_with fail
            go_loopw [9, 10, 11] (fun s bf i wr => ∃ k : Nat, k ≤ ps.length ∧ i = .int .i64 k ∧ bf = .int .i64 (ps.take k).sum ∧ s = .int .i64 (tv a (ps.take k).sum) ∧ Below W.heap.size W wr) (fun _ _ i _ => ps.length - (intOf i).toNat)
            case atStart => exact ⟨0, Nat.zero_le _, rfl, rfl, by simp [HT0.out], hb1⟩
            case round =>
              obtain ⟨j, hj, rfl, rfl, rfl, hbr⟩ := hrel
              have hb0 : 0 ≤ (ps.take j).sum := (sum_bd _ fun i hi => by
                rw [List.getElem_take]; exact Hgd.out i (by rw [List.length_take] at hi; omega)).1
              have hbl := Hle.out j
              have htb := Hok.out.bd hb0 hbl
              by_cases hlj : j < ps.length
              · obtain ⟨av', cap', e, -, -, hx⟩ := Hi.out.below hbr
                cases e
                obtain ⟨b, o, rfl, hB, hx⟩ := hx (by rintro rfl; cases hlj)
                obtain ⟨c0, -⟩ := hx j hlj
                rw [Nat.mul_one] at c0
                have hsn := sum_snoc ps j hlj
                have hbl2 := Hle.out (j + 1)
                rw [hsn] at hbl2
                obtain ⟨hx0, hx1⟩ := Hgd.out j hlj
                have Hsn := Lib.hid hsn
                clear hsn hx
                generalize ps[j] = x at *
                generalize (ps.take j).sum = bf at *
                have hpv := Hok.out.price hb0 hx0 hbl2
                have hmo := Hok.out.mono (show bf ≤ bf + x by omega)
                have htb2 := Hok.out.bd (show 0 ≤ bf + x by omega) hbl2
                have Hp2 := Lib.hid (fun w1 hb => Hpr.out bf x w1 hb)
                rw [hpv] at Hp2
                dsimp only at Hp2
                have C0 := Lib.hid c0
                have Mk := Lib.hid (show ∀ w' : World, Below wr.heap.size wr w' → Below wr.heap.size wr w' ∧ w'.cell? ⟨w.heap.size, 0, none⟩ = some (.int .i64 a.pa) ∧ w'.cell? ⟨w.heap.size, 1, none⟩ = some (.int .i64 a.kd) ∧ w'.cell? ⟨w.heap.size, 2, none⟩ = some (.bool a.ib) ∧ w'.cell? ⟨w.heap.size, 3, none⟩ = some (.int .i64 a.fr) ∧ w'.cell? ⟨w.heap.size, 4, none⟩ = some (.int .i64 a.tt) ∧ w'.cell? ⟨w.heap.size, 5, none⟩ = some (.slice av a.st.length cap) ∧ w'.cell? ⟨w.heap.size, 6, none⟩ = some (.int .i64 a.cap) ∧ w'.cell? ⟨b, o + j, none⟩ = some (.int .i64 x) from fun w' hb => by
                  have m := ((hbr.trans (hb.mono hbr.size)).block _ hz2).trans Hr.out
                  exact ⟨hb, cell_of_row w' _ 0 _ _ _ m, cell_of_row w' _ 1 _ _ _ m, cell_of_row w' _ 2 _ _ _ m, cell_of_row w' _ 3 _ _ _ m, cell_of_row w' _ 4 _ _ _ m, cell_of_row w' _ 5 _ _ _ m, cell_of_row w' _ 6 _ _ _ m, (hb.cell (p := ⟨b, o + j, none⟩) hB).trans C0.out⟩)
                have hj0 : (0 : Int) ≤ (j : Int) := Int.natCast_nonneg _
                have hj1 : (j : Int) < (ps.length : Int) := by omega
                clear hpv
                generalize htx : tv a (bf + x) = tx at *
                generalize htb0 : tv a bf = t0 at *
                have Htx := Lib.hid htx
                clear htx htb0
                have kx : decide (tx - t0 < 0) = false := decide_eq_false (by omega)
                go_wp2_with fail
                go_region_held3 (fun w' : World => Below wr.heap.size wr w' ∧ w'.cell? ⟨w.heap.size, 0, none⟩ = some (.int .i64 a.pa) ∧ w'.cell? ⟨w.heap.size, 1, none⟩ = some (.int .i64 a.kd) ∧ w'.cell? ⟨w.heap.size, 2, none⟩ = some (.bool a.ib) ∧ w'.cell? ⟨w.heap.size, 3, none⟩ = some (.int .i64 a.fr) ∧ w'.cell? ⟨w.heap.size, 4, none⟩ = some (.int .i64 a.tt) ∧ w'.cell? ⟨w.heap.size, 5, none⟩ = some (.slice av a.st.length cap) ∧ w'.cell? ⟨w.heap.size, 6, none⟩ = some (.int .i64 a.cap) ∧ w'.cell? ⟨b, o + j, none⟩ = some (.int .i64 x))
                  (first
                    | exact Mk.out _ (by assumption)
                    | exact Mk.out _ (Below.refl _ _).drew)
                  (first
                    | (go_at_call 35
                       refine (Hp2.out _ (hbr.trans (Below.mono (And.left (by assumption)) hbr.size))).mono ?_
                       rintro e w4 ⟨rfl, hb4⟩
                       have hY4 : Below wr.heap.size wr w4 := Below.trans (And.left (by assumption)) (hb4.mono (Below.size (And.left (by assumption))))
                       clear hb4))
                have hbY := hbr.trans (hY4.mono hbr.size)
                have c1 := (hY4.cell (p := ⟨b, o + j, none⟩) hB).trans C0.out
                clear Mk Hp2 c0
                go_wp2
                exact ⟨⟨j + 1, by omega, by go_num, by rw [Hsn.out], by rw [Hsn.out, Htx.out]; go_num, hbY⟩, by simp [intOf]; omega⟩
              · have hall3 : ps.take j = ps := List.take_of_length_le (by omega)
                rw [hall3, Hall.out]
                have m6 : wr.cell? ⟨w.heap.size, 6, none⟩ = some (.int .i64 a.cap) := cell_of_row wr _ 6 _ _ _ ((hbr.block _ hz2).trans Hr.out)
                clear hall3 htb hb0 hbl
                by_cases hc : a.cap = 0
                · have hcn : (a.cap == 0) = true := by rw [hc]; rfl
                  clear hc
                  generalize tv a all = ta at *
                  go_wp2_with fail
                  refine (HA.out _).mono ?_
                  rintro e w9 ⟨rfl, hb9⟩
                  have hb10 := hbr.trans (hb9.mono hbr.size)
                  go_wp2
                  go_ret
                  exact ⟨rfl, hw0.trans (hb10.mono hw0.size)⟩
                · have hcn : (a.cap == 0) = false := beq_eq_false_iff_ne.2 hc
                  have hcl := Hok.out.capped hc
                  clear hc
                  generalize tv a all = ta at *
                  have hcd : decide (ta ≤ a.cap) = true := decide_eq_true hcl
                  go_wp2_with fail
                  refine (HA.out _).mono ?_
                  rintro e w9 ⟨rfl, hb9⟩
                  have hb10 := hbr.trans (hb9.mono hbr.size)
                  go_wp2
                  go_ret
                  exact ⟨rfl, hw0.trans (hb10.mono hw0.size)⟩
          · have hz := ag_err hez
            generalize agPriceL a 0 all = p at *
            obtain ⟨x, y⟩ := p
            dsimp only at hez hz Hp
            subst hz
            have hyn : (y != 0) = true := by rw [bne_iff_ne]; exact hez
            clear hez
            go_wp2_with fail
            refine Hp.out.mono ?_
            rintro e w1 ⟨rfl, hb1⟩
            go_wp2_with fail
            refine (HA.out _).mono ?_
            rintro e w9 ⟨rfl, hb9⟩
            have hb10 := hb1.trans (hb9.mono hb1.size)
            go_wp2
            go_ret
            exact ⟨rfl, hw0.trans (hb10.mono hw0.size)⟩
end Go.Proofs.Ytmijdmchhlcblaa
