/-
  The walk of the reference's Price.
  The walk of ladder.Price.
-/
import Derived.Test.YtohmdohbmmbbkaaDoorMgan
import Derived.Test.YtohmdohbmmbbkaaDoorMgat
import Derived.Deep.RegionHeld3
import Derived.StillTailTactics
namespace Go.Proofs.YtohmdohbmmbbkaaDoor
open Go.RowKit

/-- The price and the error, as two values. -/
def priceTup (x : Int × Int) : Value := .tuple #[.int .i64 x.1, .int .i64 x.2]

theorem tup_eq {a b : Int} {x : Int × Int} (h : x = (a, b)) : Ending.returned (.tuple #[.int .i64 a, .int .i64 b]) = Ending.returned (priceTup x) := by
  subst h; rfl

theorem keep_st {w W w3 : World} {b o : Nat} {s : St} (h1 : Below w.heap.size w W) (h2 : Below W.heap.size W w3) (hB : b < w.heap.size) (c : StCells W b o s) :
    Below w.heap.size w w3 ∧ w3.cell? ⟨b, o, none⟩ = some (.int .i64 s.u) ∧ w3.cell? ⟨b, o + 1, none⟩ = some (.int .i64 s.q) ∧ w3.cell? ⟨b, o + 2, none⟩ = some (.int .i64 s.p) :=
  ⟨h1.trans (h2.mono h1.size), c.below h2 (Nat.lt_of_lt_of_le hB h1.size)⟩

set_option maxRecDepth 100000 in
set_option maxHeartbeats 800000 in
theorem rprice_loop (b o cap : Nat) (l : List St) (n : Int) (w : World) (hok : errL l = 0) (hn0 : 0 ≤ n) (hn1 : n ≤ 1099511627776) (hB : b < w.heap.size) (hs : ∀ i (h : i < l.length), StCells w b (o + i * 3) l[i]) :
    Calls Tryd.prog 69 #[.slice (some ⟨b, o, none⟩) l.length cap, .int .i64 n] w fun e w' => e = .returned (priceTup (priceL l n)) ∧ Below w.heap.size w w' := by
  obtain ⟨hl1, hl2, hF⟩ := errL_ok hok
  have hat : StepsAt w (.slice (some ⟨b, o, none⟩) l.length cap) l := ⟨_, cap, rfl, by unfold maxLen; omega, fun _ => ⟨b, o, rfl, hB, hs⟩⟩
  have hc0 := rsteps_calls _ l w hat
  rw [hok] at hc0
  have Hc := Lib.hid hc0
  have HP := Lib.hid (show priceL l n = if 1125899906842624 < tot l n then (0, 6) else (tot l n, 0) by rw [priceL, if_neg (not_not_intro hok), if_neg (by omega)])
  have hT := tot_nonneg hok n
  have Ht := Lib.hid (show tot l n = totF l 0 n from rfl)
  have HF := Lib.hid hF
  clear hok hF hc0 hat
  generalize tot l n = T at *
  go_enter Tryd.func69, Tryd.ntmps69
  go_wp2_with fail
  refine Hc.out.mono ?_
  rintro e w1 ⟨rfl, hb1⟩
  have hz1 := hb1.size
  go_wp2
  go_loopw [6, 7, 8] (fun sv fv i wr => ∃ (k : Nat) (S : Int), k ≤ l.length ∧ i = .int .i64 k ∧ sv = .int .i64 (capA S) ∧ fv = .int .i64 (lastU l k) ∧ 0 ≤ S ∧ OkF (l.drop k) (lastU l k) ∧ T = S + totF (l.drop k) (lastU l k) n
    ∧ 0 ≤ lastU l k ∧ lastU l k ≤ 1099511627776 ∧ Below w.heap.size w wr) (fun _ _ i _ => l.length - (intOf i).toNat)
  case atStart => exact ⟨0, 0, Nat.zero_le _, rfl, rfl, rfl, Int.le_refl _, HF.out, by rw [Ht.out, lastU_zero]; simp, by rw [lastU_zero]; omega, by rw [lastU_zero]; omega, hb1⟩
  case round =>
    obtain ⟨k, S, hk, rfl, rfl, rfl, hS0, hO, hTS, hbd0, hbd1, hb⟩ := hrel
    by_cases hlt : k < l.length
    · obtain ⟨c0, c1, c2⟩ := (hs k hlt).below hb hB
      rw [drop_cons l k hlt] at hO hTS
      have Hlu := Lib.hid (lastU_succ l k hlt)
      have hs0 := Lib.hid hs
      clear hs
      generalize hx : l[k] = s at *
      clear hx
      generalize lastU l k = bd at *
      obtain ⟨hso, hu0, hu1, hO'⟩ := hO.cons
      have HO' := Lib.hid hO'
      have hz := hb.size
      have hz2 : b < wr.heap.size := by omega
      have HTS := Lib.hid hTS
      have Hso := Lib.hid hso
      obtain ⟨a1, a2, a3, a4, a5, a6⟩ := hso
      have hin := inS_nonneg s bd n
      have hin2 : inS s bd n ≤ 1099511627776 := by unfold inS; split <;> omega
      have hcs := costS_nonneg Hso.out hin
      have hcb := capA_bd hcs
      have hSb := capA_bd hS0
      have hsum := Lib.hid (show T = S + costS s (inS s bd n) + totF (l.drop (k + 1)) s.u n by rw [hTS, totF]; omega)
      clear hO hO' hTS hu0 hu1 hb1
      generalize hX : inS s bd n = X at *
      have HX := Lib.hid hX
      clear hX
      generalize hY : costS s X = Y at *
      have HY := Lib.hid hY
      clear hY
      generalize hZ : capA Y = Z at *
      have HZ := Lib.hid hZ
      clear hZ
      generalize hV : capA S = V at *
      have HV := Lib.hid hV
      clear hV
      have HW := Lib.hid (show IntKind.i64.wrap (V + Z) = V + Z from IntWalk.i64_in _ (by omega))
      have HM := Lib.hid (show (if 1125899906842625 < V + Z then 1125899906842625 else V + Z) = capA (S + Y) by
        rw [← HV.out, ← HZ.out, ← capA_add hS0 hcs]; omega)
      go_wp2_with fail
      go_region_held3 (fun w' => Below w.heap.size w w' ∧ w'.cell? ⟨b, o + k * 3, none⟩ = some (.int .i64 s.u) ∧ w'.cell? ⟨b, o + k * 3 + 1, none⟩ = some (.int .i64 s.q) ∧ w'.cell? ⟨b, o + k * 3 + 2, none⟩ = some (.int .i64 s.p))
        (first | exact ⟨hb.drew, c0, c1, c2⟩ | exact hk4 | exact hk3)
        (first | (go_at_call 88; refine (inStep_calls s bd n _ a1 a2 hbd0 hbd1 hn0 hn1).mono ?_; rintro e w3 ⟨rfl, hb3⟩; rw [HX.out]; have hk3 := keep_st hb.drew hb3 hB ⟨c0, c1, c2⟩; clear hb3) | (go_at_call 87; refine (cost_calls s X _ Hso.out hin hin2).mono ?_; rintro e w4 ⟨rfl, hb4⟩; rw [HY.out, HZ.out]; have hk4 := keep_st hk3.1 hb4 hB hk3.2; clear hb4))
      obtain ⟨hb6, d0, d1, d2⟩ := hk4
      simp only [HW.out, HM.out]
      clear hk3
      go_wp2
      refine ⟨⟨k + 1, S + Y, by omega, by go_num, rfl, by rw [Hlu.out], by omega, by rw [Hlu.out]; exact HO'.out, by rw [Hlu.out]; exact hsum.out, by rw [Hlu.out]; exact a1, by rw [Hlu.out]; exact a2, hb6⟩, by simp [intOf]; omega⟩
    · have hd : l.drop k = [] := List.drop_of_length_le (by omega)
      rw [hd] at hTS
      have HT := Lib.hid (show S = T by rw [hTS]; simp [totF])
      clear hTS hO hd hT hs
      by_cases hm : 1125899906842624 < S
      · have HV := Lib.hid (show capA S = 1125899906842625 from if_pos hm)
        simp only [HV.out]
        have HR := Lib.hid (show priceL l n = (0, 6) by rw [HP.out, if_pos (by rw [← HT.out]; exact hm)])
        clear hm
        go_wp2
        go_ret2
        exact ⟨tup_eq HR.out, hb⟩
      · have HV := Lib.hid (show capA S = S from if_neg hm)
        simp only [HV.out]
        have HR := Lib.hid (show priceL l n = (S, 0) by rw [HP.out, if_neg (by rw [← HT.out]; exact hm), HT.out])
        go_wp2
        go_ret2
        exact ⟨tup_eq HR.out, hb⟩

set_option maxHeartbeats 400000 in
theorem rprice_bad (v : Value) (l : List St) (n : Int) (w : World) (h : StepsAt w v l) (hok : errL l ≠ 0) :
    Calls Tryd.prog 69 #[v, .int .i64 n] w fun e w' => e = .returned (priceTup (priceL l n)) ∧ Below w.heap.size w w' := by
  have Hc := Lib.hid (rsteps_calls _ l w h)
  have HP := Lib.hid (show priceL l n = (0, 8) by rw [priceL, if_pos hok])
  have hb : (errL l != 0) = true := by rw [bne_iff_ne]; exact hok
  clear hok
  obtain ⟨av, cap, rfl, hm, hc⟩ := h
  clear hc hm
  go_enter Tryd.func69, Tryd.ntmps69
  go_wp2_with fail
  refine Hc.out.mono ?_
  rintro e w1 ⟨rfl, hb1⟩
  go_wp2
  go_ret2
  exact ⟨tup_eq HP.out, hb1⟩

set_option maxHeartbeats 400000 in
theorem rprice_range (v : Value) (l : List St) (n : Int) (w : World) (h : StepsAt w v l) (hok : errL l = 0) (hn : n < 0 ∨ 1099511627776 < n) :
    Calls Tryd.prog 69 #[v, .int .i64 n] w fun e w' => e = .returned (priceTup (priceL l n)) ∧ Below w.heap.size w w' := by
  have hc0 := rsteps_calls _ l w h
  rw [hok] at hc0
  have Hc := Lib.hid hc0
  have HP := Lib.hid (show priceL l n = (0, 6) by rw [priceL, if_neg (not_not_intro hok), if_pos hn])
  clear hok hc0
  obtain ⟨av, cap, rfl, hm, hc⟩ := h
  clear hc hm
  have hcase : n < 0 ∨ (0 ≤ n ∧ 1099511627776 < n) := by omega
  clear hn
  rcases hcase with hn | hn
  all_goals
    go_enter Tryd.func69, Tryd.ntmps69
    go_wp2_with fail
    refine Hc.out.mono ?_
    rintro e w1 ⟨rfl, hb1⟩
    go_wp2
    go_ret2
    exact ⟨tup_eq HP.out, hb1⟩

/-- The reference's Price. -/
theorem rprice_calls (v : Value) (l : List St) (n : Int) (w : World) (h : StepsAt w v l) :
    Calls Tryd.prog 69 #[v, .int .i64 n] w fun e w' => e = .returned (priceTup (priceL l n)) ∧ Below w.heap.size w w' := by
  by_cases hok : errL l = 0
  · by_cases hn : n < 0 ∨ 1099511627776 < n
    · exact rprice_range v l n w h hok hn
    · obtain ⟨av, cap, rfl, hm, hc⟩ := h
      obtain ⟨b, o, rfl, hB, hs⟩ := hc (by rintro rfl; cases hok)
      exact rprice_loop b o cap l n w hok (by omega) (by omega) hB hs
  · exact rprice_bad v l n w h hok
end Go.Proofs.YtohmdohbmmbbkaaDoor

namespace Go.Proofs.YtohmdohbmmbbkaaDoor
open Go.RowKit

theorem errB {l : List St} (hok : errL l ≠ 0) : (errL l != 0) = true := by rw [bne_iff_ne]; exact hok

set_option maxHeartbeats 400000 in
theorem price_pub (v : Value) (l : List St) (n : Int) (w : World) (h : StepsAt w v l) :
    Calls Tryd.prog 65 #[v, .int .i64 n] w fun e w' => e = .returned (priceTup (priceL l n)) ∧ Below w.heap.size w w' := by
  have hc0 := steps_calls _ l w h
  by_cases hok : errL l = 0
  · rw [hok] at hc0
    have Hc := Lib.hid hc0
    have hT := tot_nonneg hok n
    by_cases hn : n < 0 ∨ 1099511627776 < n
    · have HP := Lib.hid (show priceL l n = (0, 6) by rw [priceL, if_neg (not_not_intro hok), if_pos hn])
      clear hok hc0 hT
      obtain ⟨av, cap, rfl, hm, hc⟩ := h
      clear hc hm
      have hcase : n < 0 ∨ (0 ≤ n ∧ 1099511627776 < n) := by omega
      clear hn
      rcases hcase with hn | hn
      all_goals
        go_enter Tryd.func65, Tryd.ntmps65
        go_wp2_with fail
        refine Hc.out.mono ?_
        rintro e w1 ⟨rfl, hb1⟩
        go_wp2
        go_ret2
        exact ⟨tup_eq HP.out, hb1⟩
    · have hn0 : 0 ≤ n := by omega
      have hn1 : n ≤ 1099511627776 := by omega
      have Hp := Lib.hid (fun w1 (hb1 : Below w.heap.size w w1) => price_calls v l n w1 (h.below hb1) hok hn0 hn1)
      by_cases hm : 1125899906842624 < tot l n
      · have HP := Lib.hid (show priceL l n = (0, 6) by rw [priceL, if_neg (not_not_intro hok), if_neg hn, if_pos hm])
        have HV := Lib.hid (show priceV (tot l n) = .tuple #[.int .i64 0, .bool false] by unfold priceV; rw [if_pos hm, decide_eq_false (by omega)])
        clear hok hc0 hT hm hn
        obtain ⟨av, cap, rfl, hm, hc⟩ := h
        clear hc hm
        go_enter Tryd.func65, Tryd.ntmps65
        go_wp2_with fail
        refine Hc.out.mono ?_
        rintro e w1 ⟨rfl, hb1⟩
        go_wp2_with fail
        refine (Hp.out _ hb1).mono ?_
        rintro e w2 ⟨rfl, hb2⟩
        simp only [HV.out]
        have hb3 := hb1.trans (hb2.mono hb1.size)
        go_wp2
        go_ret2
        exact ⟨tup_eq HP.out, hb3⟩
      · have HP := Lib.hid (show priceL l n = (tot l n, 0) by rw [priceL, if_neg (not_not_intro hok), if_neg hn, if_neg hm])
        have HV := Lib.hid (show priceV (tot l n) = .tuple #[.int .i64 (tot l n), .bool true] by unfold priceV; rw [if_neg hm, decide_eq_true hm])
        clear hok hc0 hT hm hn
        obtain ⟨av, cap, rfl, hm, hc⟩ := h
        clear hc hm
        go_enter Tryd.func65, Tryd.ntmps65
        go_wp2_with fail
        refine Hc.out.mono ?_
        rintro e w1 ⟨rfl, hb1⟩
        go_wp2_with fail
        refine (Hp.out _ hb1).mono ?_
        rintro e w2 ⟨rfl, hb2⟩
        simp only [HV.out]
        have hb3 := hb1.trans (hb2.mono hb1.size)
        go_wp2
        go_ret2
        exact ⟨tup_eq HP.out, hb3⟩
  · have Hc := Lib.hid hc0
    have HP := Lib.hid (show priceL l n = (0, 8) by rw [priceL, if_pos hok])
    have hb := errB hok
    clear hok hc0
    obtain ⟨av, cap, rfl, hm, hc⟩ := h
    clear hc hm
    go_enter Tryd.func65, Tryd.ntmps65
    go_wp2_with fail
    refine Hc.out.mono ?_
    rintro e w1 ⟨rfl, hb1⟩
    go_wp2
    go_ret2
    exact ⟨tup_eq HP.out, hb1⟩
end Go.Proofs.YtohmdohbmmbbkaaDoor
