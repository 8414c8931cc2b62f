/-
  The walks of the price of units under an agreement.
-/
import Derived.Test.YtohmdohbmmbbkaaDoorMgao
import Derived.Test.YtohmdohbmmbbkaaDoorMgau
namespace Go.Proofs.YtohmdohbmmbbkaaDoor
open Go.RowKit

/-- The amount of units with the cap. -/
def capV (c x : Int) : Int := if c = 0 then x else min x c
def cappedL (a : Ag) (n : Int) : Int × Int := (capV a.cap (priceL a.st n).1, (priceL a.st n).2)
/-- The amount of n units behind others, or the first error. -/
def agPriceL (a : Ag) (m n : Int) : Int × Int :=
  if m < 0 ∨ 1099511627776 < m ∨ n < 0 ∨ 1099511627776 < n ∨ 1099511627776 < m + n ∨ a.cap < 0 ∨ 1125899906842624 < a.cap then (0, 6)
  else if (priceL a.st (m + n)).2 ≠ 0 then (0, (priceL a.st (m + n)).2) else if (priceL a.st m).2 ≠ 0 then (0, (priceL a.st m).2)
  else (capV a.cap (priceL a.st (m + n)).1 - capV a.cap (priceL a.st m).1, 0)

theorem priceL_err (l : List St) (n : Int) (h : (priceL l n).2 ≠ 0) : (priceL l n).1 = 0 := by
  unfold priceL at *
  split <;> rename_i h1
  · rfl
  · rw [if_neg h1] at h
    split <;> rename_i h2
    · rfl
    · rw [if_neg h2] at h
      split <;> rename_i h3
      · rfl
      · rw [if_neg h3] at h; exact absurd rfl h
theorem priceL_bd (l : List St) (n : Int) : 0 ≤ (priceL l n).1 ∧ (priceL l n).1 ≤ 1125899906842624 := by
  unfold priceL
  split <;> rename_i h1
  · exact ⟨by decide, by decide⟩
  · split
    · exact ⟨by decide, by decide⟩
    · split <;> rename_i h3
      · exact ⟨by decide, by decide⟩
      · exact ⟨tot_nonneg (Classical.not_not.1 h1) n, by dsimp only; omega⟩
theorem priceL_code (l : List St) (n : Int) : (priceL l n).2 = 0 ∨ (priceL l n).2 = 6 ∨ (priceL l n).2 = 8 := by
  unfold priceL
  split
  · exact Or.inr (Or.inr rfl)
  · split
    · exact Or.inr (Or.inl rfl)
    · split
      · exact Or.inr (Or.inl rfl)
      · exact Or.inl rfl

set_option maxRecDepth 100000 in
set_option maxHeartbeats 800000 in
theorem capped_calls (a : Ag) (v : Value) (n : Int) (w : World) (h : StepsAt w v a.st) : Calls Tryd.prog 49 #[agVal a v, .int .i64 n] w fun e w' => e = .returned (priceTup (cappedL a n)) ∧ Below w.heap.size w w' := by
  have hv := h
  obtain ⟨av, cap, rfl, hm, -⟩ := h
  obtain ⟨W, hW⟩ : ∃ W, W = w.alloc (Obj.cells #[.int .i64 a.pa, .int .i64 a.kd, .bool a.ib, .int .i64 a.fr, .int .i64 a.tt, .slice av a.st.length cap, .int .i64 a.cap] 53) := ⟨_, rfl⟩
  have hw0 : Below w.heap.size w W := by rw [hW]; go_grown
  have hz : W.heap.size = w.heap.size + 1 := by rw [hW]; simp
  have r2 : W.heap[w.heap.size]? = some (Obj.cells #[.int .i64 a.pa, .int .i64 a.kd, .bool a.ib, .int .i64 a.fr, .int .i64 a.tt, .slice av a.st.length cap, .int .i64 a.cap] 53) := by rw [hW]; exact heap_alloc_new _ _
  have HW := Lib.hid hW
  have hz2 : w.heap.size < W.heap.size := by omega
  have Hr := Lib.hid r2
  have Hp := Lib.hid (price_pub (.slice av a.st.length cap) a.st n W (hv.below hw0))
  clear hW r2 hz hv
  unfold agVal
  have hE : cappedL a n = (capV a.cap (priceL a.st n).1, (priceL a.st n).2) := rfl
  generalize priceL a.st n = p at *
  obtain ⟨x, y⟩ := p
  dsimp only at hE
  unfold priceTup at Hp
  dsimp only at Hp
  by_cases hc : a.cap = 0
  · have hcn : (a.cap != 0) = false := by rw [hc]; rfl
    have HE := Lib.hid (show cappedL a n = (x, y) by rw [hE, capV, if_pos hc])
    clear hE hc
    go_enter Tryd.func49, Tryd.ntmps49
    go_wp2_with fail
    rw [← HW.out]
    refine Hp.out.mono ?_
    rintro e w1 ⟨rfl, hb⟩
    have q := (hb.block _ hz2).trans Hr.out
    have q6 : w1.cell? ⟨w.heap.size, 6, none⟩ = some (.int .i64 a.cap) := cell_of_row w1 _ 6 _ _ _ q
    have hb2 := hw0.trans (hb.mono hw0.size)
    clear q hb
    go_wp2
    go_ret2
    exact ⟨tup_eq HE.out, hb2⟩
  · have hcn : (a.cap != 0) = true := by rw [bne_iff_ne]; exact hc
    have HE := Lib.hid (show cappedL a n = (min x a.cap, y) by rw [hE, capV, if_neg hc])
    clear hE hc
    go_enter Tryd.func49, Tryd.ntmps49
    go_wp2_with fail
    rw [← HW.out]
    refine Hp.out.mono ?_
    rintro e w1 ⟨rfl, hb⟩
    have q := (hb.block _ hz2).trans Hr.out
    have q6 : w1.cell? ⟨w.heap.size, 6, none⟩ = some (.int .i64 a.cap) := cell_of_row w1 _ 6 _ _ _ q
    have hb2 := hw0.trans (hb.mono hw0.size)
    clear q hb
    go_wp2
    all_goals
      go_ret2
      exact ⟨tup_eq (by rw [HE.out, Int.min_def]; first | rw [if_pos (by omega)] | rw [if_neg (by omega)]), hb2⟩

set_option maxRecDepth 100000 in
set_option maxHeartbeats 800000 in
theorem rcapped_calls (a : Ag) (v : Value) (n : Int) (w : World) (h : StepsAt w v a.st) (h0 : 0 ≤ a.cap) : Calls Tryd.prog 56 #[agVal a v, .int .i64 n] w fun e w' => e = .returned (priceTup (cappedL a n)) ∧ Below w.heap.size w w' := by
  have hv := h
  obtain ⟨av, cap, rfl, hm, -⟩ := h
  obtain ⟨W, hW⟩ : ∃ W, W = w.alloc (Obj.cells #[.int .i64 a.pa, .int .i64 a.kd, .bool a.ib, .int .i64 a.fr, .int .i64 a.tt, .slice av a.st.length cap, .int .i64 a.cap] 53) := ⟨_, rfl⟩
  have hw0 : Below w.heap.size w W := by rw [hW]; go_grown
  have hz : W.heap.size = w.heap.size + 1 := by rw [hW]; simp
  have r2 : W.heap[w.heap.size]? = some (Obj.cells #[.int .i64 a.pa, .int .i64 a.kd, .bool a.ib, .int .i64 a.fr, .int .i64 a.tt, .slice av a.st.length cap, .int .i64 a.cap] 53) := by rw [hW]; exact heap_alloc_new _ _
  have HW := Lib.hid hW
  have hz2 : w.heap.size < W.heap.size := by omega
  have Hr := Lib.hid r2
  have Hp := Lib.hid (rprice_calls (.slice av a.st.length cap) a.st n W (hv.below hw0))
  clear hW r2 hz hv
  unfold agVal
  have hE : cappedL a n = (capV a.cap (priceL a.st n).1, (priceL a.st n).2) := rfl
  have hx := priceL_err a.st n
  generalize priceL a.st n = p at *
  obtain ⟨x, y⟩ := p
  dsimp only at hE hx
  unfold priceTup at Hp
  dsimp only at Hp
  by_cases hy : y = 0
  · subst hy
    clear hx
    by_cases hc : a.cap = 0
    · have hcn : (a.cap != 0) = false := by rw [hc]; rfl
      have HE := Lib.hid (show cappedL a n = (x, 0) by rw [hE, capV, if_pos hc])
      clear hE hc
      go_enter Tryd.func56, Tryd.ntmps56
      go_wp2_with fail
      rw [← HW.out]
      refine Hp.out.mono ?_
      rintro e w1 ⟨rfl, hb⟩
      have q := (hb.block _ hz2).trans Hr.out
      have q6 : w1.cell? ⟨w.heap.size, 6, none⟩ = some (.int .i64 a.cap) := cell_of_row w1 _ 6 _ _ _ q
      have hb2 := hw0.trans (hb.mono hw0.size)
      clear q hb
      go_wp2
      go_ret2
      exact ⟨tup_eq HE.out, hb2⟩
    · have hcn : (a.cap != 0) = true := by rw [bne_iff_ne]; exact hc
      have HE := Lib.hid (show cappedL a n = (min x a.cap, 0) by rw [hE, capV, if_neg hc])
      clear hE hc
      go_enter Tryd.func56, Tryd.ntmps56
      go_wp2_with fail
      rw [← HW.out]
      refine Hp.out.mono ?_
      rintro e w1 ⟨rfl, hb⟩
      have q := (hb.block _ hz2).trans Hr.out
      have q6 : w1.cell? ⟨w.heap.size, 6, none⟩ = some (.int .i64 a.cap) := cell_of_row w1 _ 6 _ _ _ q
      have hb2 := hw0.trans (hb.mono hw0.size)
      clear q hb
      go_wp2
      all_goals
        go_ret2
        exact ⟨tup_eq (by rw [HE.out, Int.min_def]; first | rw [if_pos (by omega)] | rw [if_neg (by omega)]), hb2⟩
  · have hyn : (y != 0) = true := by rw [bne_iff_ne]; exact hy
    have hx0 := hx hy
    have HE := Lib.hid (show cappedL a n = (0, y) by
      rw [hE, hx0, capV]
      by_cases hc : a.cap = 0
      · rw [if_pos hc]
      · rw [if_neg hc, Int.min_def, if_pos h0])
    clear hE hx0 hx hy
    go_enter Tryd.func56, Tryd.ntmps56
    go_wp2_with fail
    rw [← HW.out]
    refine Hp.out.mono ?_
    rintro e w1 ⟨rfl, hb⟩
    have q := (hb.block _ hz2).trans Hr.out
    have q6 : w1.cell? ⟨w.heap.size, 6, none⟩ = some (.int .i64 a.cap) := cell_of_row w1 _ 6 _ _ _ q
    have hb2 := hw0.trans (hb.mono hw0.size)
    clear q hb
    go_wp2
    go_ret2
    exact ⟨tup_eq HE.out, hb2⟩

end Go.Proofs.YtohmdohbmmbbkaaDoor
