/-
  The bodies of ProductAt and ProductFees.
-/
import Derived.Test.YtmijdmchhlcblaaLaw19a
import Derived.Test.YtmijdmchhlcblaaRef19f
import Derived.Test.YtmijdmchhlcblaaFeesNone19
namespace Go.Proofs.Ytmijdmchhlcblaa
open Go.RowKit

theorem fewP_of {l : List Pd} (h : fewL l = true) : FewP l := by
  unfold fewL at h
  simp only [Bool.and_eq_true, decide_eq_true_eq, List.all_eq_true] at h
  obtain ⟨h1, h2⟩ := h
  refine ⟨by omega, fun p hp => ?_⟩
  have := h2 p hp
  unfold fewP at this
  simp only [Bool.and_eq_true, decide_eq_true_eq, List.all_eq_true] at this
  exact ⟨by omega, fun b hb => by have := this.2 b hb; unfold fewB at this; simp only [decide_eq_true_eq] at this; omega⟩

/-- The fees that both return. -/
def feesOf (l : List Pd) (s : ByteArray) (f t : Int) : List (Int × Int × Int) := if 0 ≤ f ∧ f < t ∧ t ≤ 12622780800 then rfeesL l s f t else []
def PrsTo (w : World) (N : List (Int × Int × Int)) (e : Ending) (w' : World) : Prop := ∃ v, e = .returned v ∧ PrsAt w' v N ∧ Below w.heap.size w w'

theorem fees_prs (v : Value) (l : List Pd) (s : ByteArray) (f t : Int) (w : World) (h : PdsAt w v l) (hf : FewP l) (ha : AscP l) :
    Calls Try.prog 28 #[v, .string s, .agg #[.int .i64 f, .int .i64 t]] w (PrsTo w (feesOf l s f t)) := by
  unfold feesOf
  by_cases hg : 0 ≤ f ∧ f < t ∧ t ≤ 12622780800
  · rw [if_pos hg, ← fees_same ha.order]
    exact (fees_calls v l s f t w h hf.1 hg.1 hg.2.1 hg.2.2).mono fun _ _ ⟨v', h1, h2, h3⟩ => ⟨v', h1, PrsAt.own h2, h3⟩
  · rw [if_neg hg]
    obtain ⟨av, cap, rfl, -⟩ := h
    exact (fees_none av l.length cap s f t w hg).mono fun _ _ ⟨h1, h2⟩ => ⟨_, h1, SliceAt.nil _, h2⟩
theorem rfees_prs (v : Value) (l : List Pd) (s : ByteArray) (f t : Int) (w : World) (h : PdsAt w v l) (hf : FewP l) :
    Calls Try.prog 29 #[v, .string s, .agg #[.int .i64 f, .int .i64 t]] w (PrsTo w (feesOf l s f t)) := by
  unfold feesOf
  by_cases hg : 0 ≤ f ∧ f < t ∧ t ≤ 12622780800
  · rw [if_pos hg]
    exact (rfees_calls v l s f t w h hf.1 hg.1 hg.2.1 hg.2.2).mono fun _ _ ⟨v', h1, h2, h3⟩ => ⟨v', h1, PrsAt.own h2, h3⟩
  · rw [if_neg hg]
    obtain ⟨av, cap, rfl, -⟩ := h
    exact (rfees_none av l.length cap s f t w hg).mono fun _ _ ⟨h1, h2⟩ => ⟨_, h1, SliceAt.nil _, h2⟩

set_option maxRecDepth 100000 in
set_option maxHeartbeats 3200000 in
theorem fees19_law (hA : Awake19) (v : Value) (l : List Pd) (s : ByteArray) (f t : Int) (w : World) (h : PdsAt w v l) :
    Calls Try.prog 6 #[v, .string s, .agg #[.int .i64 f, .int .i64 t]] w fun e w' => e = .returned (.bool true) ∧ Below w.heap.size w w' := by
  obtain ⟨W, hW⟩ : ∃ W, W = w.alloc (Obj.cells #[Value.int .i64 f, Value.int .i64 t] 42) := ⟨_, rfl⟩
  have hw0 : Below w.heap.size w W := by rw [hW]; go_grown
  have hz : W.heap.size = w.heap.size + 1 := by rw [hW]; simp
  have r2 : W.heap[w.heap.size]? = some (Obj.cells #[Value.int .i64 f, Value.int .i64 t] 42) := by rw [hW]; exact heap_alloc_new _ _
  have Hat := Lib.hid (h.below hw0)
  have HW := Lib.hid hW
  have HA := Lib.hid hA
  have hz2 : w.heap.size < W.heap.size := by omega
  have Hf := Lib.hid (few_calls v l W (h.below hw0))
  have Hc := Lib.hid (asc_calls v l W (h.below hw0))
  have Mk := Lib.hid (show ∀ w' : World, Below W.heap.size W w' → Below W.heap.size W w' ∧ w'.cell? ⟨w.heap.size, 0, none⟩ = some (.int .i64 f) ∧ w'.cell? ⟨w.heap.size, 1, none⟩ = some (.int .i64 t) from fun w' hb =>
    have q := (hb.block w.heap.size hz2).trans r2
    ⟨hb, cell_of_row w' _ 0 _ _ _ q, cell_of_row w' _ 1 _ _ _ q⟩)
  have HL := Lib.hid (@fewP_of l)
  have HP := Lib.hid (@ascP_of l)
  clear hW r2 hz h hA
  cases hx : fewL l with
  | false =>
    rw [hx] at Hf
    clear Hc
    go_enter Try.func6, Try.ntmps6
    go_wp2_with fail
    rw [← HW.out]
    refine Hf.out.mono ?_
    rintro e w0 ⟨rfl, hw1⟩
    subst w0
    go_wp2_with fail
    refine (HA.out _).mono ?_
    rintro e w2 ⟨rfl, hb⟩
    go_wp2
    go_ret
    exact ⟨rfl, hw0.trans (hb.mono hw0.size)⟩
  | true =>
    have HF := Lib.hid (HL.out hx)
    rw [hx] at Hf
    cases hy : ascB l with
    | false =>
      rw [hy] at Hc
      go_enter Try.func6, Try.ntmps6
      go_wp2_with fail
      rw [← HW.out]
      refine Hf.out.mono ?_
      rintro e w0 ⟨rfl, hw1⟩
      subst w0
      go_wp2_with fail
      refine Hc.out.mono ?_
      rintro e w1 ⟨rfl, hb0⟩
      go_wp2_with fail
      refine (HA.out _).mono ?_
      rintro e w2 ⟨rfl, hb⟩
      have hb2 := hb0.trans (hb.mono hb0.size)
      go_wp2
      go_ret
      exact ⟨rfl, hw0.trans (hb2.mono hw0.size)⟩
    | true =>
      have HO := Lib.hid (HP.out hy)
      rw [hy] at Hc
      clear hx hy
      go_enter Try.func6, Try.ntmps6
      go_wp2_with fail
      rw [← HW.out]
      refine Hf.out.mono ?_
      rintro e w0 ⟨rfl, hw1⟩
      subst w0
      go_wp2_with fail
      refine Hc.out.mono ?_
      rintro e w1 ⟨rfl, hb0⟩
      clear Hf Hc
      go_wp2_with fail
      go_region_held3 (fun w' : World => Below W.heap.size W w' ∧ w'.cell? ⟨w.heap.size, 0, none⟩ = some (.int .i64 f) ∧ w'.cell? ⟨w.heap.size, 1, none⟩ = some (.int .i64 t))
        (first
          | exact Mk.out _ (by assumption)
          | exact Mk.out _ (Below.drew (by assumption)))
        (first
          | (go_at_call 28
             refine (fees_prs _ l s f t _ (Hat.out.below (And.left (by assumption))) HF.out HO.out).mono ?_
             rintro e w4 ⟨v4, rfl, hp4, hb4⟩
             have hY4 : Below W.heap.size W w4 := Below.trans (And.left (by assumption)) (hb4.mono (Below.size (And.left (by assumption))))
             clear hb4)
          | (go_at_call 29
             refine (rfees_prs _ l s f t _ (Hat.out.below (And.left (by assumption))) HF.out).mono ?_
             rintro e w5 ⟨v5, rfl, hp5, hb5⟩
             have hp6 := hp4.below hb5
             have hY5 : Below W.heap.size W w5 := Below.trans (And.left (by assumption)) (hb5.mono (Below.size (And.left (by assumption))))
             clear hb5)
          | (go_at_call 27
             refine (samePriced_calls _ _ _ _ hp6 hp5).mono ?_
             rintro e w7 ⟨rfl, hb7⟩
             have hY7 : Below W.heap.size W w7 := Below.trans (And.left (by assumption)) (hb7.mono (Below.size (And.left (by assumption))))
             clear hb7)
          | (go_at_call 17
             refine (HA.out _).mono ?_
             rintro e w8 ⟨rfl, hb8⟩
             have hY8 : Below W.heap.size W w8 := Below.trans (And.left (by assumption)) (hb8.mono (Below.size (And.left (by assumption))))
             clear hb8))
      go_wp2
      go_ret
      exact ⟨rfl, hw0.trans (hY8.mono hw0.size)⟩

theorem zero_bds (w : World) : BdsAt w (.slice none 0 0) [] := SliceAt.nil w

set_option maxRecDepth 100000 in
set_option maxHeartbeats 3200000 in
theorem at19_law (hA : Awake19) (v : Value) (l : List Pd) (s : ByteArray) (t : Int) (w : World) (h : PdsAt w v l) :
    Calls Try.prog 5 #[v, .string s, .int .i64 t] w fun e w' => e = .returned (.bool true) ∧ Below w.heap.size w w' := by
  have Hat := Lib.hid h
  have HA := Lib.hid hA
  have Hf := Lib.hid (few_calls v l w h)
  have Hc := Lib.hid (asc_calls v l w h)
  have HL := Lib.hid (@fewP_of l)
  have HP := Lib.hid (@ascP_of l)
  clear h hA
  cases hx : fewL l with
  | false =>
    rw [hx] at Hf
    clear Hc
    go_enter Try.func5, Try.ntmps5
    go_wp2_with fail
    refine Hf.out.mono ?_
    rintro e w0 ⟨rfl, hw1⟩
    subst w0
    go_wp2_with fail
    refine (HA.out _).mono ?_
    rintro e w2 ⟨rfl, hb⟩
    go_wp2
    go_ret
    exact ⟨rfl, hb⟩
  | true =>
    have HF := Lib.hid (HL.out hx)
    rw [hx] at Hf
    cases hy : ascB l with
    | false =>
      rw [hy] at Hc
      go_enter Try.func5, Try.ntmps5
      go_wp2_with fail
      refine Hf.out.mono ?_
      rintro e w0 ⟨rfl, hw1⟩
      subst w0
      go_wp2_with fail
      refine Hc.out.mono ?_
      rintro e w1 ⟨rfl, hb0⟩
      go_wp2_with fail
      refine (HA.out _).mono ?_
      rintro e w2 ⟨rfl, hb⟩
      have hb2 := hb0.trans (hb.mono hb0.size)
      go_wp2
      go_ret
      exact ⟨rfl, hb2⟩
    | true =>
      have HO := Lib.hid (HP.out hy)
      have HN := Lib.hid (names_rnames (HP.out hy).order t).1
      rw [hy] at Hc
      clear hx hy
      have Hat1 := Lib.hid (fun w1 (hb : Below w.heap.size w w1) => at_no v l s t w1 (Hat.out.below hb) HF.out)
      have Hat2 := Lib.hid (fun p w1 (hb : Below w.heap.size w w1) => at_yes v l s t p w1 (Hat.out.below hb) HF.out)
      have Hra := Lib.hid (fun w1 (hb : Below w.heap.size w w1) => rat_calls v l s t w1 (Hat.out.below hb))
      cases ha : atL l s t with
      | none =>
        rw [ha] at Hra
        have Hat3 := Lib.hid (fun w1 hb => Hat1.out w1 hb ha)
        clear Hat1 Hat2 ha
        go_enter Try.func5, Try.ntmps5
        go_wp2_with fail
        refine Hf.out.mono ?_
        rintro e w0 ⟨rfl, hw1⟩
        subst w0
        go_wp2_with fail
        refine Hc.out.mono ?_
        rintro e w1 ⟨rfl, hb0⟩
        go_wp2_with fail
        refine (Hat3.out _ hb0).mono ?_
        rintro e w2 ⟨rfl, hb⟩
        have hb2 := hb0.trans (hb.mono hb0.size)
        clear hb0 hb Hf Hc
        go_wp2_with fail
        obtain ⟨Y, hY⟩ : ∃ Y, Y = w2.alloc (Obj.cells #[.string ⟨#[]⟩, .int .i64 0, .int .i64 0, .string ⟨#[]⟩, .bool false, .slice none 0 0] 33) := ⟨_, rfl⟩
        have hbY : Below w.heap.size w Y := hb2.trans (by rw [hY]; exact Below.alloc (Below.refl _ _) hb2.size _)
        have ry : Y.heap[w2.heap.size]? = some (Obj.cells #[.string ⟨#[]⟩, .int .i64 0, .int .i64 0, .string ⟨#[]⟩, .bool false, .slice none 0 0] 33) := by rw [hY]; exact heap_alloc_new _ _
        have hys : w2.heap.size < Y.heap.size := by rw [hY]; simp
        have RY := Lib.hid ry
        rw [← hY]
        clear hY ry
        refine (Hra.out _ hbY).mono ?_
        rintro e w3 ⟨rfl, hb3⟩
        have r3 := (hb3.block _ hys).trans RY.out
        have y0 : w3.cell? ⟨w2.heap.size, 0, none⟩ = some (.string ⟨#[]⟩) := cell_of_row w3 _ 0 _ _ _ r3
        have y1 : w3.cell? ⟨w2.heap.size, 1, none⟩ = some (.int .i64 0) := cell_of_row w3 _ 1 _ _ _ r3
        have y2 : w3.cell? ⟨w2.heap.size, 2, none⟩ = some (.int .i64 0) := cell_of_row w3 _ 2 _ _ _ r3
        have y3 : w3.cell? ⟨w2.heap.size, 3, none⟩ = some (.string ⟨#[]⟩) := cell_of_row w3 _ 3 _ _ _ r3
        have y4 : w3.cell? ⟨w2.heap.size, 4, none⟩ = some (.bool false) := cell_of_row w3 _ 4 _ _ _ r3
        have y5 : w3.cell? ⟨w2.heap.size, 5, none⟩ = some (.slice none 0 0) := cell_of_row w3 _ 5 _ _ _ r3
        have hb4 := hbY.trans (hb3.mono hbY.size)
        have hl3 : w2.heap.size < w3.heap.size := Nat.lt_of_lt_of_le hys hb3.size
        have hn3 : ¬ w2.heap.size = w3.heap.size := by omega
        have hn4 : ¬ w3.heap.size = w2.heap.size := by omega
        clear r3 hb3 RY
        have hb5 : Below w.heap.size w (w3.alloc (Obj.cells #[.string ⟨#[]⟩, .int .i64 0, .int .i64 0, .string ⟨#[]⟩, .bool false, .slice none 0 0] 33)) := hb4.trans (Below.alloc (Below.refl _ _) hb4.size _)
        go_wp2_with fail
        refine (same19_calls ⟨⟨#[]⟩, 0, 0, ⟨#[]⟩, false, []⟩ (.slice none 0 0) (.slice none 0 0) _ (zero_bds _) (zero_bds _)).mono ?_
        rintro e w6 ⟨rfl, hb6⟩
        have hb7 := hb5.trans (hb6.mono hb5.size)
        clear hb5 hb6 y0 y1 y2 y3 y4 y5
        go_wp2_with fail
        refine (names_calls v l t w6 (Hat.out.below hb7) HF.out.1).mono ?_
        rintro e w8 ⟨v8, rfl, hn8, hb8⟩
        have hb9 := hb7.trans (hb8.mono hb7.size)
        go_wp2_with fail
        refine (rnames_calls v l t w8 (Hat.out.below hb9) HF.out.1).mono ?_
        rintro e w10 ⟨v10, rfl, hn10, hb10⟩
        have hb11 := hb9.trans (hb10.mono hb9.size)
        have HS := Lib.hid (sameTexts_calls v8 v10 (rnamesL l t) w10 (StrsAt.below (SliceOff.at (by rw [HN.out] at hn8; exact hn8) fun _ _ _ hx => hx) hb10) (SliceOff.at hn10 fun _ _ _ hx => hx))
        clear hn8 hn10 hb10 hb8
        go_wp2_with fail
        refine HS.out.mono ?_
        rintro e w12 ⟨rfl, hb12⟩
        have hb13 := hb11.trans (hb12.mono hb11.size)
        go_wp2_with fail
        refine (HA.out _).mono ?_
        rintro e w14 ⟨rfl, hb14⟩
        go_wp2
        go_ret
        exact ⟨rfl, hb13.trans (hb14.mono hb13.size)⟩
      | some p =>
        rw [ha] at Hra
        have Hat3 := Lib.hid (fun w1 hb => Hat2.out p w1 hb ha)
        clear Hat1 Hat2 ha
        go_enter Try.func5, Try.ntmps5
        go_wp2_with fail
        refine Hf.out.mono ?_
        rintro e w0 ⟨rfl, hw1⟩
        subst w0
        go_wp2_with fail
        refine Hc.out.mono ?_
        rintro e w1 ⟨rfl, hb0⟩
        go_wp2_with fail
        refine (Hat3.out _ hb0).mono ?_
        rintro e w2 ⟨bv, rfl, hbv, hb⟩
        have hb2 := hb0.trans (hb.mono hb0.size)
        have HB1 := Lib.hid hbv
        obtain ⟨a1, c1, rfl, -, -, -⟩ := hbv
        unfold pdVal
        clear hb0 hb Hf Hc
        go_wp2_with fail
        obtain ⟨Y, hY⟩ : ∃ Y, Y = w2.alloc (Obj.cells #[.string p.nm, .int .i64 p.fm, .int .i64 p.fe, .string p.ct, .bool p.pro, .slice a1 p.bs.length c1] 33) := ⟨_, rfl⟩
        have hbY : Below w.heap.size w Y := hb2.trans (by rw [hY]; exact Below.alloc (Below.refl _ _) hb2.size _)
        have HBY := Lib.hid (HB1.out.below (show Below w2.heap.size w2 Y by rw [hY]; go_grown))
        have ry : Y.heap[w2.heap.size]? = some (Obj.cells #[.string p.nm, .int .i64 p.fm, .int .i64 p.fe, .string p.ct, .bool p.pro, .slice a1 p.bs.length c1] 33) := by rw [hY]; exact heap_alloc_new _ _
        have hys : w2.heap.size < Y.heap.size := by rw [hY]; simp
        have RY := Lib.hid ry
        rw [← hY]
        clear hY ry
        refine (Hra.out _ hbY).mono ?_
        rintro e w3 ⟨bv2, rfl, hbv2, hb3⟩
        have HBW := Lib.hid (HBY.out.below hb3)
        have HB2 := Lib.hid hbv2
        obtain ⟨a2, c2, rfl, -, -, -⟩ := hbv2
        unfold pdVal
        have r3 := (hb3.block _ hys).trans RY.out
        have y0 : w3.cell? ⟨w2.heap.size, 0, none⟩ = some (.string p.nm) := cell_of_row w3 _ 0 _ _ _ r3
        have y1 : w3.cell? ⟨w2.heap.size, 1, none⟩ = some (.int .i64 p.fm) := cell_of_row w3 _ 1 _ _ _ r3
        have y2 : w3.cell? ⟨w2.heap.size, 2, none⟩ = some (.int .i64 p.fe) := cell_of_row w3 _ 2 _ _ _ r3
        have y3 : w3.cell? ⟨w2.heap.size, 3, none⟩ = some (.string p.ct) := cell_of_row w3 _ 3 _ _ _ r3
        have y4 : w3.cell? ⟨w2.heap.size, 4, none⟩ = some (.bool p.pro) := cell_of_row w3 _ 4 _ _ _ r3
        have y5 : w3.cell? ⟨w2.heap.size, 5, none⟩ = some (.slice a1 p.bs.length c1) := cell_of_row w3 _ 5 _ _ _ r3
        have hb4 := hbY.trans (hb3.mono hbY.size)
        have hl3 : w2.heap.size < w3.heap.size := Nat.lt_of_lt_of_le hys hb3.size
        have hn3 : ¬ w2.heap.size = w3.heap.size := by omega
        have hn4 : ¬ w3.heap.size = w2.heap.size := by omega
        clear r3 hb3 RY
        have hbx : Below w3.heap.size w3 (w3.alloc (Obj.cells #[.string p.nm, .int .i64 p.fm, .int .i64 p.fe, .string p.ct, .bool p.pro, .slice a2 p.bs.length c2] 33)) := Below.alloc (Below.refl _ _) (Nat.le_refl _) _
        have hb5 := hb4.trans (hbx.mono hb4.size)
        have HSm := Lib.hid (same19_calls p (.slice a1 p.bs.length c1) (.slice a2 p.bs.length c2) _ (HBW.out.below hbx) (HB2.out.below hbx))
        unfold pdVal at HSm
        clear hbx
        go_wp2_with fail
        refine HSm.out.mono ?_
        rintro e w6 ⟨rfl, hb6⟩
        have hb7 := hb5.trans (hb6.mono hb5.size)
        clear hb5 hb6 y0 y1 y2 y3 y4 y5
        go_wp2_with fail
        refine (names_calls v l t w6 (Hat.out.below hb7) HF.out.1).mono ?_
        rintro e w8 ⟨v8, rfl, hn8, hb8⟩
        have hb9 := hb7.trans (hb8.mono hb7.size)
        go_wp2_with fail
        refine (rnames_calls v l t w8 (Hat.out.below hb9) HF.out.1).mono ?_
        rintro e w10 ⟨v10, rfl, hn10, hb10⟩
        have hb11 := hb9.trans (hb10.mono hb9.size)
        have HS := Lib.hid (sameTexts_calls v8 v10 (rnamesL l t) w10 (StrsAt.below (SliceOff.at (by rw [HN.out] at hn8; exact hn8) fun _ _ _ hx => hx) hb10) (SliceOff.at hn10 fun _ _ _ hx => hx))
        clear hn8 hn10 hb10 hb8
        go_wp2_with fail
        refine HS.out.mono ?_
        rintro e w12 ⟨rfl, hb12⟩
        have hb13 := hb11.trans (hb12.mono hb11.size)
        go_wp2_with fail
        refine (HA.out _).mono ?_
        rintro e w14 ⟨rfl, hb14⟩
        go_wp2
        go_ret
        exact ⟨rfl, hb13.trans (hb14.mono hb13.size)⟩
end Go.Proofs.Ytmijdmchhlcblaa
