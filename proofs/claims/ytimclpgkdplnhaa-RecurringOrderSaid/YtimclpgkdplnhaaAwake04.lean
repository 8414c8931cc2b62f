/-
  The walk of the laws' awake: it returns true.
-/
import Derived.Test.YtimclpgkdplnhaaCut04
import Derived.Test.YtimclpgkdplnhaaTotal04
namespace Go.Proofs.Ytimclpgkdplnhaa
open Go.RowKit

theorem pers_block (w : World) (L : List (Int × Int)) (hl : L.length ≤ maxLen) : PersAt (w.alloc (Obj.cells (L.flatMap perCells).toArray 23)) (.slice (some ⟨w.heap.size, 0, none⟩) L.length L.length) L := by
  have r := heap_alloc_new w (Obj.cells (L.flatMap perCells).toArray 23)
  refine PersAt.own (base := w.heap.size) (e := 23) ⟨by rw [flat_length perCells 2 (fun _ => rfl)], Or.inr ⟨w.heap.size, L.length, _, rfl, Nat.le_refl _, r, Nat.le_refl _, hl, ?_, ?_⟩⟩
  · simp only [List.size_toArray]; exact flat_length perCells 2 (fun _ => rfl) L
  · show (L.flatMap perCells).take _ = _
    exact List.take_of_length_le (by rw [flat_length perCells 2 (fun _ => rfl)]; exact Nat.le_refl _)
theorem ics_block (w : World) (L : List Int) (hl : L.length ≤ maxLen) : IcsAt (w.alloc (Obj.cells (L.map (Value.int .i64)).toArray 3)) (.slice (some ⟨w.heap.size, 0, none⟩) L.length L.length) L := by
  have r := heap_alloc_new w (Obj.cells (L.map (Value.int .i64)).toArray 3)
  refine IcsAt.own (base := w.heap.size) (e := 3) ⟨by simp, Or.inr ⟨w.heap.size, L.length, _, rfl, Nat.le_refl _, r, Nat.le_refl _, hl, by simp, ?_⟩⟩
  show (L.map (Value.int .i64)).take _ = _
  exact List.take_of_length_le (by simp)
/-- Two of a list's cells. -/
theorem pers_cells {w : World} {v : Value} {L : List (Int × Int)} (h : PersAt w v L) (hne : L ≠ []) : ∃ b o cap, v = .slice (some ⟨b, o, none⟩) L.length cap ∧ ∀ w', Below w.heap.size w w' → ∀ i (hi : i < L.length), w'.cell? ⟨b, o + i * 2, none⟩ = some (.int .i64 L[i].1) ∧ w'.cell? ⟨b, o + i * 2 + 1, none⟩ = some (.int .i64 L[i].2) := by
  obtain ⟨av, cap, rfl, -, -, hx⟩ := h
  obtain ⟨b, o, rfl, hB, hx⟩ := hx hne
  exact ⟨b, o, cap, rfl, fun w' hw i hi => PerR.stays _ _ _ _ _ hw hB (hx i hi)⟩

theorem lit_meet1 : meetV 0 10 5 20 = .agg #[.int .i64 5, .int .i64 10] ∧ meetB 0 10 5 20 = true := by
  have h : meetB 0 10 5 20 = true := by decide
  exact ⟨by unfold meetV; rw [if_pos h]; rfl, h⟩
theorem lit_meet2 : meetV 0 10 10 20 = .agg #[.int .i64 0, .int .i64 0] ∧ meetB 0 10 10 20 = false := by
  have h : meetB 0 10 10 20 = false := by decide
  exact ⟨by unfold meetV; rw [if_neg (by rw [h]; decide)], h⟩
theorem lit_cut : cutL 0 10 [7, 3, 3, 0, 10] = [(0, 3), (3, 7), (7, 10)] := by decide
theorem lit_cover : chooseL [(5, 8), (0, 5), (9, 9), (10, 12)] [] true false = [(0, 8), (10, 12)] := by decide
theorem lit_minus : chooseL [(0, 10)] [(3, 4)] false false = [(0, 3), (4, 10)] := by decide
theorem lit_common : chooseL [(0, 10)] [(8, 12), (2, 3)] false true = [(2, 3), (8, 10)] := by decide
theorem lit_total : totL (chooseL [(0, 10), (5, 20)] [] true false) = 20 := by decide

set_option maxRecDepth 100000 in
set_option maxHeartbeats 6400000 in
theorem awake_calls (w : World) : Calls Try.prog 18 #[] w fun e w' => e = .returned (.bool true) ∧ Below w.heap.size w w' := by
  obtain ⟨W, hW⟩ : ∃ W, W = w.alloc (Obj.cells #[Value.int .i64 0, Value.int .i64 10] 23) := ⟨_, rfl⟩
  have hw0 : Below w.heap.size w W := by rw [hW]; exact (Below.refl _ _).alloc (Nat.le_refl _) _
  have rW : W.heap[w.heap.size]? = some (Obj.cells #[Value.int .i64 0, Value.int .i64 10] 23) := by rw [hW]; exact heap_alloc_new _ _
  have hzW : w.heap.size < W.heap.size := by rw [hW]; simp
  have HM := Lib.hid (show ∀ w', Below W.heap.size W w' → w'.cell? ⟨w.heap.size, 0, none⟩ = some (.int .i64 0) ∧ w'.cell? ⟨w.heap.size, 1, none⟩ = some (.int .i64 10) from fun w' hb => by
    have q := (hb.block _ hzW).trans rW
    exact ⟨cell_of_row w' _ 0 _ _ _ q, cell_of_row w' _ 1 _ _ _ q⟩)
  have HW := Lib.hid hW
  have H1 := Lib.hid (fun w1 => intersect_calls 0 10 5 20 w1)
  have H2 := Lib.hid (fun w1 => intersect_calls 0 10 10 20 w1)
  rw [lit_meet1.1, lit_meet1.2] at H1
  rw [lit_meet2.1, lit_meet2.2] at H2
  clear hW rW
  obtain ⟨m0, m1⟩ := HM.out W (Below.refl _ _)
  go_enter Try.func18, Try.ntmps18
  go_upto_region 2 with (fail)
  rw [← HW.out]
  go_wp2_with fail
  refine (H1.out W).mono ?_
  rintro e w1 ⟨rfl, hb1⟩
  -- p
  obtain ⟨W2, hW2⟩ : ∃ X, X = w1.alloc (Obj.cells #[Value.int .i64 5, Value.int .i64 10] 23) := ⟨_, rfl⟩
  have r2 : W2.heap[w1.heap.size]? = some (Obj.cells #[Value.int .i64 5, Value.int .i64 10] 23) := by rw [hW2]; exact heap_alloc_new _ _
  have hz2 : w1.heap.size < W2.heap.size := by rw [hW2]; simp
  have hb2 : Below W.heap.size W W2 := by rw [hW2]; exact hb1.alloc hb1.size _
  have HP := Lib.hid (show ∀ w', Below W2.heap.size W2 w' → w'.cell? ⟨w1.heap.size, 0, none⟩ = some (.int .i64 5) ∧ w'.cell? ⟨w1.heap.size, 1, none⟩ = some (.int .i64 10) from fun w' hb => by
    have q := (hb.block _ hz2).trans r2
    exact ⟨cell_of_row w' _ 0 _ _ _ q, cell_of_row w' _ 1 _ _ _ q⟩)
  have HW2 := Lib.hid hW2
  clear m0 m1 hW2 r2
  obtain ⟨m0, m1⟩ := HM.out W2 hb2
  go_upto_region 3 with (fail)
  rw [← HW2.out]
  go_wp2_with fail
  refine (H2.out W2).mono ?_
  rintro e w3 ⟨rfl, hb3⟩
  have hb3W := hb2.trans (hb3.mono hb2.size)
  -- the other period, and the instants
  obtain ⟨W4, hW4⟩ : ∃ X, X = w3.alloc (Obj.cells #[Value.int .i64 0, Value.int .i64 0] 23) := ⟨_, rfl⟩
  have hb4 : Below W2.heap.size W2 W4 := by rw [hW4]; exact hb3.alloc hb3.size _
  have hb4W := hb2.trans (hb4.mono hb2.size)
  have HW4 := Lib.hid hW4
  clear m0 m1 hW4
  obtain ⟨m0, m1⟩ := HM.out W4 hb4W
  have H4 := Lib.hid (cut_calls 0 10 _ _ _ (ics_block W4 [7, 3, 3, 0, 10] (by decide)) (by decide))
  rw [lit_cut] at H4
  go_upto_region 4 with (fail)
  rw [← HW4.out]
  go_wp2_with fail
  refine H4.out.mono ?_
  rintro e w5 ⟨v5, rfl, hp5, hbx⟩
  have hb5 : Below W4.heap.size W4 w5 := ((Below.refl _ _).alloc (Nat.le_refl _) _).trans (hbx.mono (by simp))
  have hb5W := hb4W.trans (hb5.mono hb4W.size)
  obtain ⟨bc, oc, cc, rfl, HC⟩ := pers_cells hp5 (by decide)
  have HC := Lib.hid HC
  clear hbx hp5 m0 m1 H4
  -- d
  have H5 := Lib.hid (cover_calls _ _ _ (pers_block w5 [(5, 8), (0, 5), (9, 9), (10, 12)] (by decide)) (by decide))
  rw [lit_cover] at H5
  go_wp2_with fail
  refine H5.out.mono ?_
  rintro e w6 ⟨v6, rfl, hp6, hbx⟩
  have hb6 : Below w5.heap.size w5 w6 := ((Below.refl _ _).alloc (Nat.le_refl _) _).trans (hbx.mono (by simp))
  have hb6W := hb5W.trans (hb6.mono hb5W.size)
  obtain ⟨bd, od, cd, rfl, HD⟩ := pers_cells hp6 (by decide)
  have HD := Lib.hid HD
  clear hbx hp6 H5
  -- m
  obtain ⟨m0, m1⟩ := HM.out w6 hb6W
  have H6 := Lib.hid (minus_calls _ _ _ _ _ ((pers_block w6 [(0, 10)] (by decide)).below ((Below.refl _ _).alloc (Nat.le_refl _) _)) (pers_block (w6.alloc _) [(3, 4)] (by decide)) (by decide))
  rw [lit_minus] at H6
  go_wp2_with fail
  rw [World.size_alloc] at H6
  refine H6.out.mono ?_
  rintro e w7 ⟨v7, rfl, hp7, hbx⟩
  have hb7 : Below w6.heap.size w6 w7 := (((Below.refl _ _).alloc (Nat.le_refl _) _).alloc (by simp) _).trans (hbx.mono (by simp <;> omega))
  have hb7W := hb6W.trans (hb7.mono hb6W.size)
  obtain ⟨bm, om, cm, rfl, HMi⟩ := pers_cells hp7 (by decide)
  have HMi := Lib.hid HMi
  clear hbx hp7 H6 m0 m1
  -- n
  obtain ⟨m0, m1⟩ := HM.out w7 hb7W
  have H7 := Lib.hid (pcommon_calls _ _ _ _ _ ((pers_block w7 [(0, 10)] (by decide)).below ((Below.refl _ _).alloc (Nat.le_refl _) _)) (pers_block (w7.alloc _) [(8, 12), (2, 3)] (by decide)) (by decide))
  rw [lit_common, World.size_alloc] at H7
  go_wp2_with fail
  refine H7.out.mono ?_
  rintro e w8 ⟨v8, rfl, hp8, hbx⟩
  have hb8 : Below w7.heap.size w7 w8 := (((Below.refl _ _).alloc (Nat.le_refl _) _).alloc (by simp) _).trans (hbx.mono (by simp <;> omega))
  have hb8W := hb7W.trans (hb8.mono hb7W.size)
  obtain ⟨bn, on, cn, rfl, HN⟩ := pers_cells hp8 (by decide)
  have HN := Lib.hid HN
  clear hbx hp8 H7 m0 m1
  obtain ⟨m0, m1⟩ := HM.out w8 hb8W
  have h58 := (hb6.trans (hb7.mono hb6.size)).trans (hb8.mono (Nat.le_trans hb6.size hb7.size))
  have h68 := hb7.trans (hb8.mono hb7.size)
  obtain ⟨p0, p1⟩ := HP.out w8 (hb4.trans ((hb5.trans (h58.mono hb5.size)).mono hb4.size))
  have c0 : w8.cell? ⟨bc, oc + 2, none⟩ = some (.int .i64 3) := (HC.out w8 h58 1 (by decide)).1
  have c1 : w8.cell? ⟨bc, oc + 2 + 1, none⟩ = some (.int .i64 7) := (HC.out w8 h58 1 (by decide)).2
  have d0 : w8.cell? ⟨bd, od, none⟩ = some (.int .i64 0) := (HD.out w8 h68 0 (by decide)).1
  have d1 : w8.cell? ⟨bd, od + 1, none⟩ = some (.int .i64 8) := (HD.out w8 h68 0 (by decide)).2
  have mi0 : w8.cell? ⟨bm, om + 2, none⟩ = some (.int .i64 4) := (HMi.out w8 hb8 1 (by decide)).1
  have mi1 : w8.cell? ⟨bm, om + 2 + 1, none⟩ = some (.int .i64 10) := (HMi.out w8 hb8 1 (by decide)).2
  have n0 : w8.cell? ⟨bn, on, none⟩ = some (.int .i64 2) := (HN.out w8 (Below.refl _ _) 0 (by decide)).1
  have n1 : w8.cell? ⟨bn, on + 1, none⟩ = some (.int .i64 3) := (HN.out w8 (Below.refl _ _) 0 (by decide)).2
  have H8 := Lib.hid (total_calls _ _ _ (pers_block w8 [(0, 10), (5, 20)] (by decide)) (by decide))
  rw [lit_total] at H8
  go_wp2_with fail
  refine H8.out.mono ?_
  rintro e w9 ⟨rfl, hbx⟩
  have hb9 : Below w8.heap.size w8 w9 := ((Below.refl _ _).alloc (Nat.le_refl _) _).trans (hbx.mono (by simp))
  go_wp2
  go_ret
  exact ⟨rfl, hw0.trans ((hb8W.trans (hb9.mono hb8W.size)).mono hw0.size)⟩
end Go.Proofs.Ytimclpgkdplnhaa
