/-
  The walk of chapter 30's awake: it returns true.
-/
import Derived.Test.YtnekgkmlodeckaaMgbv
import Derived.BigQuiet
namespace Go.Proofs.Ytnekgkmlodeckaa
open Go.RowKit

theorem rows4 {w V : World} {a b c d : Obj} (hV : V = (((w.alloc a).alloc b).alloc c).alloc d) : Below w.heap.size w V ∧ V.heap.size = w.heap.size + 4 ∧ V.heap[w.heap.size]? = some a ∧ V.heap[w.heap.size + 1]? = some b ∧ V.heap[w.heap.size + 2]? = some c ∧ V.heap[w.heap.size + 3]? = some d := by
  subst hV
  have h1 : (w.alloc a).heap.size = w.heap.size + 1 := by simp
  have h2 : ((w.alloc a).alloc b).heap.size = w.heap.size + 2 := by simp
  have h3 : (((w.alloc a).alloc b).alloc c).heap.size = w.heap.size + 3 := by simp
  refine ⟨((((Below.refl w.heap.size w).alloc (Nat.le_refl _) a).alloc (by simp) b).alloc (by simp; omega) c).alloc (by simp; omega) d, by simp, ?_, ?_, ?_, ?_⟩
  · rw [Below.heap_alloc _ _ _ (by omega), Below.heap_alloc _ _ _ (by omega), Below.heap_alloc _ _ _ (by omega)]
    exact heap_alloc_new _ _
  · rw [Below.heap_alloc _ _ _ (by omega), Below.heap_alloc _ _ _ (by omega), ← h1]
    exact heap_alloc_new _ _
  · rw [Below.heap_alloc _ _ _ (by omega), ← h2]
    exact heap_alloc_new _ _
  · rw [← h3]
    exact heap_alloc_new _ _
theorem rows2 {w V : World} {a b : Obj} (hV : V = (w.alloc a).alloc b) : Below w.heap.size w V ∧ V.heap.size = w.heap.size + 2 ∧ V.heap[w.heap.size]? = some a ∧ V.heap[w.heap.size + 1]? = some b := by
  subst hV
  have h1 : (w.alloc a).heap.size = w.heap.size + 1 := by simp
  refine ⟨((Below.refl w.heap.size w).alloc (Nat.le_refl _) a).alloc (by simp) b, by simp, ?_, ?_⟩
  · rw [Below.heap_alloc _ _ _ (by omega)]
    exact heap_alloc_new _ _
  · rw [← h1]
    exact heap_alloc_new _ _
theorem exSlots {X : World} {b : Nat} {t : TypeId} {f : Nat × Nat} (r : X.heap[b]? = some (.cells #[Value.int .i64 1, .int .i64 480, .int .i64 1080] t f)) : SlsAt X (.slice (some ⟨b, 0, none⟩) 1 1) [(1, 480, 1080)] := by
  refine ⟨_, 1, rfl, Nat.le_refl _, ⟨by decide, fun h => by cases h⟩, fun _ => ⟨b, 0, rfl, (Array.getElem?_eq_some_iff.1 r).1, fun i hi => ?_⟩⟩
  match i, hi with
  | 0, _ => exact ⟨cell_of_row X b 0 _ _ _ r, cell_of_row X b 1 _ _ _ r, cell_of_row X b 2 _ _ _ r⟩
theorem exBands {X : World} {b : Nat} {t : TypeId} {f : Nat × Nat} {v : Value} (r : X.heap[b]? = some (.cells #[Value.string sDay, v, .string sNight, .slice none 0 0] t f)) (h : SlsAt X v [(1, 480, 1080)]) : BnsAt X (.slice (some ⟨b, 0, none⟩) 2 2) exB := by
  refine ⟨_, 2, rfl, Nat.le_refl _, ⟨by decide, fun h => by cases h⟩, fun _ => ⟨b, 0, rfl, (Array.getElem?_eq_some_iff.1 r).1, fun i hi => ?_⟩⟩
  match i, hi with
  | 0, _ => exact ⟨⟨cell_of_row X b 0 _ _ _ r, show sDay.size ≤ maxLen by decide⟩, v, cell_of_row X b 1 _ _ _ r, h⟩
  | 1, _ => exact ⟨⟨cell_of_row X b 2 _ _ _ r, show sNight.size ≤ maxLen by decide⟩, _, cell_of_row X b 3 _ _ _ r, SliceAt.nil X⟩
theorem exSteps {X : World} {b : Nat} {t : TypeId} {f : Nat × Nat} (r : X.heap[b]? = some (.cells #[Value.int .i64 60, .int .i64 60, .int .i64 1000, .int .i64 0, .int .i64 1, .int .i64 20] t f)) : StpAt X (.slice (some ⟨b, 0, none⟩) 2 2) [⟨60, 60, 1000⟩, ⟨0, 1, 20⟩] := by
  refine ⟨_, 2, rfl, Nat.le_refl _, ⟨by decide, fun h => by cases h⟩, fun _ => ⟨b, 0, rfl, (Array.getElem?_eq_some_iff.1 r).1, fun i hi => ?_⟩⟩
  match i, hi with
  | 0, _ => exact ⟨cell_of_row X b 0 _ _ _ r, cell_of_row X b 1 _ _ _ r, cell_of_row X b 2 _ _ _ r⟩
  | 1, _ => exact ⟨cell_of_row X b 3 _ _ _ r, cell_of_row X b 4 _ _ _ r, cell_of_row X b 5 _ _ _ r⟩
theorem exRates {X : World} {b : Nat} {t : TypeId} {f : Nat × Nat} {v : Value} (r : X.heap[b]? = some (.cells #[Value.int .i64 1, .string { data := #[] }, .string { data := #[] }, .int .i64 5, v] t f)) (h : StpAt X v [⟨60, 60, 1000⟩, ⟨0, 1, 20⟩]) : RtsAt X (.slice (some ⟨b, 0, none⟩) 1 1) exR := by
  refine ⟨_, 1, rfl, Nat.le_refl _, ⟨by decide, fun h => by cases h⟩, fun _ => ⟨b, 0, rfl, (Array.getElem?_eq_some_iff.1 r).1, fun i hi => ?_⟩⟩
  match i, hi with
  | 0, _ => exact ⟨cell_of_row X b 0 _ _ _ r, ⟨cell_of_row X b 1 _ _ _ r, show ({ data := #[] } : ByteArray).size ≤ maxLen by decide⟩, ⟨cell_of_row X b 2 _ _ _ r, show ({ data := #[] } : ByteArray).size ≤ maxLen by decide⟩, cell_of_row X b 3 _ _ _ r, v, cell_of_row X b 4 _ _ _ r, h⟩

set_option maxRecDepth 100000 in
set_option maxHeartbeats 12800000 in
theorem awake30_calls (w : World) : Calls Try.prog 16 #[] w (BoolTo true w) := by
  obtain ⟨V, hV⟩ : ∃ V, V = (((w.alloc (Obj.cells #[Value.int .i64 60, .int .i64 60, .int .i64 1000, .int .i64 0, .int .i64 1, .int .i64 20] 94)).alloc (Obj.cells #[Value.int .i64 1, .int .i64 480, .int .i64 1080] 96)).alloc (Obj.cells #[Value.string { data := #[100, 97, 121] }, .slice (some ⟨w.heap.size + 1, 0, none⟩) 1 1, .string { data := #[110, 105, 103, 104, 116] }, .slice none 0 0] 86)).alloc (Obj.cells #[Value.int .i64 1, .string { data := #[] }, .string { data := #[] }, .int .i64 5, .slice (some ⟨w.heap.size, 0, none⟩) 2 2] 33) := ⟨_, rfl⟩
  obtain ⟨hbV, hzV, v0, v1, v2, v3⟩ := rows4 hV
  have HBs := Lib.hid (exBands v2 (exSlots v1))
  have HRs := Lib.hid (exRates v3 (exSteps v0))
  obtain ⟨W, hW⟩ : ∃ W, W = (V.alloc (Obj.cells #[Value.string { data := #[97] }, .int .i64 0, .bool true, .slice none 0 0, .slice (some ⟨w.heap.size + 2, 0, none⟩) 2 2, .slice (some ⟨w.heap.size + 3, 0, none⟩) 1 1, .slice none 0 0] 27)).alloc (Obj.cells #[Value.int .i64 0, .int .i64 1, .int .i64 0, .int .i64 0, .string { data := #[] }, .string { data := #[52, 57] }, .int .i64 201570, .int .i64 100, .int .i64 0, .bool false, .int .i64 0, .int .i64 0] 40) := ⟨_, rfl⟩
  obtain ⟨hbW, hzW, w4, w5⟩ := rows2 hW
  have HW := Lib.hid hW
  have HV := Lib.hid hV
  have HVW := Lib.hid (show W = (((((w.alloc (Obj.cells #[Value.int .i64 60, .int .i64 60, .int .i64 1000, .int .i64 0, .int .i64 1, .int .i64 20] 94)).alloc (Obj.cells #[Value.int .i64 1, .int .i64 480, .int .i64 1080] 96)).alloc (Obj.cells #[Value.string { data := #[100, 97, 121] }, .slice (some ⟨w.heap.size + 1, 0, none⟩) 1 1, .string { data := #[110, 105, 103, 104, 116] }, .slice none 0 0] 86)).alloc (Obj.cells #[Value.int .i64 1, .string { data := #[] }, .string { data := #[] }, .int .i64 5, .slice (some ⟨w.heap.size, 0, none⟩) 2 2] 33)).alloc (Obj.cells #[Value.string { data := #[97] }, .int .i64 0, .bool true, .slice none 0 0, .slice (some ⟨w.heap.size + 2, 0, none⟩) 2 2, .slice (some ⟨w.heap.size + 3, 0, none⟩) 1 1, .slice none 0 0] 27)).alloc (Obj.cells #[Value.int .i64 0, .int .i64 1, .int .i64 0, .int .i64 0, .string { data := #[] }, .string { data := #[52, 57] }, .int .i64 201570, .int .i64 100, .int .i64 0, .bool false, .int .i64 0, .int .i64 0] 40) by rw [hW, hV])
  rw [hzV] at w4 w5
  have Hb0 := Lib.hid hbV
  have HbW := Lib.hid hbW
  have t := fun j => cell_of_row W (w.heap.size + 4) j _ _ _ w4
  have t0 := t 0
  have t1 := t 1
  have t2 := t 2
  have t3 := t 3
  have t4 := t 4
  have t5 := t 5
  have t6 := t 6
  have y := fun j => cell_of_row W (w.heap.size + 4 + 1) j _ _ _ w5
  have u0 := y 0
  have u1 := y 1
  have u2 := y 2
  have u3 := y 3
  have u4 := y 4
  have u5 := y 5
  have u6 := y 6
  have u7 := y 7
  have u8 := y 8
  have u9 := y 9
  have u10 := y 10
  have u11 := y 11
  have HP := Lib.hid (sprice_calls { data := #[97] } 0 true (.slice none 0 0) (.slice (some ⟨w.heap.size + 2, 0, none⟩) 2 2) (.slice (some ⟨w.heap.size + 3, 0, none⟩) 1 1) (.slice none 0 0) (.slice none 0 0) [] exB exR [] exU 10 W (SliceAt.nil W) (HBs.out.below HbW.out) (HRs.out.below HbW.out) ⟨none, 0, 0, rfl⟩ (SliceAt.nil W) (by decide) (by simp))
  have HC := Lib.hid (fun w1 (h : Below V.heap.size V w1) => scut_calls { data := #[97] } 0 false (.slice none 0 0) (.slice (some ⟨w.heap.size + 2, 0, none⟩) 2 2) (.slice (some ⟨w.heap.size + 3, 0, none⟩) 1 1) (.slice none 0 0) (.slice none 0 0) exB [] exU 10 w1 ⟨none, 0, 0, rfl⟩ ⟨_, _, _, rfl⟩ ⟨none, 0, 0, rfl⟩ (HBs.out.below h) (SliceAt.nil w1))
  unfold Us.row at HP HC
  have Hz := Lib.hid (show V.heap.size = w.heap.size + 4 ∧ W.heap.size = w.heap.size + 4 + 2 from ⟨hzV, by rw [hzW, hzV]⟩)
  have Hw4 := Lib.hid w4
  have Hw5 := Lib.hid w5
  clear hV hW hbV hzV v0 v1 v2 v3 hbW hzW w4 w5 t y
  go_enter Try.func16, Try.ntmps16
  go_upto_region 4 with (fail)
  rw [← HVW.out]
  go_wp2_with fail
  refine HP.out.mono ?_
  rintro e w1 ⟨L, vL, hSeg, he, hSg, hb1⟩
  obtain rfl := ex_seg hSeg
  rw [ex_price] at he hSg
  subst he
  obtain ⟨aL, cL, rfl, hcL, hmL, hx⟩ := hSg
  obtain ⟨bL, oL, rfl, hBL, hx⟩ := hx (by simp)
  obtain ⟨p0, p1, p2, p3⟩ := hx 0 (by simp)
  obtain ⟨p4, p5, p6, p7⟩ := hx 1 (by simp)
  simp only [Nat.zero_mul, Nat.add_zero, Nat.one_mul, List.getElem_cons_zero, List.getElem_cons_succ] at p0 p1 p2 p3 p4 p5 p6 p7
  have hrow4 := (hb1.block (w.heap.size + 4) (by have := Hz.out.2; omega)).trans Hw4.out
  have hrow5 := (hb1.block (w.heap.size + 4 + 1) (by have := Hz.out.2; omega)).trans Hw5.out
  have hVW1 := HbW.out.trans (hb1.mono HbW.out.size)
  obtain ⟨W2, hW2⟩ : ∃ W2, W2 = w1.setCell ⟨w.heap.size + 4, 2, none⟩ (.bool false) := ⟨_, rfl⟩
  have hb2 : Below V.heap.size V W2 := by rw [hW2]; exact hVW1.setCell (p := ⟨w.heap.size + 4, 2, none⟩) (by show V.heap.size ≤ w.heap.size + 4; have := Hz.out.1; omega) _
  have hc2 : w1.cell? ⟨w.heap.size + 4, 2, none⟩ = some (.bool true) := cell_of_row w1 _ 2 _ _ _ hrow4
  have hf2 : w1.frozen? ⟨w.heap.size + 4, 2, none⟩ = false := by simp [World.frozen?, hrow4]
  have Hset := Lib.hid (show ∀ (b j : Nat) (v : Value), ¬ (b = w.heap.size + 4 ∧ j = 2) → w1.cell? ⟨b, j, none⟩ = some v → W2.cell? ⟨b, j, none⟩ = some v from fun b j v hne h => by
    rw [hW2, World.cell?_setCell_other w1 ⟨w.heap.size + 4, 2, none⟩ ⟨b, j, none⟩ _ (by intro e; simp only [Addr.mk.injEq] at e; exact hne ⟨e.1.symm, e.2.1.symm⟩)]
    exact h)
  have q2 : W2.cell? ⟨w.heap.size + 4, 2, none⟩ = some (.bool false) := by rw [hW2]; exact World.cell?_setCell_same _ _ _ hc2
  have q0 := Hset.out _ _ _ (by omega) (cell_of_row w1 _ 0 _ _ _ hrow4)
  have q1 := Hset.out _ _ _ (by omega) (cell_of_row w1 _ 1 _ _ _ hrow4)
  have q3 := Hset.out _ _ _ (by omega) (cell_of_row w1 _ 3 _ _ _ hrow4)
  have q4 := Hset.out _ _ _ (by omega) (cell_of_row w1 _ 4 _ _ _ hrow4)
  have q5 := Hset.out _ _ _ (by omega) (cell_of_row w1 _ 5 _ _ _ hrow4)
  have q6 := Hset.out _ _ _ (by omega) (cell_of_row w1 _ 6 _ _ _ hrow4)
  have r0 := Hset.out _ _ _ (by omega) (cell_of_row w1 _ 0 _ _ _ hrow5)
  have r1 := Hset.out _ _ _ (by omega) (cell_of_row w1 _ 1 _ _ _ hrow5)
  have r2 := Hset.out _ _ _ (by omega) (cell_of_row w1 _ 2 _ _ _ hrow5)
  have r3 := Hset.out _ _ _ (by omega) (cell_of_row w1 _ 3 _ _ _ hrow5)
  have r4 := Hset.out _ _ _ (by omega) (cell_of_row w1 _ 4 _ _ _ hrow5)
  have r5 := Hset.out _ _ _ (by omega) (cell_of_row w1 _ 5 _ _ _ hrow5)
  have r6 := Hset.out _ _ _ (by omega) (cell_of_row w1 _ 6 _ _ _ hrow5)
  have r7 := Hset.out _ _ _ (by omega) (cell_of_row w1 _ 7 _ _ _ hrow5)
  have r8 := Hset.out _ _ _ (by omega) (cell_of_row w1 _ 8 _ _ _ hrow5)
  have r9 := Hset.out _ _ _ (by omega) (cell_of_row w1 _ 9 _ _ _ hrow5)
  have r10 := Hset.out _ _ _ (by omega) (cell_of_row w1 _ 10 _ _ _ hrow5)
  have r11 := Hset.out _ _ _ (by omega) (cell_of_row w1 _ 11 _ _ _ hrow5)
  have hbl4 : ¬ bL = w.heap.size + 4 := by
    rintro rfl
    have h : w1.cell? ⟨w.heap.size + 4, oL, none⟩ = (#[Value.string { data := #[97] }, .int .i64 0, .bool true, .slice none 0 0, .slice (some ⟨w.heap.size + 2, 0, none⟩) 2 2, .slice (some ⟨w.heap.size + 3, 0, none⟩) 1 1, .slice none 0 0] : Array Value)[oL]? := by simp [World.cell?, hrow4]
    rw [p0] at h
    match oL, h with
    | 0, h => simp at h
    | 1, h => simp at h
    | 2, h => simp at h
    | 3, h => simp at h
    | 4, h => simp at h
    | 5, h => simp at h
    | 6, h => simp at h
    | n + 7, h => simp at h
  have hBL2 : bL < W2.heap.size := by rw [hW2]; simpa using hBL
  have hU2 : w.heap.size + 4 + 1 < W2.heap.size := by rw [hW2]; have := hb1.size; have := Hz.out.2; simp; omega
  have HW2 := Lib.hid hW2
  have HC2 := Lib.hid (HC.out W2 hb2)
  have Hb2 := Lib.hid hb2
  clear hrow4 hrow5 hW2 hb2 hVW1 hx
  go_upto_region 6 with (fail)
  rw [← HW2.out]
  clear hc2 hf2
  go_wp2_with fail
  refine HC2.out.mono ?_
  rintro e w3 ⟨v3, M, rfl, hown, hSeg2, hb3⟩
  obtain rfl := ex_seg2 hSeg2
  obtain ⟨aM, cM, rfl, hcM, hmM, hx⟩ := (SgsAt.own hown : SgsAt w3 v3 _)
  obtain ⟨bM, oM, rfl, hBM, hx⟩ := hx (by simp)
  obtain ⟨n0, -, n2, -⟩ := hx 0 (by simp)
  simp only [Nat.zero_mul, Nat.add_zero, List.getElem_cons_zero] at n0 n2
  have s0 := (hb3.cell (p := ⟨bL, _, none⟩) hBL2).trans (Hset.out _ _ _ (fun h => hbl4 h.1) p0)
  have s1 := (hb3.cell (p := ⟨bL, _, none⟩) hBL2).trans (Hset.out _ _ _ (fun h => hbl4 h.1) p1)
  have s2 := (hb3.cell (p := ⟨bL, _, none⟩) hBL2).trans (Hset.out _ _ _ (fun h => hbl4 h.1) p2)
  have s3 := (hb3.cell (p := ⟨bL, _, none⟩) hBL2).trans (Hset.out _ _ _ (fun h => hbl4 h.1) p3)
  have s4 := (hb3.cell (p := ⟨bL, _, none⟩) hBL2).trans (Hset.out _ _ _ (fun h => hbl4 h.1) p4)
  have s5 := (hb3.cell (p := ⟨bL, _, none⟩) hBL2).trans (Hset.out _ _ _ (fun h => hbl4 h.1) p5)
  have s6 := (hb3.cell (p := ⟨bL, _, none⟩) hBL2).trans (Hset.out _ _ _ (fun h => hbl4 h.1) p6)
  have s7 := (hb3.cell (p := ⟨bL, _, none⟩) hBL2).trans (Hset.out _ _ _ (fun h => hbl4 h.1) p7)
  have g6 := (hb3.cell (p := ⟨w.heap.size + 4 + 1, _, none⟩) hU2).trans r6
  have HB := Lib.hid (Hb0.out.trans ((Hb2.out.trans (hb3.mono Hb2.out.size)).mono Hb0.out.size))
  clear p0 p1 p2 p3 p4 p5 p6 p7 q0 q1 q2 q3 q4 q5 q6 r0 r1 r2 r3 r4 r5 r6 r7 r8 r9 r10 r11 hx hown hSeg hSeg2 hb3 hbl4
  have e1 : (({ data := #[110, 105, 103, 104, 116] } : ByteArray).toList == ({ data := #[110, 105, 103, 104, 116] } : ByteArray).toList) = true := beq_self_eq_true _
  have e2 : (({ data := #[100, 97, 121] } : ByteArray).toList == ({ data := #[100, 97, 121] } : ByteArray).toList) = true := beq_self_eq_true _
  go_upto_region 7 with (fail)
  go_big_quiet (fail)
  go_wp2
  go_ret
  exact ⟨rfl, below_drewN5 HB.out _⟩
end Go.Proofs.Ytnekgkmlodeckaa
