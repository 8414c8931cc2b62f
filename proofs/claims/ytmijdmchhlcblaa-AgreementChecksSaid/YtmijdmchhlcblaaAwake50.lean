/-
  The awake check of layer 50.
-/
import Derived.Test.YtmijdmchhlcblaaAgPrice2
import Derived.Test.YtmijdmchhlcblaaAgCheck
import Derived.Test.YtmijdmchhlcblaaAgFind
namespace Go.Proofs.Ytmijdmchhlcblaa
open Go.RowKit

def exA : Ag := ⟨1, 1, false, 0, 9, [⟨0, 1, 5⟩], 100⟩
theorem exA_p1 : agPriceL exA 0 15 = (75, 0) := by decide +kernel
theorem exA_p2 : agPriceL exA 15 10 = (25, 0) := by decide +kernel
theorem exA_p3 : agPriceL exA 25 10 = (0, 0) := by decide +kernel
theorem exA_c1 : agCheckE [exA] = 0 := by decide +kernel
theorem exA_c2 : agCheckE [exA, exA] = 10 := by decide +kernel
theorem exA_f : [exA].any (fitsB 1 1 false 8) = true := by decide +kernel

theorem exA_price (sv : Value) (m n x : Int) (w : World) (h : StepsAt w sv [⟨0, 1, 5⟩]) (hp : agPriceL exA m n = (x, 0)) :
    Calls Try.prog 35 #[.agg #[.int .i64 1, .int .i64 1, .bool false, .int .i64 0, .int .i64 9, sv, .int .i64 100], .int .i64 m, .int .i64 n] w fun e w' => e = .returned (.tuple #[.int .i64 x, .int .i64 0]) ∧ Below w.heap.size w w' :=
  (agprice_calls exA sv m n w h).mono fun _ _ ⟨h1, h2⟩ => ⟨by rw [h1, hp]; rfl, h2⟩

theorem exA_one {w : World} {b : Nat} (h : StepsAt w (.slice (some ⟨b, 0, none⟩) 1 1) [⟨0, 1, 5⟩]) : AgsAt (w.alloc (Obj.cells #[.int .i64 1, .int .i64 1, .bool false, .int .i64 0, .int .i64 9, .slice (some ⟨b, 0, none⟩) 1 1, .int .i64 100] 55)) (.slice (some ⟨w.heap.size, 0, none⟩) 1 1) [exA] := by
  have hb : StepsAt (w.alloc (Obj.cells #[.int .i64 1, .int .i64 1, .bool false, .int .i64 0, .int .i64 9, .slice (some ⟨b, 0, none⟩) 1 1, .int .i64 100] 55)) (.slice (some ⟨b, 0, none⟩) 1 1) [⟨0, 1, 5⟩] := h.below ((Below.refl _ _).alloc (Nat.le_refl _) _)
  have r := heap_alloc_new w (Obj.cells #[.int .i64 1, .int .i64 1, .bool false, .int .i64 0, .int .i64 9, .slice (some ⟨b, 0, none⟩) 1 1, .int .i64 100] 55)
  refine ⟨some ⟨w.heap.size, 0, none⟩, 1, rfl, by decide, ⟨by decide, fun h => by cases h⟩, fun _ => ⟨w.heap.size, 0, rfl, by simp, fun i hi => ?_⟩⟩
  match i, hi with
  | 0, _ => exact ⟨cell_of_row _ _ 0 _ _ _ r, cell_of_row _ _ 1 _ _ _ r, cell_of_row _ _ 2 _ _ _ r, cell_of_row _ _ 3 _ _ _ r, cell_of_row _ _ 4 _ _ _ r, ⟨_, cell_of_row _ _ 5 _ _ _ r, hb, fun n cap h => by cases h⟩, cell_of_row _ _ 6 _ _ _ r⟩

theorem exA_two {w : World} {b : Nat} (h : StepsAt w (.slice (some ⟨b, 0, none⟩) 1 1) [⟨0, 1, 5⟩]) : AgsAt (w.alloc (Obj.cells #[.int .i64 1, .int .i64 1, .bool false, .int .i64 0, .int .i64 9, .slice (some ⟨b, 0, none⟩) 1 1, .int .i64 100, .int .i64 1, .int .i64 1, .bool false, .int .i64 0, .int .i64 9, .slice (some ⟨b, 0, none⟩) 1 1, .int .i64 100] 55)) (.slice (some ⟨w.heap.size, 0, none⟩) 2 2) [exA, exA] := by
  have hb : StepsAt (w.alloc (Obj.cells #[.int .i64 1, .int .i64 1, .bool false, .int .i64 0, .int .i64 9, .slice (some ⟨b, 0, none⟩) 1 1, .int .i64 100, .int .i64 1, .int .i64 1, .bool false, .int .i64 0, .int .i64 9, .slice (some ⟨b, 0, none⟩) 1 1, .int .i64 100] 55)) (.slice (some ⟨b, 0, none⟩) 1 1) [⟨0, 1, 5⟩] := h.below ((Below.refl _ _).alloc (Nat.le_refl _) _)
  have r := heap_alloc_new w (Obj.cells #[.int .i64 1, .int .i64 1, .bool false, .int .i64 0, .int .i64 9, .slice (some ⟨b, 0, none⟩) 1 1, .int .i64 100, .int .i64 1, .int .i64 1, .bool false, .int .i64 0, .int .i64 9, .slice (some ⟨b, 0, none⟩) 1 1, .int .i64 100] 55)
  refine ⟨some ⟨w.heap.size, 0, none⟩, 2, rfl, by decide, ⟨by decide, fun h => by cases h⟩, fun _ => ⟨w.heap.size, 0, rfl, by simp, fun i hi => ?_⟩⟩
  match i, hi with
  | 0, _ => exact ⟨cell_of_row _ _ 0 _ _ _ r, cell_of_row _ _ 1 _ _ _ r, cell_of_row _ _ 2 _ _ _ r, cell_of_row _ _ 3 _ _ _ r, cell_of_row _ _ 4 _ _ _ r, ⟨_, cell_of_row _ _ 5 _ _ _ r, hb, fun n cap h => by cases h⟩, cell_of_row _ _ 6 _ _ _ r⟩
  | 1, _ => exact ⟨cell_of_row _ _ 7 _ _ _ r, cell_of_row _ _ 8 _ _ _ r, cell_of_row _ _ 9 _ _ _ r, cell_of_row _ _ 10 _ _ _ r, cell_of_row _ _ 11 _ _ _ r, ⟨_, cell_of_row _ _ 12 _ _ _ r, hb, fun n cap h => by cases h⟩, cell_of_row _ _ 13 _ _ _ r⟩

theorem exA_check1 (w : World) (v : Value) (h : AgsAt w v [exA]) : Calls Try.prog 32 #[v] w fun e w' => e = .returned (.int .i64 0) ∧ Below w.heap.size w w' :=
  (agcheck_calls v [exA] w h).mono fun _ _ ⟨h1, h2⟩ => ⟨by rw [h1, exA_c1], h2⟩
theorem exA_check2 (w : World) (v : Value) (h : AgsAt w v [exA, exA]) : Calls Try.prog 32 #[v] w fun e w' => e = .returned (.int .i64 10) ∧ Below w.heap.size w w' :=
  (agcheck_calls v [exA, exA] w h).mono fun _ _ ⟨h1, h2⟩ => ⟨by rw [h1, exA_c2], h2⟩
theorem exA_find (w : World) (v : Value) (h : AgsAt w v [exA]) : Calls Try.prog 38 #[v, .int .i64 1, .int .i64 1, .bool false, .int .i64 8] w (FindTo w true) := by
  have := agfind_calls v [exA] 1 1 false 8 w h (by decide) (by intro a ha; rw [List.mem_singleton.1 ha]; decide)
  rwa [exA_f] at this

set_option maxRecDepth 100000 in
set_option maxHeartbeats 3200000 in
theorem alive50_calls (w : World) : Calls Try.prog 34 #[] w fun e w' => e = .returned (.bool true) ∧ Below w.heap.size w w' := by
  obtain ⟨W, hW⟩ : ∃ W, W = (w.alloc (Obj.cells #[.int .i64 0, .int .i64 1, .int .i64 5] 67)).alloc (Obj.cells #[.int .i64 1, .int .i64 1, .bool false, .int .i64 0, .int .i64 9, .slice (some ⟨w.heap.size, 0, none⟩) 1 1, .int .i64 100] 55) := ⟨_, rfl⟩
  have hw0 : Below w.heap.size w W := by rw [hW]; go_grown
  have hz : W.heap.size = w.heap.size + 2 := by rw [hW]; simp
  have r1 : W.heap[w.heap.size]? = some (Obj.cells #[.int .i64 0, .int .i64 1, .int .i64 5] 67) := by rw [hW, Below.heap_alloc _ _ _ (by simp)]; exact heap_alloc_new _ _
  have r2 : W.heap[w.heap.size + 1]? = some (Obj.cells #[.int .i64 1, .int .i64 1, .bool false, .int .i64 0, .int .i64 9, .slice (some ⟨w.heap.size, 0, none⟩) 1 1, .int .i64 100] 55) := by rw [hW]; simpa using heap_alloc_new (w.alloc _) _
  have hz2 : w.heap.size + 1 < W.heap.size := by omega
  have Hs := Lib.hid (show StepsAt W (.slice (some ⟨w.heap.size, 0, none⟩) 1 1) [⟨0, 1, 5⟩] from ⟨some ⟨w.heap.size, 0, none⟩, 1, rfl, by decide, fun _ => ⟨w.heap.size, 0, rfl, by omega, fun i hi => by
    match i, hi with
    | 0, _ => exact ⟨cell_of_row _ _ 0 _ _ _ r1, cell_of_row _ _ 1 _ _ _ r1, cell_of_row _ _ 2 _ _ _ r1⟩⟩⟩)
  have HW := Lib.hid hW
  have Hc := Lib.hid (show ∀ w', Below W.heap.size W w' → w'.cell? ⟨w.heap.size + 1, 0, none⟩ = some (.int .i64 1) ∧ w'.cell? ⟨w.heap.size + 1, 1, none⟩ = some (.int .i64 1) ∧ w'.cell? ⟨w.heap.size + 1, 2, none⟩ = some (.bool false) ∧ w'.cell? ⟨w.heap.size + 1, 3, none⟩ = some (.int .i64 0) ∧ w'.cell? ⟨w.heap.size + 1, 4, none⟩ = some (.int .i64 9) ∧ w'.cell? ⟨w.heap.size + 1, 5, none⟩ = some (.slice (some ⟨w.heap.size, 0, none⟩) 1 1) ∧ w'.cell? ⟨w.heap.size + 1, 6, none⟩ = some (.int .i64 100) from fun w' hb =>
    have q := (hb.block _ hz2).trans r2
    ⟨cell_of_row _ _ 0 _ _ _ q, cell_of_row _ _ 1 _ _ _ q, cell_of_row _ _ 2 _ _ _ q, cell_of_row _ _ 3 _ _ _ q, cell_of_row _ _ 4 _ _ _ q, cell_of_row _ _ 5 _ _ _ q, cell_of_row _ _ 6 _ _ _ q⟩)
  clear hW r1 r2 hz
  go_enter Try.func34, Try.ntmps34
  go_upto_region 2 with (fail)
  rw [← HW.out]
  obtain ⟨g0, g1, g2, g3, g4, g5, g6⟩ := Hc.out W (Below.refl _ _)
  go_wp2_with fail
  refine (exA_price _ 0 15 75 W Hs.out exA_p1).mono ?_
  rintro e w1 ⟨rfl, hb1⟩
  clear g0 g1 g2 g3 g4 g5 g6
  obtain ⟨g0, g1, g2, g3, g4, g5, g6⟩ := Hc.out w1 hb1
  go_wp2_with fail
  refine (exA_price _ 15 10 25 w1 (Hs.out.below hb1) exA_p2).mono ?_
  rintro e w2 ⟨rfl, hb⟩
  have hb2 := hb1.trans (hb.mono hb1.size)
  clear g0 g1 g2 g3 g4 g5 g6 hb hb1
  obtain ⟨g0, g1, g2, g3, g4, g5, g6⟩ := Hc.out w2 hb2
  go_wp2_with fail
  refine (exA_price _ 25 10 0 w2 (Hs.out.below hb2) exA_p3).mono ?_
  rintro e w3 ⟨rfl, hb⟩
  have hb3 := hb2.trans (hb.mono hb2.size)
  clear g0 g1 g2 g3 g4 g5 g6 hb hb2
  obtain ⟨g0, g1, g2, g3, g4, g5, g6⟩ := Hc.out w3 hb3
  go_wp2_with fail
  refine (exA_find _ _ (exA_one (Hs.out.below hb3))).mono ?_
  rintro e w4 ⟨p, k, i, f, t, av, n, cap, c, rfl, hb⟩
  have hb4 := hb3.trans (Below.trans (Below.alloc (Below.refl _ _) hb3.size _) (hb.mono (by have := hb3.size; simp; omega)))
  clear g0 g1 g2 g3 g4 g5 g6 hb hb3
  go_upto_region 6 with (fail)
  obtain ⟨V, hV⟩ : ∃ V, V = w4.alloc (Obj.cells #[.int .i64 p, .int .i64 k, .bool i, .int .i64 f, .int .i64 t, .slice av n cap, .int .i64 c] 55) := ⟨_, rfl⟩
  have hbV : Below W.heap.size W V := by rw [hV]; exact Below.alloc hb4 hb4.size _
  rw [← hV]
  clear hV hb4
  obtain ⟨g0, g1, g2, g3, g4, g5, g6⟩ := Hc.out V hbV
  go_wp2_with fail
  refine (exA_check2 _ _ (exA_two (Hs.out.below hbV))).mono ?_
  rintro e w5 ⟨rfl, hb⟩
  have hb5 := hbV.trans (Below.trans (Below.alloc (Below.refl _ _) hbV.size _) (hb.mono (by have := hbV.size; simp; omega)))
  clear g0 g1 g2 g3 g4 g5 g6 hb hbV
  obtain ⟨g0, g1, g2, g3, g4, g5, g6⟩ := Hc.out w5 hb5
  go_wp2_with fail
  refine (exA_check1 _ _ (exA_one (Hs.out.below hb5))).mono ?_
  rintro e w6 ⟨rfl, hb⟩
  have hb6 := hb5.trans (Below.trans (Below.alloc (Below.refl _ _) hb5.size _) (hb.mono (by have := hb5.size; simp; omega)))
  clear g0 g1 g2 g3 g4 g5 g6 hb hb5
  go_wp2
  go_ret
  exact ⟨rfl, hw0.trans (hb6.mono hw0.size)⟩
end Go.Proofs.Ytmijdmchhlcblaa
