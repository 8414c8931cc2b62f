/-
  The awake check of layer 19.
-/
import Derived.Test.YtmijdmchhlcblaaAt19
import Derived.Test.YtmijdmchhlcblaaNames19
import Derived.Test.YtmijdmchhlcblaaFees19
import Derived.Deep.RegionHeld3
namespace Go.Proofs.Ytmijdmchhlcblaa
open Go.RowKit

/-- The chapter's two versions. -/
def exP0 : Pd := ⟨⟨#[102, 108, 97, 116]⟩, 0, 100, ⟨#[102, 101, 101, 115]⟩, false, []⟩
def exP1 : Pd := ⟨⟨#[102, 108, 97, 116]⟩, 1000, 120, ⟨#[102, 101, 101, 115]⟩, false, []⟩
def exP : List Pd := [exP0, exP1]

theorem exP_f : feesL (exP.filter (fun x : Pd => eqS x.nm ⟨#[102, 108, 97, 116]⟩)) 500 1500 = [(500, 1000, 100), (1000, 1500, 120)] := by decide +kernel
theorem exP_a : atL exP ⟨#[102, 108, 97, 116]⟩ 999 = some exP0 := by kernel_rfl
theorem exP_c : checkE exP = 0 := by decide +kernel
theorem exP_d : checkE [exP1, exP0] = 9 := by decide +kernel
theorem exP_n : namesL [exP1] 999 = [] := by decide +kernel
theorem exP_m : namesL exP 1000 = [⟨#[102, 108, 97, 116]⟩] := by decide +kernel

theorem own_cells {w : World} {base : Nat} {e : TypeId} {sz n : Nat} {v : Value} {xs : List Value} (h : w.ownsRow base e sz v n xs) (hn : 0 < n) :
    ∃ g cap, v = .slice (some ⟨g, 0, none⟩) n cap ∧ base ≤ g ∧ g < w.heap.size ∧ n ≤ cap ∧ cap ≤ maxLen ∧ ∀ i, i < n * sz → w.cell? ⟨g, i, none⟩ = xs[i]? := by
  obtain ⟨-, h2⟩ := h
  rcases h2 with ⟨-, h0⟩ | ⟨g, cap, cur, rfl, hB, hh, h1, h2, h3, h4⟩
  · omega
  · refine ⟨g, cap, rfl, hB, (Array.getElem?_eq_some_iff.1 hh).1, h1, h2, fun i hi => ?_⟩
    rw [← h4, List.getElem?_take_of_lt hi]
    simp only [World.cell?, hh, Option.isSome_none, Bool.false_eq_true, if_false]
    simp

set_option linter.unusedSimpArgs false in
theorem ex_at (w : World) : PdsAt (w.alloc (Obj.cells #[.string ⟨#[102, 108, 97, 116]⟩, .int .i64 0, .int .i64 100, .string ⟨#[102, 101, 101, 115]⟩, .bool false, .slice none 0 0, .string ⟨#[102, 108, 97, 116]⟩, .int .i64 1000, .int .i64 120, .string ⟨#[102, 101, 101, 115]⟩, .bool false, .slice none 0 0] 33)) (.slice (some ⟨w.heap.size, 0, none⟩) 2 2) exP := by
  refine ⟨some ⟨w.heap.size, 0, none⟩, 2, rfl, by decide, ⟨by decide, fun h => by cases h⟩, fun _ => ⟨w.heap.size, 0, rfl, by simp, fun i hi => ?_⟩⟩
  match i, hi with
  | 0, _ => exact ⟨⟨by simp [go_sem, exP, exP0], show (4 : Nat) ≤ maxLen by decide⟩, by simp [go_sem, exP, exP0], by simp [go_sem, exP, exP0], ⟨by simp [go_sem, exP, exP0], show (4 : Nat) ≤ maxLen by decide⟩, by simp [go_sem, exP, exP0], _, by simp [go_sem, exP, exP0], SliceAt.nil _⟩
  | 1, _ => exact ⟨⟨by simp [go_sem, exP, exP1], show (4 : Nat) ≤ maxLen by decide⟩, by simp [go_sem, exP, exP1], by simp [go_sem, exP, exP1], ⟨by simp [go_sem, exP, exP1], show (4 : Nat) ≤ maxLen by decide⟩, by simp [go_sem, exP, exP1], _, by simp [go_sem, exP, exP1], SliceAt.nil _⟩

set_option linter.unusedSimpArgs false in
theorem ex_at2 (w : World) : PdsAt (w.alloc (Obj.cells #[.string ⟨#[102, 108, 97, 116]⟩, .int .i64 1000, .int .i64 120, .string ⟨#[102, 101, 101, 115]⟩, .bool false, .slice none 0 0, .string ⟨#[102, 108, 97, 116]⟩, .int .i64 0, .int .i64 100, .string ⟨#[102, 101, 101, 115]⟩, .bool false, .slice none 0 0] 33)) (.slice (some ⟨w.heap.size, 0, none⟩) 2 2) [exP1, exP0] := by
  refine ⟨some ⟨w.heap.size, 0, none⟩, 2, rfl, by decide, ⟨by decide, fun h => by cases h⟩, fun _ => ⟨w.heap.size, 0, rfl, by simp, fun i hi => ?_⟩⟩
  match i, hi with
  | 0, _ => exact ⟨⟨by simp [go_sem, exP, exP1], show (4 : Nat) ≤ maxLen by decide⟩, by simp [go_sem, exP, exP1], by simp [go_sem, exP, exP1], ⟨by simp [go_sem, exP, exP1], show (4 : Nat) ≤ maxLen by decide⟩, by simp [go_sem, exP, exP1], _, by simp [go_sem, exP, exP1], SliceAt.nil _⟩
  | 1, _ => exact ⟨⟨by simp [go_sem, exP, exP0], show (4 : Nat) ≤ maxLen by decide⟩, by simp [go_sem, exP, exP0], by simp [go_sem, exP, exP0], ⟨by simp [go_sem, exP, exP0], show (4 : Nat) ≤ maxLen by decide⟩, by simp [go_sem, exP, exP0], _, by simp [go_sem, exP, exP0], SliceAt.nil _⟩

set_option linter.unusedSimpArgs false in
theorem ex_at1 (w : World) : PdsAt (w.alloc (Obj.cells #[.string ⟨#[102, 108, 97, 116]⟩, .int .i64 0, .int .i64 100, .string ⟨#[102, 101, 101, 115]⟩, .bool false, .slice none 0 0, .string ⟨#[102, 108, 97, 116]⟩, .int .i64 1000, .int .i64 120, .string ⟨#[102, 101, 101, 115]⟩, .bool false, .slice none 0 0] 33)) (.slice (some ⟨w.heap.size, 6, none⟩) 1 1) [exP1] := by
  refine ⟨some ⟨w.heap.size, 6, none⟩, 1, rfl, by decide, ⟨by decide, fun h => by cases h⟩, fun _ => ⟨w.heap.size, 6, rfl, by simp, fun i hi => ?_⟩⟩
  match i, hi with
  | 0, _ => exact ⟨⟨by simp [go_sem, exP, exP1], show (4 : Nat) ≤ maxLen by decide⟩, by simp [go_sem, exP, exP1], by simp [go_sem, exP, exP1], ⟨by simp [go_sem, exP, exP1], show (4 : Nat) ≤ maxLen by decide⟩, by simp [go_sem, exP, exP1], _, by simp [go_sem, exP, exP1], SliceAt.nil _⟩

theorem ck1 (v : Value) (w : World) (h : PdsAt w v exP) : Calls Try.prog 18 #[v] w fun e w' => e = .returned (.int .i64 0) ∧ Below w.heap.size w w' :=
  (pcheck_calls v exP w h).mono fun _ _ ⟨h1, h2⟩ => ⟨by rw [h1, exP_c], h2⟩
theorem ck2 (w : World) : Calls Try.prog 18 #[.slice (some ⟨w.heap.size, 0, none⟩) 2 2] (w.alloc (Obj.cells #[.string ⟨#[102, 108, 97, 116]⟩, .int .i64 1000, .int .i64 120, .string ⟨#[102, 101, 101, 115]⟩, .bool false, .slice none 0 0, .string ⟨#[102, 108, 97, 116]⟩, .int .i64 0, .int .i64 100, .string ⟨#[102, 101, 101, 115]⟩, .bool false, .slice none 0 0] 33)) fun e w' => e = .returned (.int .i64 9) ∧ Below w.heap.size w w' :=
  (pcheck_calls _ [exP1, exP0] _ (ex_at2 w)).mono fun _ _ ⟨h1, h2⟩ => ⟨by rw [h1, exP_d], Below.trans (by go_grown) (h2.mono (by simp))⟩
theorem nm1 (v : Value) (w : World) (h : PdsAt w v [exP1]) : Calls Try.prog 25 #[v, .int .i64 999] w fun e w' => (∃ a c, e = .returned (.slice a 0 c)) ∧ Below w.heap.size w w' :=
  (names_calls v [exP1] 999 w h (by decide)).mono fun _ _ ⟨v, h1, h2, h3⟩ => ⟨by rw [exP_n] at h2; obtain ⟨a, c, rfl, -⟩ := h2; exact ⟨a, c, h1⟩, h3⟩
theorem nm2 (v : Value) (w : World) (h : PdsAt w v exP) : Calls Try.prog 25 #[v, .int .i64 1000] w fun e w' => (∃ a c, e = .returned (.slice a 1 c)) ∧ Below w.heap.size w w' :=
  (names_calls v exP 1000 w h (by decide)).mono fun _ _ ⟨v, h1, h2, h3⟩ => ⟨by rw [exP_m] at h2; obtain ⟨a, c, rfl, -⟩ := h2; exact ⟨a, c, h1⟩, h3⟩

set_option maxRecDepth 100000 in
set_option maxHeartbeats 12800000 in
theorem awake19_calls (w : World) : Calls Try.prog 17 #[] w fun e w' => e = .returned (.bool true) ∧ Below w.heap.size w w' := by
  obtain ⟨W, hW⟩ : ∃ W, W = w.alloc (Obj.cells #[.string ⟨#[102, 108, 97, 116]⟩, .int .i64 0, .int .i64 100, .string ⟨#[102, 101, 101, 115]⟩, .bool false, .slice none 0 0, .string ⟨#[102, 108, 97, 116]⟩, .int .i64 1000, .int .i64 120, .string ⟨#[102, 101, 101, 115]⟩, .bool false, .slice none 0 0] 33) := ⟨_, rfl⟩
  have hat : PdsAt W (.slice (some ⟨w.heap.size, 0, none⟩) 2 2) exP := by rw [hW]; exact ex_at w
  have hat1 : PdsAt W (.slice (some ⟨w.heap.size, 6, none⟩) 1 1) [exP1] := by rw [hW]; exact ex_at1 w
  have hw0 : Below w.heap.size w W := by rw [hW]; go_grown
  have hWz : W.heap.size = w.heap.size + 1 := by rw [hW]; simp
  have hr : W.heap[w.heap.size]? = some (Obj.cells #[.string ⟨#[102, 108, 97, 116]⟩, .int .i64 0, .int .i64 100, .string ⟨#[102, 101, 101, 115]⟩, .bool false, .slice none 0 0, .string ⟨#[102, 108, 97, 116]⟩, .int .i64 1000, .int .i64 120, .string ⟨#[102, 101, 101, 115]⟩, .bool false, .slice none 0 0] 33) := by rw [hW]; exact heap_alloc_new _ _
  have HW := Lib.hid hW
  have Hr := Lib.hid hr
  have Hf := Lib.hid exP_f
  have Hat := Lib.hid hat
  have Hat1 := Lib.hid hat1
  have Ec := Lib.hid exP_c
  have Ed := Lib.hid exP_d
  have En := Lib.hid exP_n
  have Em := Lib.hid exP_m
  have Hfew := Lib.hid (show FewP exP from ⟨by decide, by intro p hp; simp [exP] at hp; rcases hp with rfl | rfl <;> simp [exP0, exP1]⟩)
  clear hW hr hat hat1
  go_enter Try.func17, Try.ntmps17
  go_wp2_with fail
  rw [← HW.out]
  refine (fees_calls _ exP _ 500 1500 W Hat.out (by decide) (by omega) (by omega) (by omega)).mono ?_
  rintro e w1 ⟨v1, rfl, hown, hb1⟩
  rw [Hf.out] at hown
  obtain ⟨g, cap, rfl, hg, hg1, hc, hc2, hcell⟩ := own_cells hown (by decide)
  have f0 : w1.cell? ⟨g, 0, none⟩ = some (.int .i64 500) := hcell 0 (by decide)
  have f1 : w1.cell? ⟨g, 1, none⟩ = some (.int .i64 1000) := hcell 1 (by decide)
  have f2 : w1.cell? ⟨g, 2, none⟩ = some (.int .i64 100) := hcell 2 (by decide)
  have f3 : w1.cell? ⟨g, 3, none⟩ = some (.int .i64 1000) := hcell 3 (by decide)
  have f4 : w1.cell? ⟨g, 4, none⟩ = some (.int .i64 1500) := hcell 4 (by decide)
  have f5 : w1.cell? ⟨g, 5, none⟩ = some (.int .i64 120) := hcell 5 (by decide)
  clear hown hcell
  go_wp2_with fail
  refine (at_yes _ exP _ 999 exP0 w1 (Hat.out.below hb1) Hfew.out exP_a).mono ?_
  rintro e w2 ⟨bv, rfl, hbv, hb2⟩
  obtain ⟨a2, c2, rfl, -, -, -⟩ := hbv
  have f0 := (World.cell?_of_block (a := ⟨g, 0, none⟩) (hb2.block g hg1)).trans f0
  have f1 := (World.cell?_of_block (a := ⟨g, 1, none⟩) (hb2.block g hg1)).trans f1
  have f2 := (World.cell?_of_block (a := ⟨g, 2, none⟩) (hb2.block g hg1)).trans f2
  have f3 := (World.cell?_of_block (a := ⟨g, 3, none⟩) (hb2.block g hg1)).trans f3
  have f4 := (World.cell?_of_block (a := ⟨g, 4, none⟩) (hb2.block g hg1)).trans f4
  have f5 := (World.cell?_of_block (a := ⟨g, 5, none⟩) (hb2.block g hg1)).trans f5
  have hc12 := hb1.trans (hb2.mono hb1.size)
  unfold pdVal exP0
  dsimp only
  go_wp2_with fail
  obtain ⟨Y, hY⟩ : ∃ Y, Y = w2.alloc (Obj.cells #[.string ⟨#[102, 108, 97, 116]⟩, .int .i64 0, .int .i64 100, .string ⟨#[102, 101, 101, 115]⟩, .bool false, .slice a2 0 c2] 33) := ⟨_, rfl⟩
  have hbY : Below w2.heap.size w2 Y := by rw [hY]; go_grown
  have hg2 : g < w2.heap.size := Nat.lt_of_lt_of_le hg1 hb2.size
  have hzY : Y.heap.size = w2.heap.size + 1 := by rw [hY]; simp
  have hpY : Y.cell? ⟨w2.heap.size, 2, none⟩ = some (.int .i64 100) := by rw [hY]; simp [go_sem]
  have hcY : Below W.heap.size W Y := hc12.trans (hbY.mono hc12.size)
  have hgY : g < Y.heap.size := by omega
  have PY := Lib.hid hpY
  have F0 := Lib.hid (show Y.cell? ⟨g, 0, none⟩ = _ from (World.cell?_of_block (a := ⟨g, 0, none⟩) (hbY.block g hg2)).trans f0)
  have F1 := Lib.hid (show Y.cell? ⟨g, 1, none⟩ = _ from (World.cell?_of_block (a := ⟨g, 1, none⟩) (hbY.block g hg2)).trans f1)
  have F2 := Lib.hid (show Y.cell? ⟨g, 2, none⟩ = _ from (World.cell?_of_block (a := ⟨g, 2, none⟩) (hbY.block g hg2)).trans f2)
  have F3 := Lib.hid (show Y.cell? ⟨g, 3, none⟩ = _ from (World.cell?_of_block (a := ⟨g, 3, none⟩) (hbY.block g hg2)).trans f3)
  have F4 := Lib.hid (show Y.cell? ⟨g, 4, none⟩ = _ from (World.cell?_of_block (a := ⟨g, 4, none⟩) (hbY.block g hg2)).trans f4)
  have F5 := Lib.hid (show Y.cell? ⟨g, 5, none⟩ = _ from (World.cell?_of_block (a := ⟨g, 5, none⟩) (hbY.block g hg2)).trans f5)
  have rY := Lib.hid ((hcY.block w.heap.size (by omega)).trans Hr.out)
  have hwY : w.heap.size < Y.heap.size := by have := hcY.size; omega
  have Bdr := Lib.hid (show Below Y.heap.size Y Y.drew from (Below.refl _ _).drew)
  obtain ⟨pb, hpb⟩ : ∃ pb, pb = w2.heap.size := ⟨_, rfl⟩
  rw [← hY, ← hpb]
  rw [← hpb] at PY
  have hpbY : pb < Y.heap.size := by omega
  clear hY f0 f1 f2 f3 f4 f5 hpY hbY hb2 hb1 hc hc2 hpb
  have Mk := Lib.hid (show ∀ w' : World, Below Y.heap.size Y w' → (fun w' => Below Y.heap.size Y w' ∧ w'.cell? ⟨w.heap.size, 0, none⟩ = some (.string ⟨#[102, 108, 97, 116]⟩) ∧ w'.cell? ⟨w.heap.size, 1, none⟩ = some (.int .i64 0) ∧ w'.cell? ⟨w.heap.size, 2, none⟩ = some (.int .i64 100) ∧ w'.cell? ⟨w.heap.size, 3, none⟩ = some (.string ⟨#[102, 101, 101, 115]⟩) ∧ w'.cell? ⟨w.heap.size, 4, none⟩ = some (.bool false) ∧ w'.cell? ⟨w.heap.size, 5, none⟩ = some (.slice none 0 0) ∧ w'.cell? ⟨w.heap.size, 6, none⟩ = some (.string ⟨#[102, 108, 97, 116]⟩) ∧ w'.cell? ⟨w.heap.size, 7, none⟩ = some (.int .i64 1000) ∧ w'.cell? ⟨w.heap.size, 8, none⟩ = some (.int .i64 120) ∧ w'.cell? ⟨w.heap.size, 9, none⟩ = some (.string ⟨#[102, 101, 101, 115]⟩) ∧ w'.cell? ⟨w.heap.size, 10, none⟩ = some (.bool false) ∧ w'.cell? ⟨w.heap.size, 11, none⟩ = some (.slice none 0 0) ∧ w'.cell? ⟨g, 0, none⟩ = some (.int .i64 500) ∧ w'.cell? ⟨g, 1, none⟩ = some (.int .i64 1000) ∧ w'.cell? ⟨g, 2, none⟩ = some (.int .i64 100) ∧ w'.cell? ⟨g, 3, none⟩ = some (.int .i64 1000) ∧ w'.cell? ⟨g, 4, none⟩ = some (.int .i64 1500) ∧ w'.cell? ⟨g, 5, none⟩ = some (.int .i64 120) ∧ w'.cell? ⟨pb, 2, none⟩ = some (.int .i64 100)) w' from fun w' hb => by
    have r3 := (hb.block w.heap.size hwY).trans rY.out
    exact ⟨hb, cell_of_row w' _ 0 _ _ _ r3, cell_of_row w' _ 1 _ _ _ r3, cell_of_row w' _ 2 _ _ _ r3, cell_of_row w' _ 3 _ _ _ r3, cell_of_row w' _ 4 _ _ _ r3, cell_of_row w' _ 5 _ _ _ r3, cell_of_row w' _ 6 _ _ _ r3, cell_of_row w' _ 7 _ _ _ r3, cell_of_row w' _ 8 _ _ _ r3, cell_of_row w' _ 9 _ _ _ r3, cell_of_row w' _ 10 _ _ _ r3, cell_of_row w' _ 11 _ _ _ r3, (World.cell?_of_block (a := ⟨g, 0, none⟩) (hb.block g hgY)).trans F0.out, (World.cell?_of_block (a := ⟨g, 1, none⟩) (hb.block g hgY)).trans F1.out, (World.cell?_of_block (a := ⟨g, 2, none⟩) (hb.block g hgY)).trans F2.out, (World.cell?_of_block (a := ⟨g, 3, none⟩) (hb.block g hgY)).trans F3.out, (World.cell?_of_block (a := ⟨g, 4, none⟩) (hb.block g hgY)).trans F4.out, (World.cell?_of_block (a := ⟨g, 5, none⟩) (hb.block g hgY)).trans F5.out, (World.cell?_of_block (a := ⟨pb, 2, none⟩) (hb.block pb hpbY)).trans PY.out⟩)
  have HwY := Lib.hid (show Below w.heap.size w Y from hw0.trans (hcY.mono hw0.size))
  have HatY := Lib.hid (Hat.out.below hcY)
  have Hat1Y := Lib.hid (Hat1.out.below hcY)
  clear F0 F1 F2 F3 F4 F5 PY rY Bdr hcY
  go_region_held3 (fun w' => Below Y.heap.size Y w' ∧ w'.cell? ⟨w.heap.size, 0, none⟩ = some (.string ⟨#[102, 108, 97, 116]⟩) ∧ w'.cell? ⟨w.heap.size, 1, none⟩ = some (.int .i64 0) ∧ w'.cell? ⟨w.heap.size, 2, none⟩ = some (.int .i64 100) ∧ w'.cell? ⟨w.heap.size, 3, none⟩ = some (.string ⟨#[102, 101, 101, 115]⟩) ∧ w'.cell? ⟨w.heap.size, 4, none⟩ = some (.bool false) ∧ w'.cell? ⟨w.heap.size, 5, none⟩ = some (.slice none 0 0) ∧ w'.cell? ⟨w.heap.size, 6, none⟩ = some (.string ⟨#[102, 108, 97, 116]⟩) ∧ w'.cell? ⟨w.heap.size, 7, none⟩ = some (.int .i64 1000) ∧ w'.cell? ⟨w.heap.size, 8, none⟩ = some (.int .i64 120) ∧ w'.cell? ⟨w.heap.size, 9, none⟩ = some (.string ⟨#[102, 101, 101, 115]⟩) ∧ w'.cell? ⟨w.heap.size, 10, none⟩ = some (.bool false) ∧ w'.cell? ⟨w.heap.size, 11, none⟩ = some (.slice none 0 0) ∧ w'.cell? ⟨g, 0, none⟩ = some (.int .i64 500) ∧ w'.cell? ⟨g, 1, none⟩ = some (.int .i64 1000) ∧ w'.cell? ⟨g, 2, none⟩ = some (.int .i64 100) ∧ w'.cell? ⟨g, 3, none⟩ = some (.int .i64 1000) ∧ w'.cell? ⟨g, 4, none⟩ = some (.int .i64 1500) ∧ w'.cell? ⟨g, 5, none⟩ = some (.int .i64 120) ∧ w'.cell? ⟨pb, 2, none⟩ = some (.int .i64 100))
    (first
      | exact Mk.out _ (by assumption)
      | exact Mk.out _ (Below.refl _ _).drew
      | exact Mk.out _ (Below.alloc (And.left (by assumption)) (Below.size (And.left (by assumption))) _))
    (first
      | (go_at_call_of 18 (Value.slice (some ⟨w.heap.size, 0, none⟩) 2 2)
         refine (ck1 _ _ (HatY.out.below (And.left (by assumption)))).mono ?_
         rintro e w4 ⟨rfl, hb4⟩
         have hY4 : Below Y.heap.size Y w4 := Below.trans (And.left (by assumption)) (hb4.mono (Below.size (And.left (by assumption))))
         clear hb4)
      | (go_at_call 18
         refine (ck2 _).mono ?_
         rintro e w5 ⟨rfl, hb4⟩
         have hY5 : Below Y.heap.size Y w5 := Below.trans (by assumption) (hb4.mono (Below.size (by assumption)))
         clear hb4)
      | (go_at_call_of 25 (Value.slice (some ⟨w.heap.size, 6, none⟩) 1 1)
         refine (nm1 _ _ (Hat1Y.out.below (And.left (by assumption)))).mono ?_
         rintro e w4 ⟨⟨a6, c6, rfl⟩, hb4⟩
         have hY4 : Below Y.heap.size Y w4 := Below.trans (And.left (by assumption)) (hb4.mono (Below.size (And.left (by assumption))))
         clear hb4)
      | (go_at_call_of 25 (Value.slice (some ⟨w.heap.size, 0, none⟩) 2 2)
         refine (nm2 _ _ (HatY.out.below (And.left (by assumption)))).mono ?_
         rintro e w4 ⟨⟨a7, c7, rfl⟩, hb4⟩
         have hY4 : Below Y.heap.size Y w4 := Below.trans (And.left (by assumption)) (hb4.mono (Below.size (And.left (by assumption))))
         clear hb4))
  clear Mk HatY Hat1Y
  go_wp2
  go_ret
  exact ⟨rfl, HwY.out.trans (hY4.mono HwY.out.size)⟩
end Go.Proofs.Ytmijdmchhlcblaa
