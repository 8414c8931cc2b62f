/-
  The walk of the bands' awake: it returns true.
-/
import Derived.Test.YtcfmndhjmlbcoaaBandJ
import Derived.Test.YtcfmndhjmlbcoaaBandW
namespace Go.Proofs.Ytcfmndhjmlbcoaa
open Go.RowKit

theorem ics_two (w : World) : IcsAt (w.alloc (Obj.cells #[Value.int .i64 2] 3)) (.slice (some ⟨w.heap.size, 0, none⟩) 1 1) [2] := by
  have r := heap_alloc_new w (Obj.cells #[Value.int .i64 2] 3)
  refine IcsAt.own (base := w.heap.size) (e := 3) ⟨by simp, Or.inr ⟨w.heap.size, 1, _, rfl, Nat.le_refl _, r, Nat.le_refl _, by decide, by simp, ?_⟩⟩
  rfl

theorem lit_check : checkB (weekP ({ data := #[119, 111, 114, 107] } : ByteArray) ({ data := #[102, 114, 101, 101] } : ByteArray)) = 0 := by decide +kernel
theorem lit_check2 : checkB [(({ data := #[102, 114, 101, 101] } : ByteArray), []), (({ data := #[119, 111, 114, 107] } : ByteArray), [(31, 480, 1080)])] = 8 := by decide +kernel
theorem lit_ne : ({ data := #[119, 111, 114, 107] } : ByteArray) ≠ ({ data := #[102, 114, 101, 101] } : ByteArray) := by decide

theorem slots_row {X : World} {b : Nat} {t : TypeId} {f : Nat × Nat} (r : X.heap[b]? = some (.cells #[Value.int .i64 31, .int .i64 480, .int .i64 1080] t f)) : SlsAt X (.slice (some ⟨b, 0, none⟩) 1 1) [(31, 480, 1080)] := by
  refine ⟨_, 1, rfl, Nat.le_refl _, ⟨by decide, fun h => by cases h⟩, fun _ => ⟨b, 0, rfl, (Array.getElem?_eq_some_iff.1 r).1, fun i hi => ?_⟩⟩
  match i, hi with
  | 0, _ => exact ⟨cell_of_row X b 0 _ _ _ r, cell_of_row X b 1 _ _ _ r, cell_of_row X b 2 _ _ _ r⟩
theorem bands_row {X : World} {b : Nat} {t : TypeId} {f : Nat × Nat} {n1 n2 : ByteArray} {v1 v2 : Value} {s1 s2 : List Sl} (r : X.heap[b]? = some (.cells #[Value.string n1, v1, .string n2, v2] t f)) (h1 : SlsAt X v1 s1) (h2 : SlsAt X v2 s2) (k1 : n1.size ≤ maxLen) (k2 : n2.size ≤ maxLen) :
    BnsAt X (.slice (some ⟨b, 0, none⟩) 2 2) [(n1, s1), (n2, s2)] := by
  refine ⟨_, 2, rfl, Nat.le_refl _, ⟨by decide, fun h => by cases h⟩, fun _ => ⟨b, 0, rfl, (Array.getElem?_eq_some_iff.1 r).1, fun i hi => ?_⟩⟩
  match i, hi with
  | 0, _ => exact ⟨⟨cell_of_row X b 0 _ _ _ r, k1⟩, v1, cell_of_row X b 1 _ _ _ r, h1⟩
  | 1, _ => exact ⟨⟨cell_of_row X b 2 _ _ _ r, k2⟩, v2, cell_of_row X b 3 _ _ _ r, h2⟩

def WeekTo (w : World) (e : Ending) (w' : World) : Prop := ∃ v, e = .returned v ∧ BnsAt w' v (weekP ({ data := #[119, 111, 114, 107] } : ByteArray) ({ data := #[102, 114, 101, 101] } : ByteArray)) ∧ Below w.heap.size w w'
set_option maxRecDepth 100000 in
set_option maxHeartbeats 1600000 in
theorem week_calls (w : World) : Calls Try.prog 49 #[] w (WeekTo w) := by
  obtain ⟨X, hX⟩ : ∃ X, X = w.alloc (Obj.cells #[Value.int .i64 31, .int .i64 480, .int .i64 1080] 97) := ⟨_, rfl⟩
  have rX : X.heap[w.heap.size]? = some (Obj.cells #[Value.int .i64 31, .int .i64 480, .int .i64 1080] 97) := by rw [hX]; exact heap_alloc_new _ _
  have hzX : w.heap.size + 1 = X.heap.size := by rw [hX]; simp
  obtain ⟨Y, hY⟩ : ∃ Y, Y = X.alloc (Obj.cells #[Value.string ({ data := #[119, 111, 114, 107] } : ByteArray), .slice (some ⟨w.heap.size, 0, none⟩) 1 1, .string ({ data := #[102, 114, 101, 101] } : ByteArray), .slice none 0 0] 25) := ⟨_, rfl⟩
  have rY : Y.heap[X.heap.size]? = some (Obj.cells #[Value.string ({ data := #[119, 111, 114, 107] } : ByteArray), .slice (some ⟨w.heap.size, 0, none⟩) 1 1, .string ({ data := #[102, 114, 101, 101] } : ByteArray), .slice none 0 0] 25) := by rw [hY]; exact heap_alloc_new _ _
  have hbX : Below w.heap.size w X := by rw [hX]; exact (Below.refl _ _).alloc (Nat.le_refl _) _
  have hbY : Below X.heap.size X Y := by rw [hY]; exact (Below.refl _ _).alloc (Nat.le_refl _) _
  have rX2 := (hbY.block _ (by omega)).trans rX
  have HB := Lib.hid (show BnsAt Y (.slice (some ⟨w.heap.size + 1, 0, none⟩) 2 2) (weekP ({ data := #[119, 111, 114, 107] } : ByteArray) ({ data := #[102, 114, 101, 101] } : ByteArray)) by rw [hzX]; exact bands_row rY (slots_row rX2) (SliceAt.nil Y) (by decide) (by decide))
  have HYe := Lib.hid (show Y = (w.alloc (Obj.cells #[Value.int .i64 31, .int .i64 480, .int .i64 1080] 97)).alloc (Obj.cells #[Value.string ({ data := #[119, 111, 114, 107] } : ByteArray), .slice (some ⟨w.heap.size, 0, none⟩) 1 1, .string ({ data := #[102, 114, 101, 101] } : ByteArray), .slice none 0 0] 25) by rw [hY, hX])
  have HbY := Lib.hid (hbX.trans (hbY.mono hbX.size))
  clear hX rX hzX hY rY hbX hbY rX2
  go_enter Try.func49, Try.ntmps49
  go_wp2
  go_ret
  rw [← HYe.out]
  exact ⟨_, rfl, HB.out, HbY.out⟩

theorem at_in (hol : List Int) (t : Int) (h0 : 0 ≤ t) (h1 : t < 12622780800) : atB (weekP ({ data := #[119, 111, 114, 107] } : ByteArray) ({ data := #[102, 114, 101, 101] } : ByteArray)) hol t = bandAt (weekP ({ data := #[119, 111, 114, 107] } : ByteArray) ({ data := #[102, 114, 101, 101] } : ByteArray)) hol t := if_pos ⟨lit_check, h0, h1⟩
theorem lit_at1 : atB (weekP ({ data := #[119, 111, 114, 107] } : ByteArray) ({ data := #[102, 114, 101, 101] } : ByteArray)) [] 201600 = ({ data := #[119, 111, 114, 107] } : ByteArray) := by rw [at_in _ _ (by decide) (by decide), week_at _ _ _ (by decide) (by decide), if_pos (by decide)]
theorem lit_at2 : atB (weekP ({ data := #[119, 111, 114, 107] } : ByteArray) ({ data := #[102, 114, 101, 101] } : ByteArray)) [] 201599 = ({ data := #[102, 114, 101, 101] } : ByteArray) := by rw [at_in _ _ (by decide) (by decide), week_at _ _ _ (by decide) (by decide), if_neg (by decide)]
theorem lit_at3 : atB (weekP ({ data := #[119, 111, 114, 107] } : ByteArray) ({ data := #[102, 114, 101, 101] } : ByteArray)) [2] 201600 = ({ data := #[102, 114, 101, 101] } : ByteArray) := by rw [at_in _ _ (by decide) (by decide), week_holiday _ _ _ (by decide) (by decide)]
theorem lit_cutW {L : List Pc} (h : CutR (weekP ({ data := #[119, 111, 114, 107] } : ByteArray) ({ data := #[102, 114, 101, 101] } : ByteArray)) [] 172800 259200 L) : L = [(({ data := #[102, 114, 101, 101] } : ByteArray), 172800, 201600), (({ data := #[119, 111, 114, 107] } : ByteArray), 201600, 237600), (({ data := #[102, 114, 101, 101] } : ByteArray), 237600, 259200)] :=
  rle_unique _ _ 172800 (h.1 ⟨lit_check, by decide, by decide⟩) (week_rle _ _ lit_ne)
theorem lit_sec : secP ({ data := #[119, 111, 114, 107] } : ByteArray) [(({ data := #[102, 114, 101, 101] } : ByteArray), 172800, 201600), (({ data := #[119, 111, 114, 107] } : ByteArray), 201600, 237600), (({ data := #[102, 114, 101, 101] } : ByteArray), 237600, 259200)] = 36000 := by decide +kernel

set_option maxRecDepth 100000 in
set_option maxHeartbeats 12800000 in
theorem awake05_calls (w : World) : Calls Try.prog 15 #[] w fun e w' => e = .returned (.bool true) ∧ Below w.heap.size w w' := by
  go_enter Try.func15, Try.ntmps15
  go_wp2_with fail
  refine (week_calls w).mono ?_
  rintro e w1 ⟨v1, rfl, hB, hb1⟩
  have HC := Lib.hid (pcut_calls v1 (.slice none 0 0) _ [] 172800 259200 w1 hB (SliceAt.nil w1))
  have HB := Lib.hid (fun w' (h : Below w1.heap.size w1 w') => hB.below h)
  obtain ⟨av, cap, rfl, hlc, hm, hx⟩ := hB
  obtain ⟨b, o, rfl, hBb, hx⟩ := hx (by intro h; cases h)
  obtain ⟨⟨c0, -⟩, sv0, c1, hs0⟩ := hx 0 (by decide)
  obtain ⟨⟨c2, -⟩, sv1, c3, hs1⟩ := hx 1 (by decide)
  have HW := Lib.hid (show ∀ w', Below w1.heap.size w1 w' → (w'.cell? ⟨b, o, none⟩ = some (.string ({ data := #[119, 111, 114, 107] } : ByteArray)) ∧ w'.cell? ⟨b, o + 1, none⟩ = some sv0 ∧ w'.cell? ⟨b, o + 2, none⟩ = some (.string ({ data := #[102, 114, 101, 101] } : ByteArray)) ∧ w'.cell? ⟨b, o + 2 + 1, none⟩ = some sv1) ∧ SlsAt w' sv0 [(31, 480, 1080)] ∧ SlsAt w' sv1 [] from fun w' h =>
    ⟨⟨(h.cell (p := ⟨b, _, none⟩) hBb).trans (by simpa [weekP] using c0), (h.cell (p := ⟨b, _, none⟩) hBb).trans (by simpa using c1), (h.cell (p := ⟨b, _, none⟩) hBb).trans (by simpa [weekP] using c2), (h.cell (p := ⟨b, _, none⟩) hBb).trans (by simpa using c3)⟩, SlsAt.below hs0 h, SlsAt.below hs1 h⟩)
  have hlen : (weekP ({ data := #[119, 111, 114, 107] } : ByteArray) ({ data := #[102, 114, 101, 101] } : ByteArray)).length = 2 := rfl
  rw [hlen] at HC HB ⊢
  clear hlen hx c0 c1 c2 c3 hs0 hs1 hlc
  go_wp2_with fail
  refine HC.out.mono ?_
  rintro e w2 ⟨L, vL, rfl, hP, hR, hb2⟩
  obtain rfl := lit_cutW hR
  obtain ⟨aL, cL, rfl, -, -, hx⟩ := hP
  obtain ⟨bL, oL, rfl, hBL, hx⟩ := hx (by intro h; cases h)
  obtain ⟨p0, p1, p2⟩ := hx 1 (by decide)
  have HL := Lib.hid (show ∀ w', Below w2.heap.size w2 w' → w'.cell? ⟨bL, oL + 3, none⟩ = some (.string ({ data := #[119, 111, 114, 107] } : ByteArray)) ∧ w'.cell? ⟨bL, oL + 3 + 1, none⟩ = some (.int .i64 201600) ∧ w'.cell? ⟨bL, oL + 3 + 2, none⟩ = some (.int .i64 237600) from fun w' h =>
    ⟨(h.cell (p := ⟨bL, _, none⟩) hBL).trans (by simpa using p0), (h.cell (p := ⟨bL, _, none⟩) hBL).trans (by simpa using p1), (h.cell (p := ⟨bL, _, none⟩) hBL).trans (by simpa using p2)⟩)
  have hb12 := hb1.trans (hb2.mono hb1.size)
  obtain ⟨Y, hY⟩ : ∃ Y, Y = w2.alloc (Obj.cells #[Value.string ({ data := #[119, 111, 114, 107] } : ByteArray), .int .i64 201600, .int .i64 237600] 45) := ⟨_, rfl⟩
  have hbY : Below w2.heap.size w2 Y := by rw [hY]; exact (Below.refl _ _).alloc (Nat.le_refl _) _
  have hzY : w2.heap.size < Y.heap.size := by rw [hY]; simp
  have rY : Y.heap[w2.heap.size]? = some (Obj.cells #[Value.string ({ data := #[119, 111, 114, 107] } : ByteArray), .int .i64 201600, .int .i64 237600] 45) := by rw [hY]; exact heap_alloc_new _ _
  have HM := Lib.hid (show ∀ w', Below Y.heap.size Y w' → w'.cell? ⟨w2.heap.size, 0, none⟩ = some (.string ({ data := #[119, 111, 114, 107] } : ByteArray)) ∧ w'.cell? ⟨w2.heap.size, 1, none⟩ = some (.int .i64 201600) ∧ w'.cell? ⟨w2.heap.size, 2, none⟩ = some (.int .i64 237600) from fun w' hb => by
    have q := (hb.block _ hzY).trans rY
    exact ⟨cell_of_row w' _ 0 _ _ _ q, cell_of_row w' _ 1 _ _ _ q, cell_of_row w' _ 2 _ _ _ q⟩)
  have hw1Y : Below w1.heap.size w1 Y := hb2.trans (hbY.mono hb2.size)
  have HY := Lib.hid hY
  clear hx p0 p1 p2 hY rY hR
  have HBY := Lib.hid (fun w' (h : Below Y.heap.size Y w') => HB.out w' (hw1Y.trans (h.mono hw1Y.size)))
  have HA1 := Lib.hid (fun w' h => at_calls _ (.slice none 0 0) _ [] 201600 w' (HBY.out w' h) (SliceAt.nil w'))
  have HA2 := Lib.hid (fun w' h => at_calls _ (.slice none 0 0) _ [] 201599 w' (HBY.out w' h) (SliceAt.nil w'))
  have HA3 := Lib.hid (fun Z (h : Below Y.heap.size Y Z) => at_calls _ _ _ [2] 201600 _ (HBY.out _ (h.alloc h.size (Obj.cells #[Value.int .i64 2] 3))) (ics_two Z))
  have HS := Lib.hid (fun w' h => psec_calls _ (.slice none 0 0) _ [] 172800 259200 ({ data := #[119, 111, 114, 107] } : ByteArray) w' (HBY.out w' h) (SliceAt.nil w'))
  have HK := Lib.hid (fun w' h => check_calls _ _ w' (HBY.out w' h))
  have HK2 := Lib.hid (fun Z (h : Below Y.heap.size Y Z) => check_calls (.slice (some ⟨Z.heap.size, 0, none⟩) 2 2) [(({ data := #[102, 114, 101, 101] } : ByteArray), []), (({ data := #[119, 111, 114, 107] } : ByteArray), [(31, 480, 1080)])] (Z.alloc (Obj.cells #[Value.string ({ data := #[102, 114, 101, 101] } : ByteArray), sv1, .string ({ data := #[119, 111, 114, 107] } : ByteArray), sv0] 25)) (by
    have hZ := HW.out Z (hw1Y.trans (h.mono hw1Y.size))
    have hal : ∀ o, Below Z.heap.size Z (Z.alloc o) := fun o => (Below.refl _ _).alloc (Nat.le_refl _) o
    exact bands_row (heap_alloc_new _ _) (hZ.2.2.below (hal _)) (hZ.2.1.below (hal _)) (by decide) (by decide)))
  rw [lit_at1] at HA1
  rw [lit_at2] at HA2
  rw [lit_at3] at HA3
  rw [lit_check] at HK
  rw [lit_check2] at HK2
  have hlen : (weekP ({ data := #[119, 111, 114, 107] } : ByteArray) ({ data := #[102, 114, 101, 101] } : ByteArray)).length = 2 := rfl
  have e1 : ((({ data := #[119, 111, 114, 107] } : ByteArray)).toList == (({ data := #[119, 111, 114, 107] } : ByteArray)).toList) = true := beq_self_eq_true _
  have e2 : ((({ data := #[102, 114, 101, 101] } : ByteArray)).toList == (({ data := #[102, 114, 101, 101] } : ByteArray)).toList) = true := beq_self_eq_true _
  have hrY := Below.refl Y.heap.size Y
  have Mk := Lib.hid (show ∀ w' : World, Below Y.heap.size Y w' → Below Y.heap.size Y w' ∧ w'.cell? ⟨w2.heap.size, 0, none⟩ = some (.string ({ data := #[119, 111, 114, 107] } : ByteArray)) ∧ w'.cell? ⟨w2.heap.size, 1, none⟩ = some (.int .i64 201600) ∧ w'.cell? ⟨w2.heap.size, 2, none⟩ = some (.int .i64 237600) ∧ w'.cell? ⟨bL, oL + 3, none⟩ = some (.string ({ data := #[119, 111, 114, 107] } : ByteArray)) ∧ w'.cell? ⟨bL, oL + 3 + 1, none⟩ = some (.int .i64 201600) ∧ w'.cell? ⟨bL, oL + 3 + 2, none⟩ = some (.int .i64 237600) ∧ w'.cell? ⟨b, o, none⟩ = some (.string ({ data := #[119, 111, 114, 107] } : ByteArray)) ∧ w'.cell? ⟨b, o + 1, none⟩ = some sv0 ∧ w'.cell? ⟨b, o + 2, none⟩ = some (.string ({ data := #[102, 114, 101, 101] } : ByteArray)) ∧ w'.cell? ⟨b, o + 2 + 1, none⟩ = some sv1 from fun w' h => by
    obtain ⟨m0, m1, m2⟩ := HM.out w' h
    obtain ⟨p0, p1, p2⟩ := HL.out w' (hbY.trans (h.mono hbY.size))
    obtain ⟨⟨c0, c1, c2, c3⟩, -, -⟩ := HW.out w' (hw1Y.trans (h.mono hw1Y.size))
    exact ⟨h, m0, m1, m2, p0, p1, p2, c0, c1, c2, c3⟩)
  obtain ⟨-, m0, m1, m2, p0, p1, p2, c0, c1, c2, c3⟩ := Mk.out Y hrY
  go_upto_region 6 with (fail)
  rw [← HY.out]
  go_region_held3 (fun w' : World => Below Y.heap.size Y w' ∧ w'.cell? ⟨w2.heap.size, 0, none⟩ = some (.string ({ data := #[119, 111, 114, 107] } : ByteArray)) ∧ w'.cell? ⟨w2.heap.size, 1, none⟩ = some (.int .i64 201600) ∧ w'.cell? ⟨w2.heap.size, 2, none⟩ = some (.int .i64 237600) ∧ w'.cell? ⟨bL, oL + 3, none⟩ = some (.string ({ data := #[119, 111, 114, 107] } : ByteArray)) ∧ w'.cell? ⟨bL, oL + 3 + 1, none⟩ = some (.int .i64 201600) ∧ w'.cell? ⟨bL, oL + 3 + 2, none⟩ = some (.int .i64 237600) ∧ w'.cell? ⟨b, o, none⟩ = some (.string ({ data := #[119, 111, 114, 107] } : ByteArray)) ∧ w'.cell? ⟨b, o + 1, none⟩ = some sv0 ∧ w'.cell? ⟨b, o + 2, none⟩ = some (.string ({ data := #[102, 114, 101, 101] } : ByteArray)) ∧ w'.cell? ⟨b, o + 2 + 1, none⟩ = some sv1)
    (first
      | exact Mk.out _ (by assumption)
      | exact Mk.out _ (Below.drew (by assumption))
      | exact Mk.out _ (Below.alloc (And.left (by assumption)) (Below.size (And.left (by assumption))) _))
    (first
      | (go_at_call 19
         with_reducible (refine (HA1.out _ (And.left (by assumption))).mono ?_)
         rintro e w3 ⟨rfl, hb3⟩
         have hY3 : Below Y.heap.size Y w3 := Below.trans (And.left (by assumption)) (hb3.mono (Below.size (And.left (by assumption))))
         clear hb3)
      | (go_at_call 19
         with_reducible (refine (HA2.out _ (And.left (by assumption))).mono ?_)
         rintro e w4 ⟨rfl, hb4⟩
         have hY4 : Below Y.heap.size Y w4 := Below.trans (And.left (by assumption)) (hb4.mono (Below.size (And.left (by assumption))))
         clear hb4)
      | (go_at_call 19
         with_reducible (refine (HA3.out _ hY4).mono ?_)
         rintro e w5 ⟨rfl, hb5⟩
         have hY5 : Below Y.heap.size Y w5 := Below.trans (And.left (by assumption)) (hb5.mono (Below.size (And.left (by assumption))))
         clear hb5)
      | (go_at_call 24
         with_reducible (refine (HS.out _ (And.left (by assumption))).mono ?_)
         rintro e w6 ⟨L6, he6, hR6, hb6⟩
         obtain rfl : e = .returned (.int .i64 36000) := he6.trans (by rw [lit_cutW hR6, lit_sec])
         have hY6 : Below Y.heap.size Y w6 := Below.trans (And.left (by assumption)) (hb6.mono (Below.size (And.left (by assumption))))
         clear hb6)
      | (go_at_call 16
         with_reducible (refine (HK.out _ (And.left (by assumption))).mono ?_)
         rintro e w7 ⟨rfl, hb7⟩
         have hY7 : Below Y.heap.size Y w7 := Below.trans (And.left (by assumption)) (hb7.mono (Below.size (And.left (by assumption))))
         clear hb7)
      | (go_at_call 16
         with_reducible (refine (HK2.out _ hY7).mono ?_)
         rintro e w8 ⟨rfl, hb8⟩
         have hY8 : Below Y.heap.size Y w8 := Below.trans (And.left (by assumption)) (hb8.mono (Below.size (And.left (by assumption))))
         clear hb8))
  go_wp2
  go_ret
  exact ⟨rfl, hb12.trans ((hbY.trans (hY8.mono hbY.size)).mono hb12.size)⟩
end Go.Proofs.Ytcfmndhjmlbcoaa
