/-
  The walks of bands.Cut for a period without pieces, and of bands.Seconds.
-/
import Derived.Test.YtnekgkmlodeckaaMgbj
namespace Go.Proofs.Ytnekgkmlodeckaa
open Go.RowKit

def cutOk (l : List Bn) (pf pt : Int) : Prop := checkB l = 0 ∧ validB pf pt = true ∧ pt - pf ≤ 2678400
/-- The pieces of a period: none if it cannot be cut. -/
def CutR (l : List Bn) (hol : List Int) (pf pt : Int) (L : List Pc) : Prop := (cutOk l pf pt → Rle (bandAt l hol) pf pt L) ∧ (¬ cutOk l pf pt → L = [])
theorem cutR_unique {l : List Bn} {hol : List Int} {pf pt : Int} {L L' : List Pc} (h : CutR l hol pf pt L) (h' : CutR l hol pf pt L') : L = L' := by
  by_cases ho : cutOk l pf pt
  · exact rle_unique L L' pf (h.1 ho) (h'.1 ho)
  · rw [h.2 ho, h'.2 ho]
theorem cutR_bounds {l : List Bn} {hol : List Int} {pf pt : Int} {L : List Pc} (h : CutR l hol pf pt L) : (L.length ≤ 2678400) ∧ ∀ i (hi : i < L.length), 0 ≤ L[i].2.1 ∧ L[i].2.1 < L[i].2.2 ∧ L[i].2.2 ≤ 12622780800 := by
  by_cases ho : cutOk l pf pt
  · have hR := h.1 ho
    obtain ⟨-, hv, hs⟩ := ho
    obtain ⟨v0, v1, v2⟩ := (validB_iff pf pt).1 hv
    have := rle_len L pf hR
    refine ⟨by omega, fun i hi => ?_⟩
    obtain ⟨g1, g2, g3, -⟩ := rle_get L pf hR i hi
    omega
  · rw [h.2 ho]
    exact ⟨by simp, fun i hi => by cases hi⟩

def CutTo (l : List Bn) (hol : List Int) (pf pt : Int) (w : World) (e : Ending) (w' : World) : Prop :=
  ∃ (L : List Pc) (v' : Value), e = .returned v' ∧ PcsAt w' v' L ∧ CutR l hol pf pt L ∧ Below w.heap.size w w'

set_option maxRecDepth 100000 in
set_option maxHeartbeats 3200000 in
theorem pcut_calls (v vh : Value) (l : List Bn) (hol : List Int) (pf pt : Int) (w : World) (h : BnsAt w v l) (hh : IcsAt w vh hol) :
    Calls Try.prog 31 #[v, vh, .agg #[.int .i64 pf, .int .i64 pt]] w (CutTo l hol pf pt w) := by
  by_cases hok : cutOk l pf pt
  · refine (cut5_calls v vh l hol pf pt w h hh hok.1 hok.2.1 hok.2.2).mono ?_
    rintro e w' ⟨L, v', he, hP, hR, hb⟩
    exact ⟨L, v', he, hP, ⟨fun _ => hR, fun hn => absurd hok hn⟩, hb⟩
  · have HN := Lib.hid (show CutR l hol pf pt [] from ⟨fun h => absurd h hok, fun _ => rfl⟩)
    obtain ⟨W, hW⟩ : ∃ W, W = w.alloc (Obj.cells #[Value.int .i64 pf, Value.int .i64 pt] 59) := ⟨_, rfl⟩
    have hw0 : Below w.heap.size w W := by rw [hW]; exact (Below.refl _ _).alloc (Nat.le_refl _) _
    have rW : W.heap[w.heap.size]? = some (Obj.cells #[Value.int .i64 pf, Value.int .i64 pt] 59) := by rw [hW]; exact heap_alloc_new _ _
    have hzW : w.heap.size < W.heap.size := by rw [hW]; simp
    have HM := Lib.hid (show ∀ w', Below W.heap.size W w' → w'.cell? ⟨w.heap.size, 0, none⟩ = some (.int .i64 pf) ∧ w'.cell? ⟨w.heap.size, 1, none⟩ = some (.int .i64 pt) from fun w' hb => by
      have q := (hb.block _ hzW).trans rW
      exact ⟨cell_of_row w' _ 0 _ _ _ q, cell_of_row w' _ 1 _ _ _ q⟩)
    have HW := Lib.hid hW
    have HC := Lib.hid (check_calls v l W (h.below hw0))
    have Hv := Lib.hid (fun w1 => valid_calls pf pt w1)
    obtain ⟨av, cap, rfl, -, -, -⟩ := h
    obtain ⟨avh, caph, rfl, -, -, -⟩ := hh
    clear hW rW
    obtain ⟨m0, m1⟩ := HM.out W (Below.refl _ _)
    by_cases hz : checkB l = 0
    · rw [hz] at HC
      cases hv : validB pf pt with
      | false =>
        rw [hv] at Hv
        clear hok hz hv
        go_enter Try.func31, Try.ntmps31
        go_upto_region 1 with (fail)
        rw [← HW.out]
        go_wp2_with fail
        refine HC.out.mono ?_
        rintro e w1 ⟨rfl, hb1⟩
        clear m0 m1
        obtain ⟨m0, m1⟩ := HM.out w1 hb1
        go_wp2_with fail
        refine (Hv.out w1).mono ?_
        rintro e w2 ⟨rfl, hbx⟩
        have hb2 := hb1.trans (hbx.mono hb1.size)
        go_wp2
        go_ret
        exact ⟨[], _, rfl, SliceAt.nil _, HN.out, hw0.trans (hb2.mono hw0.size)⟩
      | true =>
        rw [hv] at Hv
        obtain ⟨v0, v1, v2⟩ := (validB_iff pf pt).1 hv
        have hs : 2678400 < pt - pf := by
          rcases Int.lt_or_le 2678400 (pt - pf) with h | h
          · exact h
          · exact absurd ⟨hz, hv, h⟩ hok
        have hq3 : IntKind.i64.wrap (pt - pf) = pt - pf := IntWalk.i64_in _ (by omega)
        clear hok hz hv
        go_enter Try.func31, Try.ntmps31
        go_upto_region 1 with (fail)
        rw [← HW.out]
        go_wp2_with fail
        refine HC.out.mono ?_
        rintro e w1 ⟨rfl, hb1⟩
        clear m0 m1
        obtain ⟨m0, m1⟩ := HM.out w1 hb1
        go_wp2_with fail
        refine (Hv.out w1).mono ?_
        rintro e w2 ⟨rfl, hbx⟩
        have hb2 := hb1.trans (hbx.mono hb1.size)
        clear m0 m1
        obtain ⟨m0, m1⟩ := HM.out w2 hb2
        go_wp2
        go_ret
        exact ⟨[], _, rfl, SliceAt.nil _, HN.out, hw0.trans (hb2.mono hw0.size)⟩
    · have hz2 : (checkB l != 0) = true := bne_iff_ne.2 hz
      clear hok hz
      go_enter Try.func31, Try.ntmps31
      go_upto_region 1 with (fail)
      rw [← HW.out]
      go_wp2_with fail
      refine HC.out.mono ?_
      rintro e w1 ⟨rfl, hb1⟩
      go_wp2
      go_ret
      exact ⟨[], _, rfl, SliceAt.nil _, HN.out, hw0.trans (hb1.mono hw0.size)⟩

/-- The seconds of a band in the pieces. -/
def SecTo (l : List Bn) (hol : List Int) (pf pt : Int) (nm : ByteArray) (w : World) (e : Ending) (w' : World) : Prop :=
  ∃ L : List Pc, e = .returned (.int .i64 (secP nm L)) ∧ CutR l hol pf pt L ∧ Below w.heap.size w w'

theorem secP_le {L : List Pc} (nm : ByteArray) (h : ∀ i (hi : i < L.length), 0 ≤ L[i].2.1 ∧ L[i].2.1 < L[i].2.2 ∧ L[i].2.2 ≤ 12622780800) : ∀ k, k ≤ L.length → 0 ≤ secP nm (L.take k) ∧ secP nm (L.take k) ≤ 12622780800 * k
  | 0, _ => by rw [List.take_zero]; exact ⟨Int.le_refl _, by simp [secP]⟩
  | k + 1, hk => by
    obtain ⟨h1, h2⟩ := secP_le nm h k (by omega)
    rw [secP_take nm L k hk]
    have := h k hk
    split <;> omega

set_option maxRecDepth 100000 in
set_option maxHeartbeats 3200000 in
theorem psec_calls (v vh : Value) (l : List Bn) (hol : List Int) (pf pt : Int) (nm : ByteArray) (w : World) (h : BnsAt w v l) (hh : IcsAt w vh hol) :
    Calls Try.prog 67 #[v, vh, .agg #[.int .i64 pf, .int .i64 pt], .string nm] w (SecTo l hol pf pt nm w) := by
  obtain ⟨W, hW⟩ : ∃ W, W = w.alloc (Obj.cells #[Value.int .i64 pf, Value.int .i64 pt] 59) := ⟨_, rfl⟩
  have hw0 : Below w.heap.size w W := by rw [hW]; exact (Below.refl _ _).alloc (Nat.le_refl _) _
  have rW : W.heap[w.heap.size]? = some (Obj.cells #[Value.int .i64 pf, Value.int .i64 pt] 59) := by rw [hW]; exact heap_alloc_new _ _
  have m0 := cell_of_row W _ 0 _ _ _ rW
  have m1 := cell_of_row W _ 1 _ _ _ rW
  have HW := Lib.hid hW
  have HC := Lib.hid (pcut_calls v vh l hol pf pt W (h.below hw0) (hh.below hw0))
  obtain ⟨av, cap, rfl, -, -, -⟩ := h
  obtain ⟨avh, caph, rfl, -, -, -⟩ := hh
  clear hW rW
  go_enter Try.func67, Try.ntmps67
  go_upto_region 1 with (fail)
  rw [← HW.out]
  go_wp2_with fail
  refine HC.out.mono ?_
  rintro e w1 ⟨L, v1, rfl, hP, hR, hb1⟩
  obtain ⟨hLn, hLb⟩ := cutR_bounds hR
  have HS := Lib.hid (secP_le nm hLb)
  have HLb := Lib.hid hLb
  have HR := Lib.hid hR
  have hPP := hP
  obtain ⟨av2, cap2, rfl, hlc2, hm2, -⟩ := hP
  have hm2 := hm2.1
  unfold maxLen at hm2
  clear hR hLb m0 m1
  go_wp2_with fail
  go_loopw [9, 17] (fun n i wr => ∃ k : Nat, k ≤ L.length ∧ i = .int .i64 k ∧ n = .int .i64 (secP nm (L.take k)) ∧ Below w1.heap.size w1 wr) (fun _ i _ => L.length - (intOf i).toNat)
  case atStart => exact ⟨0, Nat.zero_le _, rfl, rfl, Below.refl _ _⟩
  case round =>
    obtain ⟨k, hk, rfl, rfl, hb⟩ := hrel
    obtain ⟨s0, s1⟩ := HS.out k hk
    by_cases hlt : k < L.length
    · obtain ⟨av3, cap3, e3, -, -, hx⟩ := hPP.below hb
      cases e3
      obtain ⟨b, o, rfl, hB, hx⟩ := hx (by rintro rfl; cases hlt)
      obtain ⟨c0, c1, c2⟩ := hx k hlt
      have hk0 : (0 : Int) ≤ (k : Int) := Int.natCast_nonneg _
      have hk1 : (k : Int) < (L.length : Int) := by omega
      obtain ⟨l0, l1, l2⟩ := HLb.out k hlt
      have HT := Lib.hid (secP_take nm L k hlt)
      clear hx
      generalize L[k] = y at *
      obtain ⟨b0, f, t⟩ := y
      dsimp only at c0 c1 c2 l0 l1 l2 HT
      generalize secP nm (L.take k) = s at *
      obtain ⟨Y, hY⟩ : ∃ Y, Y = wr.alloc (Obj.cells #[Value.string b0, .int .i64 f, .int .i64 t] 66) := ⟨_, rfl⟩
      have hbY : Below w1.heap.size w1 Y := by rw [hY]; exact hb.alloc hb.size _
      have y0 : Y.cell? ⟨wr.heap.size, 0, none⟩ = some (.string b0) := by rw [hY]; exact (box3 wr _ _ _ _).1
      have y1 : Y.cell? ⟨wr.heap.size, 1, none⟩ = some (.int .i64 f) := by rw [hY]; exact (box3 wr _ _ _ _).2.1
      have y2 : Y.cell? ⟨wr.heap.size, 2, none⟩ = some (.int .i64 t) := by rw [hY]; exact (box3 wr _ _ _ _).2.2
      have HY := Lib.hid hY
      have HbY := Lib.hid hbY
      clear hY hbY
      have a1 : IntKind.i64.wrap (t - f) = t - f := IntWalk.i64_in _ (by omega)
      have a2 : IntKind.i64.wrap (s + (t - f)) = s + (t - f) := IntWalk.i64_in _ (by omega)
      cases hE : (b0.toList == nm.toList) with
      | true =>
        have HT2 := Lib.hid (show secP nm (L.take (k + 1)) = s + (t - f) by rw [HT.out, if_pos (show sameS b0 nm = true from hE)])
        go_upto_region 5 with (fail)
        rw [← HY.out]
        go_wp2
        exact ⟨⟨k + 1, by omega, by go_num, by rw [HT2.out], HbY.out⟩, by simp [intOf]; omega⟩
      | false =>
        have HT2 := Lib.hid (show secP nm (L.take (k + 1)) = s by rw [HT.out, if_neg (by rw [show sameS b0 nm = false from hE]; decide), Int.add_zero])
        go_upto_region 5 with (fail)
        rw [← HY.out]
        go_wp2
        exact ⟨⟨k + 1, by omega, by go_num, by rw [HT2.out], HbY.out⟩, by simp [intOf]; omega⟩
    · have HE := Lib.hid (show secP nm (L.take k) = secP nm L by rw [List.take_of_length_le (by omega)])
      have hbw := hw0.trans ((hb1.trans (hb.mono hb1.size)).mono hw0.size)
      go_wp2
      go_ret
      exact ⟨L, ret_int HE.out, HR.out, hbw⟩
end Go.Proofs.Ytnekgkmlodeckaa
