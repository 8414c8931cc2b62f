/-
  The walk of the reference's Cut at any arguments.
-/
import Derived.Test.YtnekgkmlodeckaaMgbm
namespace Go.Proofs.Ytnekgkmlodeckaa
open Go.RowKit

set_option maxRecDepth 100000 in
set_option maxHeartbeats 3200000 in
theorem rpcut_calls (v vh : Value) (l : List Bn) (hol : List Int) (pf pt : Int) (w : World) (h : BnsAt w v l) (hh : IcsAt w vh hol) :
    Calls Try.prog 56 #[v, vh, .agg #[.int .i64 pf, .int .i64 pt]] w (CutTo l hol pf pt w) := by
  by_cases hok : cutOk l pf pt
  · refine (rcut5_calls v vh l hol pf pt w h hh hok.1 hok.2.1 hok.2.2).mono ?_
    rintro e w' ⟨L, v', he, hP, hR, hb⟩
    exact ⟨L, v', he, hP, ⟨fun _ => hR, fun hn => absurd hok hn⟩, hb⟩
  · have HN := Lib.hid (show CutR l hol pf pt [] from ⟨fun h => absurd h hok, fun _ => rfl⟩)
    obtain ⟨W, hW⟩ : ∃ W, W = w.alloc (Obj.cells #[Value.int .i64 pf, Value.int .i64 pt] 59) := ⟨_, rfl⟩
    have hw0 : Below w.heap.size w W := by rw [hW]; exact (Below.refl _ _).alloc (Nat.le_refl _) _
    have rW : W.heap[w.heap.size]? = some (Obj.cells #[Value.int .i64 pf, Value.int .i64 pt] 59) := by rw [hW]; exact heap_alloc_new _ _
    have hzW : w.heap.size < W.heap.size := by rw [hW]; simp
    have HM := Lib.hid (show ∀ w', Below W.heap.size W w' → w'.cell? ⟨w.heap.size, 0, none⟩ = some (.int .i64 pf) ∧ w'.cell? ⟨w.heap.size, 1, none⟩ = some (.int .i64 pt) from fun w' hb => by
      have q := (hb.block _ hzW).trans rW
      exact ⟨cell_of_row w' _ 0 _ _ _ q, cell_of_row w' _ 1 _ _ _ q⟩)
    have HW := Lib.hid hW
    have HC := Lib.hid (rcheck_calls v l W (h.below hw0))
    have Hv := Lib.hid (fun w1 => rvalid_calls pf pt w1)
    obtain ⟨av, cap, rfl, -, -, -⟩ := h
    obtain ⟨avh, caph, rfl, -, -, -⟩ := hh
    clear hW rW
    obtain ⟨m0, m1⟩ := HM.out W (Below.refl _ _)
    by_cases hz : checkB l = 0
    · rw [hz] at HC
      cases hv : validB pf pt with
      | false =>
        rw [hv] at Hv
        clear hok hz hv
        go_enter Try.func56, Try.ntmps56
        go_upto_region 1 with (fail)
        rw [← HW.out]
        go_wp2_with fail
        refine HC.out.mono ?_
        rintro e w1 ⟨rfl, hb1⟩
        clear m0 m1
        obtain ⟨m0, m1⟩ := HM.out w1 hb1
        go_wp2_with fail
        refine (Hv.out w1).mono ?_
        rintro e w2 ⟨rfl, hbx⟩
        have hb2 := hb1.trans (hbx.mono hb1.size)
        go_wp2
        go_ret
        exact ⟨[], _, rfl, SliceAt.nil _, HN.out, hw0.trans (hb2.mono hw0.size)⟩
      | true =>
        rw [hv] at Hv
        obtain ⟨v0, v1, v2⟩ := (validB_iff pf pt).1 hv
        have hs : 2678400 < pt - pf := by
          rcases Int.lt_or_le 2678400 (pt - pf) with h | h
          · exact h
          · exact absurd ⟨hz, hv, h⟩ hok
        have hq3 : IntKind.i64.wrap (pt - pf) = pt - pf := IntWalk.i64_in _ (by omega)
        clear hok hz hv
        go_enter Try.func56, Try.ntmps56
        go_upto_region 1 with (fail)
        rw [← HW.out]
        go_wp2_with fail
        refine HC.out.mono ?_
        rintro e w1 ⟨rfl, hb1⟩
        clear m0 m1
        obtain ⟨m0, m1⟩ := HM.out w1 hb1
        go_wp2_with fail
        refine (Hv.out w1).mono ?_
        rintro e w2 ⟨rfl, hbx⟩
        have hb2 := hb1.trans (hbx.mono hb1.size)
        clear m0 m1
        obtain ⟨m0, m1⟩ := HM.out w2 hb2
        go_wp2
        go_ret
        exact ⟨[], _, rfl, SliceAt.nil _, HN.out, hw0.trans (hb2.mono hw0.size)⟩
    · have hz2 : (checkB l != 0) = true := bne_iff_ne.2 hz
      clear hok hz
      go_enter Try.func56, Try.ntmps56
      go_upto_region 1 with (fail)
      rw [← HW.out]
      go_wp2_with fail
      refine HC.out.mono ?_
      rintro e w1 ⟨rfl, hb1⟩
      go_wp2
      go_ret
      exact ⟨[], _, rfl, SliceAt.nil _, HN.out, hw0.trans (hb1.mono hw0.size)⟩
end Go.Proofs.Ytnekgkmlodeckaa
