/-
  The walk of the law BandsAt.
-/
import Derived.Test.YtcfmndhjmlbcoaaLight05
import Derived.Test.YtcfmndhjmlbcoaaBandK
namespace Go.Proofs.Ytcfmndhjmlbcoaa
open Go.RowKit

set_option maxRecDepth 100000 in
set_option maxHeartbeats 6400000 in
theorem at05_law (bv hv : Value) (l : List Bn) (hol : List Int) (t : Int) (w : World) (h : BnsAt w bv l) (hh : IcsAt w hv hol) :
    Calls Try.prog 4 #[.agg #[bv, hv], .int .i64 t] w fun e w' => e = .returned (.bool true) ∧ Below w.heap.size w w' := by
  obtain ⟨W, hW⟩ : ∃ W, W = w.alloc (Obj.cells #[bv, hv] 32) := ⟨_, rfl⟩
  have hw0 : Below w.heap.size w W := by rw [hW]; exact (Below.refl _ _).alloc (Nat.le_refl _) _
  have hzW : w.heap.size < W.heap.size := by rw [hW]; simp
  have rW : W.heap[w.heap.size]? = some (Obj.cells #[bv, hv] 32) := by rw [hW]; exact heap_alloc_new _ _
  have HM := Lib.hid (show ∀ w', Below W.heap.size W w' → w'.cell? ⟨w.heap.size, 0, none⟩ = some bv ∧ w'.cell? ⟨w.heap.size, 1, none⟩ = some hv from fun w' hb => by
    have q := (hb.block _ hzW).trans rW
    exact ⟨cell_of_row w' _ 0 _ _ _ q, cell_of_row w' _ 1 _ _ _ q⟩)
  have HW := Lib.hid hW
  have HL := Lib.hid (light_calls bv hv l hol W (h.below hw0) (hh.below hw0))
  have HA := Lib.hid (fun w1 (hb : Below W.heap.size W w1) => at_calls bv hv l hol t w1 ((h.below hw0).below hb) ((hh.below hw0).below hb))
  have HR := Lib.hid (fun w1 (hb : Below W.heap.size W w1) => rAt_calls bv hv l hol t w1 ((h.below hw0).below hb) ((hh.below hw0).below hb))
  have Hw0 := Lib.hid hw0
  obtain ⟨av, cap, rfl, -, -, -⟩ := h
  obtain ⟨avh, caph, rfl, -, -, -⟩ := hh
  generalize atB l hol t = s at *
  have e1 : (s.toList == s.toList) = true := beq_self_eq_true _
  clear hW rW hw0
  obtain ⟨m0, m1⟩ := HM.out W (Below.refl _ _)
  go_enter Try.func4, Try.ntmps4
  go_upto_region 1 with (fail)
  rw [← HW.out]
  go_wp2_with fail
  refine HL.out.mono ?_
  rintro e w1 ⟨r, rfl, hb1⟩
  clear m0 m1
  obtain ⟨m0, m1⟩ := HM.out w1 hb1
  cases r with
  | false =>
    go_wp2_with fail
    refine (awake05_calls w1).mono ?_
    rintro e wz ⟨rfl, hbx⟩
    have hbz := hb1.trans (hbx.mono hb1.size)
    go_wp2
    go_ret
    exact ⟨rfl, Hw0.out.trans (hbz.mono Hw0.out.size)⟩
  | true =>
    have hr1 := Below.refl w1.heap.size w1
    have Mk := Lib.hid (show ∀ w' : World, Below w1.heap.size w1 w' → Below w1.heap.size w1 w' ∧ w'.cell? ⟨w.heap.size, 0, none⟩ = some (.slice av l.length cap) ∧ w'.cell? ⟨w.heap.size, 1, none⟩ = some (.slice avh hol.length caph) from
      fun w' h => ⟨h, HM.out w' (hb1.trans (h.mono hb1.size))⟩)
    go_upto_region 3 with (fail)
    go_region_held3 (fun w' : World => Below w1.heap.size w1 w' ∧ w'.cell? ⟨w.heap.size, 0, none⟩ = some (.slice av l.length cap) ∧ w'.cell? ⟨w.heap.size, 1, none⟩ = some (.slice avh hol.length caph))
      (first
        | exact Mk.out _ (by assumption)
        | exact Mk.out _ (Below.drew (by assumption)))
      (first
        | (go_at_call 19
           with_reducible (refine (HA.out _ (hb1.trans (Below.mono (And.left (by assumption)) hb1.size))).mono ?_)
           rintro e wa ⟨rfl, hbz⟩
           have hYa : Below w1.heap.size w1 wa := Below.trans (And.left (by assumption)) (hbz.mono (Below.size (And.left (by assumption))))
           clear hbz)
        | (go_at_call 20
           with_reducible (refine (HR.out _ (hb1.trans (Below.mono (And.left (by assumption)) hb1.size))).mono ?_)
           rintro e wb ⟨rfl, hbz⟩
           have hYb : Below w1.heap.size w1 wb := Below.trans (And.left (by assumption)) (hbz.mono (Below.size (And.left (by assumption))))
           clear hbz)
        | (go_at_call 15
           with_reducible (refine (awake05_calls _).mono ?_)
           rintro e wc ⟨rfl, hbz⟩
           have hYc : Below w1.heap.size w1 wc := Below.trans (And.left (by assumption)) (hbz.mono (Below.size (And.left (by assumption))))
           clear hbz))
    all_goals
      go_wp2
      go_ret
      exact ⟨rfl, Hw0.out.trans ((hb1.trans (hYc.mono hb1.size)).mono Hw0.out.size)⟩
end Go.Proofs.Ytcfmndhjmlbcoaa
