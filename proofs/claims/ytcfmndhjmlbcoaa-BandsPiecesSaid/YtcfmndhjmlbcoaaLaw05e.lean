/-
  The walk of the law BandsPieces.
-/
import Derived.Test.YtcfmndhjmlbcoaaLaw05b
import Derived.Test.YtcfmndhjmlbcoaaBandN
namespace Go.Proofs.Ytcfmndhjmlbcoaa
open Go.RowKit

theorem cutR_exists (l : List Bn) (hol : List Int) (pf pt : Int) : ∃ L, CutR l hol pf pt L := by
  by_cases hok : cutOk l pf pt
  · obtain ⟨v0, v1, v2⟩ := (validB_iff pf pt).1 hok.2.1
    obtain ⟨L, hR⟩ := rle_exists (bandAt l hol) pf (pt - pf).toNat
    rw [show pf + ((pt - pf).toNat : Int) = pt by omega] at hR
    exact ⟨L, fun _ => hR, fun h => absurd hok h⟩
  · exact ⟨[], fun h => absurd h hok, fun _ => rfl⟩
def PcTo0 (L : List Pc) (w : World) (e : Ending) (w' : World) : Prop := ∃ v', e = .returned v' ∧ PcsAt w' v' L ∧ Below w.heap.size w w'

set_option maxRecDepth 100000 in
set_option maxHeartbeats 12800000 in
theorem pieces05_law (bv hv : Value) (l : List Bn) (hol : List Int) (pf pt : Int) (nm : ByteArray) (w : World) (h : BnsAt w bv l) (hh : IcsAt w hv hol) :
    Calls Try.prog 5 #[.agg #[bv, hv], .agg #[.int .i64 pf, .int .i64 pt], .string nm] w fun e w' => e = .returned (.bool true) ∧ Below w.heap.size w w' := by
  obtain ⟨X, hX⟩ : ∃ X, X = w.alloc (Obj.cells #[bv, hv] 32) := ⟨_, rfl⟩
  obtain ⟨W, hW⟩ : ∃ W, W = X.alloc (Obj.cells #[Value.int .i64 pf, .int .i64 pt] 37) := ⟨_, rfl⟩
  have hwX : Below w.heap.size w X := by rw [hX]; exact (Below.refl _ _).alloc (Nat.le_refl _) _
  have hXW : Below X.heap.size X W := by rw [hW]; exact (Below.refl _ _).alloc (Nat.le_refl _) _
  have hw0 := hwX.trans (hXW.mono hwX.size)
  have hzX : X.heap.size = w.heap.size + 1 := by rw [hX]; simp
  have hzW : X.heap.size < W.heap.size := by rw [hW]; simp
  have rX : X.heap[w.heap.size]? = some (Obj.cells #[bv, hv] 32) := by rw [hX]; exact heap_alloc_new _ _
  have rW : W.heap[X.heap.size]? = some (Obj.cells #[Value.int .i64 pf, .int .i64 pt] 37) := by rw [hW]; exact heap_alloc_new _ _
  have rX2 := (hXW.block _ (by omega)).trans rX
  rw [hzX] at rW hzW
  have HM := Lib.hid (show ∀ w', Below W.heap.size W w' → (w'.cell? ⟨w.heap.size, 0, none⟩ = some bv ∧ w'.cell? ⟨w.heap.size, 1, none⟩ = some hv) ∧ w'.cell? ⟨w.heap.size + 1, 0, none⟩ = some (.int .i64 pf) ∧ w'.cell? ⟨w.heap.size + 1, 1, none⟩ = some (.int .i64 pt) from fun w' hb => by
    have q := (hb.block _ (by omega)).trans rX2
    have q2 := (hb.block _ hzW).trans rW
    exact ⟨⟨cell_of_row w' _ 0 _ _ _ q, cell_of_row w' _ 1 _ _ _ q⟩, cell_of_row w' _ 0 _ _ _ q2, cell_of_row w' _ 1 _ _ _ q2⟩)
  have HW := Lib.hid (show W = (w.alloc (Obj.cells #[bv, hv] 32)).alloc (Obj.cells #[Value.int .i64 pf, .int .i64 pt] 37) by rw [hW, hX])
  have HB := Lib.hid (fun w1 (hb : Below W.heap.size W w1) => (h.below hw0).below hb)
  have HH := Lib.hid (fun w1 (hb : Below W.heap.size W w1) => (hh.below hw0).below hb)
  have HL := Lib.hid (light_calls bv hv l hol W (h.below hw0) (hh.below hw0))
  have HC := Lib.hid (fun w1 (hb : Below W.heap.size W w1) => check_calls bv l w1 ((h.below hw0).below hb))
  have HV := Lib.hid (fun w1 => rvalid_calls pf pt w1)
  have Hw0 := Lib.hid hw0
  have hBB := h
  obtain ⟨av, cap, rfl, hlc, hm, -⟩ := h
  obtain ⟨avh, caph, rfl, -, -, -⟩ := hh
  have hm := hm.1
  unfold maxLen at hm
  clear hX hW hwX hXW hzX hzW rX rW rX2 hw0
  obtain ⟨⟨m0, m1⟩, m2, m3⟩ := HM.out W (Below.refl _ _)
  obtain ⟨L, hCR⟩ := cutR_exists l hol pf pt
  have H1 := Lib.hid (show ∀ w1, Below W.heap.size W w1 → Calls Try.prog 22 #[.slice av l.length cap, .slice avh hol.length caph, .agg #[.int .i64 pf, .int .i64 pt]] w1 (PcTo0 L w1) from fun w1 hb => (pcut_calls _ _ l hol pf pt w1 (HB.out w1 hb) (HH.out w1 hb)).mono fun e w' ⟨L', v', he, hP, hR, hb'⟩ => by
    obtain rfl := cutR_unique hR hCR
    exact ⟨v', he, hP, hb'⟩)
  have H2 := Lib.hid (show ∀ w1, Below W.heap.size W w1 → Calls Try.prog 23 #[.slice av l.length cap, .slice avh hol.length caph, .agg #[.int .i64 pf, .int .i64 pt]] w1 (PcTo0 L w1) from fun w1 hb => (rpcut_calls _ _ l hol pf pt w1 (HB.out w1 hb) (HH.out w1 hb)).mono fun e w' ⟨L', v', he, hP, hR, hb'⟩ => by
    obtain rfl := cutR_unique hR hCR
    exact ⟨v', he, hP, hb'⟩)
  have H3 := Lib.hid (show ∀ w1, Below W.heap.size W w1 → Calls Try.prog 24 #[.slice av l.length cap, .slice avh hol.length caph, .agg #[.int .i64 pf, .int .i64 pt], .string nm] w1 (IntTo (secP nm L) w1) from fun w1 hb => (psec_calls _ _ l hol pf pt nm w1 (HB.out w1 hb) (HH.out w1 hb)).mono fun e w' ⟨L', he, hR, hb'⟩ => by
    obtain rfl := cutR_unique hR hCR
    exact ⟨he, hb'⟩)
  have H4 := Lib.hid (show ∀ w1, Below W.heap.size W w1 → Calls Try.prog 25 #[.slice av l.length cap, .slice avh hol.length caph, .agg #[.int .i64 pf, .int .i64 pt], .string nm] w1 (IntTo (secP nm L) w1) from fun w1 hb => (rpsec_calls _ _ l hol pf pt nm w1 (HB.out w1 hb) (HH.out w1 hb)).mono fun e w' ⟨L', he, hR, hb'⟩ => by
    obtain rfl := cutR_unique hR hCR
    exact ⟨he, hb'⟩)
  generalize secP nm L = s at H3 H4
  have e1 : (s == s) = true := beq_self_eq_true _
  clear hCR
  go_enter Try.func5, Try.ntmps5
  go_upto_region 1 with (fail)
  rw [← HW.out]
  go_wp2_with fail
  refine HL.out.mono ?_
  rintro e w1 ⟨r, rfl, hb1⟩
  clear m0 m1 m2 m3
  obtain ⟨⟨m0, m1⟩, m2, m3⟩ := HM.out w1 hb1
  cases r with
  | false =>
    go_wp2_with fail
    refine (awake05_calls w1).mono ?_
    rintro e wz ⟨rfl, hbx⟩
    have hbz := hb1.trans (hbx.mono hb1.size)
    go_wp2
    go_ret
    exact ⟨rfl, Hw0.out.trans (hbz.mono Hw0.out.size)⟩
  | true =>
    have hr1 := Below.refl w1.heap.size w1
    have Mk := Lib.hid (show ∀ w' : World, Below w1.heap.size w1 w' → Below w1.heap.size w1 w' ∧ w'.cell? ⟨w.heap.size, 0, none⟩ = some (.slice av l.length cap) ∧ w'.cell? ⟨w.heap.size, 1, none⟩ = some (.slice avh hol.length caph) ∧ w'.cell? ⟨w.heap.size + 1, 0, none⟩ = some (.int .i64 pf) ∧ w'.cell? ⟨w.heap.size + 1, 1, none⟩ = some (.int .i64 pt) from fun w' h => by
      obtain ⟨⟨z0, z1⟩, z2, z3⟩ := HM.out w' (hb1.trans (h.mono hb1.size))
      exact ⟨h, z0, z1, z2, z3⟩)
    go_upto_region 3 with (fail)
    go_region_held3 (fun w' : World => Below w1.heap.size w1 w' ∧ w'.cell? ⟨w.heap.size, 0, none⟩ = some (.slice av l.length cap) ∧ w'.cell? ⟨w.heap.size, 1, none⟩ = some (.slice avh hol.length caph) ∧ w'.cell? ⟨w.heap.size + 1, 0, none⟩ = some (.int .i64 pf) ∧ w'.cell? ⟨w.heap.size + 1, 1, none⟩ = some (.int .i64 pt))
      (first
        | exact Mk.out _ (by assumption)
        | exact Mk.out _ (Below.drew (by assumption)))
      (first
        | (go_at_call 22
           with_reducible (refine (H1.out _ (hb1.trans (Below.mono (And.left (by assumption)) hb1.size))).mono ?_)
           rintro e wa ⟨va, rfl, hPa, hba⟩
           have hYa : Below w1.heap.size w1 wa := Below.trans (And.left (by assumption)) (hba.mono (Below.size (And.left (by assumption))))
           have Hba := Lib.hid hba
           have HPa := Lib.hid hPa
           obtain ⟨aa, ca, rfl, -, -, -⟩ := hPa
           clear hba)
        | (go_at_call 23
           with_reducible (refine (H2.out _ (hb1.trans (Below.mono (And.left (by assumption)) hb1.size))).mono ?_)
           rintro e wb ⟨vb, rfl, hPb, hbb⟩
           have hYb : Below w1.heap.size w1 wb := Below.trans (And.left (by assumption)) (hbb.mono (Below.size (And.left (by assumption))))
           have Hbb := Lib.hid hbb
           have HPb := Lib.hid hPb
           obtain ⟨ab, cb, rfl, -, -, -⟩ := hPb
           clear hbb)
        | (go_at_call 21
           (first
             | refine (same_calls _ _ L _ (HPa.out.below Hbb.out) HPb.out).mono ?_
             | refine (same_calls _ _ L _ HPa.out (HPb.out.below Hba.out)).mono ?_)
           rintro e wc ⟨rfl, hbz⟩
           have hYc : Below w1.heap.size w1 wc := Below.trans (And.left (by assumption)) (hbz.mono (Below.size (And.left (by assumption))))
           clear hbz)
        | (go_at_call 24
           with_reducible (refine (H3.out _ (hb1.trans (Below.mono (And.left (by assumption)) hb1.size))).mono ?_)
           rintro e wd ⟨rfl, hbz⟩
           have hYd : Below w1.heap.size w1 wd := Below.trans (And.left (by assumption)) (hbz.mono (Below.size (And.left (by assumption))))
           clear hbz)
        | (go_at_call 25
           with_reducible (refine (H4.out _ (hb1.trans (Below.mono (And.left (by assumption)) hb1.size))).mono ?_)
           rintro e wf ⟨rfl, hbz⟩
           have hYf : Below w1.heap.size w1 wf := Below.trans (And.left (by assumption)) (hbz.mono (Below.size (And.left (by assumption))))
           clear hbz)
        | (go_at_call 15
           with_reducible (refine (awake05_calls _).mono ?_)
           rintro e wg ⟨rfl, hbz⟩
           have hYg : Below w1.heap.size w1 wg := Below.trans (And.left (by assumption)) (hbz.mono (Below.size (And.left (by assumption))))
           clear hbz))
    all_goals
      go_wp2
      go_ret
      exact ⟨rfl, Hw0.out.trans ((hb1.trans (hYg.mono hb1.size)).mono Hw0.out.size)⟩
end Go.Proofs.Ytcfmndhjmlbcoaa
