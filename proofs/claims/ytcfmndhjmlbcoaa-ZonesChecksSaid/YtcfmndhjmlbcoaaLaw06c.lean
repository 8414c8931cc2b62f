/-
  The walk of the law ZonesChecks.
-/
import Derived.Test.YtcfmndhjmlbcoaaZoneB
namespace Go.Proofs.Ytcfmndhjmlbcoaa
open Go.RowKit

set_option maxRecDepth 100000 in
set_option maxHeartbeats 6400000 in
theorem checks06_law (v : Value) (l : List Zn) (w : World) (h : ZnsAt w v l) :
    Calls Try.prog 8 #[v] w fun e w' => e = .returned (.bool true) ∧ Below w.heap.size w w' := by
  have HF := Lib.hid (zfew_calls v l w h)
  have HA := Lib.hid (zcheck_calls v l w h)
  have HR := Lib.hid (fun w1 (hb : Below w.heap.size w w1) => rzcheck_calls v l w1 (h.below hb))
  have HN := Lib.hid (fun w1 (hb : Below w.heap.size w w1) => znames_calls v l w1 (h.below hb))
  have HM := Lib.hid (fun w1 (hb : Below w.heap.size w w1) => rnames_calls v l w1 (h.below hb))
  obtain ⟨av, cap, rfl, -, -, -⟩ := h
  generalize namesZ l = N at *
  generalize checkZ l = c at *
  have e1 : (c == c) = true := beq_self_eq_true _
  have HT := Lib.hid (fun va vb w1 (h1 : StrsAt w1 va N) (h2 : StrsAt w1 vb N) => rtexts_calls va vb N N w1 h1 h2)
  have HTt := Lib.hid ((alikeT_iff N N).2 rfl)
  rw [HTt.out] at HT
  go_enter Try.func8, Try.ntmps8
  go_wp2_with fail
  refine HF.out.mono ?_
  rintro e w1 ⟨r, rfl, rfl⟩
  cases r with
  | false =>
    go_wp2_with fail
    refine (zawake_calls w).mono ?_
    rintro e w4 ⟨rfl, hb4⟩
    go_wp2
    go_ret
    exact ⟨rfl, hb4⟩
  | true =>
    go_wp2_with fail
    refine HA.out.mono ?_
    rintro e w2 ⟨rfl, hb2⟩
    have HR := Lib.hid (HR.out w2 hb2)
    go_wp2_with fail
    refine HR.out.mono ?_
    rintro e w3 ⟨rfl, hb3⟩
    have hb3 := hb2.trans (hb3.mono hb2.size)
    have HN := Lib.hid (HN.out w3 hb3)
    go_wp2_with fail
    refine HN.out.mono ?_
    rintro e w4 ⟨v4, rfl, hv4, hb4⟩
    have hb4 := hb3.trans (hb4.mono hb3.size)
    have HM := Lib.hid (HM.out w4 hb4)
    have Hv4 := Lib.hid hv4
    clear hv4
    go_wp2_with fail
    refine HM.out.mono ?_
    rintro e w5 ⟨v5, rfl, hv5, hb5⟩
    have HT := Lib.hid (HT.out v4 v5 w5 (Hv4.out.below hb5) hv5)
    have hb5 := hb4.trans (hb5.mono hb4.size)
    clear hv5
    go_wp2_with fail
    refine HT.out.mono ?_
    rintro e w6 ⟨rfl, hb6⟩
    have hb6 := hb5.trans (hb6.mono hb5.size)
    go_wp2_with fail
    refine (zawake_calls w6).mono ?_
    rintro e w7 ⟨rfl, hb7⟩
    go_wp2
    go_ret
    exact ⟨rfl, hb6.trans (hb7.mono hb6.size)⟩
end Go.Proofs.Ytcfmndhjmlbcoaa
