/-
  The walk of the law ZonesMinimals.
-/
import Derived.Test.YtcfmndhjmlbcoaaZoneMr
namespace Go.Proofs.Ytcfmndhjmlbcoaa
open Go.RowKit

set_option maxRecDepth 100000 in
set_option maxHeartbeats 6400000 in
theorem minimals06_law (v : Value) (l : List Zn) (w : World) (h : ZnsAt w v l) :
    Calls Try.prog 11 #[v] w fun e w' => e = .returned (.bool true) ∧ Below w.heap.size w w' := by
  have HF := Lib.hid (zfew_calls v l w h)
  have HA := Lib.hid (zmin_calls v l w h)
  have HR := Lib.hid (fun w1 (hb : Below w.heap.size w w1) => rmin_calls v l w1 (h.below hb))
  obtain ⟨av, cap, rfl, -, -, -⟩ := h
  go_enter Try.func11, Try.ntmps11
  go_wp2_with fail
  refine HF.out.mono ?_
  rintro e w1 ⟨r, rfl, rfl⟩
  cases r with
  | false =>
    go_wp2_with fail
    refine (zawake_calls w).mono ?_
    rintro e w4 ⟨rfl, hb4⟩
    go_wp2
    go_ret
    exact ⟨rfl, hb4⟩
  | true =>
    go_wp2_with fail
    refine HA.out.mono ?_
    rintro e w2 ⟨v2, M, rfl, hz2, hm2, hb2⟩
    have HR := Lib.hid (HR.out w2 hb2)
    have Hz2 := Lib.hid hz2
    have Hm2 := Lib.hid hm2
    clear hz2 hm2
    go_wp2_with fail
    refine HR.out.mono ?_
    rintro e w3 ⟨v3, N, rfl, hz3, hm3, hb3⟩
    obtain rfl := Hm2.out.one hm3
    have HS := Lib.hid (rsame_calls v2 v3 M M w3 (Hz2.out.below hb3) hz3)
    rw [(alikeL_iff M M).2 rfl] at HS
    have hb3 := hb2.trans (hb3.mono hb2.size)
    clear hz3 hm3
    go_wp2_with fail
    refine HS.out.mono ?_
    rintro e w4 ⟨rfl, hb4⟩
    have hb4 := hb3.trans (hb4.mono hb3.size)
    go_wp2_with fail
    refine (zawake_calls w4).mono ?_
    rintro e w5 ⟨rfl, hb5⟩
    go_wp2
    go_ret
    exact ⟨rfl, hb4.trans (hb5.mono hb4.size)⟩
end Go.Proofs.Ytcfmndhjmlbcoaa
