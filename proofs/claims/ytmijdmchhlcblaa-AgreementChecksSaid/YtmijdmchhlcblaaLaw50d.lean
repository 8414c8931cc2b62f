/-
  The body of AgreementChecks.
-/
import Derived.Test.YtmijdmchhlcblaaOne50
import Derived.Test.YtmijdmchhlcblaaLaw50a
import Derived.Test.YtmijdmchhlcblaaAgRef
namespace Go.Proofs.Ytmijdmchhlcblaa
open Go.RowKit

set_option maxRecDepth 100000 in
set_option maxHeartbeats 1600000 in
theorem checks50_law (hA : Alive50) (v : Value) (l : List Ag) (w : World) (h : AgsAt w v l) :
    Calls Try.prog 9 #[v] w fun e w' => e = .returned (.bool true) ∧ Below w.heap.size w w' := by
  have HA := Lib.hid hA
  have Hf := Lib.hid (few50_calls v l w h)
  have Hc := Lib.hid (agcheck_calls v l w h)
  have Hr := Lib.hid (fun w1 (hb : Below w.heap.size w w1) => ragcheck_calls v l w1 (h.below hb))
  clear h hA
  cases hx : fewAs l with
  | false =>
    rw [hx] at Hf
    go_enter Try.func9, Try.ntmps9
    go_wp2_with fail
    refine Hf.out.mono ?_
    rintro e w0 ⟨rfl, hw1⟩
    subst w0
    go_wp2_with fail
    refine (HA.out _).mono ?_
    rintro e w2 ⟨rfl, hb⟩
    go_wp2
    go_ret
    exact ⟨rfl, hb⟩
  | true =>
    rw [hx] at Hf
    generalize agCheckE l = c at *
    go_enter Try.func9, Try.ntmps9
    go_wp2_with fail
    refine Hf.out.mono ?_
    rintro e w0 ⟨rfl, hw1⟩
    subst w0
    go_wp2_with fail
    refine Hc.out.mono ?_
    rintro e w1 ⟨rfl, hb1⟩
    go_wp2_with fail
    refine (Hr.out w1 hb1).mono ?_
    rintro e w2 ⟨rfl, hb2⟩
    have hb3 := hb1.trans (hb2.mono hb1.size)
    go_wp2_with fail
    refine (HA.out _).mono ?_
    rintro e w4 ⟨rfl, hb4⟩
    go_wp2
    go_ret
    exact ⟨rfl, hb3.trans (hb4.mono hb3.size)⟩
end Go.Proofs.Ytmijdmchhlcblaa
