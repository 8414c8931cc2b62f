/-
  The walk of the law ProductChecks, given the awake check.
-/
import Derived.Test.YtmijdmchhlcblaaFew19
namespace Go.Proofs.Ytmijdmchhlcblaa
open Go.RowKit

/-- The awake check answers true wherever it is asked. -/
def Awake19 : Prop := ∀ w : World, Calls Try.prog 17 #[] w fun e w' => e = .returned (.bool true) ∧ Below w.heap.size w w'

set_option maxRecDepth 100000 in
set_option maxHeartbeats 1600000 in
theorem checks19_law (hA : Awake19) (v : Value) (l : List Pd) (w : World) (h : PdsAt w v l) :
    Calls Try.prog 4 #[v] w fun e w' => e = .returned (.bool true) ∧ Below w.heap.size w w' := by
  have Hh := Lib.hid h
  have HA := Lib.hid hA
  have Hf := Lib.hid (few_calls v l w h)
  have Hc := Lib.hid (pcheck_calls v l w h)
  have Hr := Lib.hid (fun w1 (hb : Below w.heap.size w w1) => rpcheck_calls v l w1 (h.below hb))
  clear h hA
  cases hx : fewL l with
  | false =>
    rw [hx] at Hf
    go_enter Try.func4, Try.ntmps4
    go_wp2_with fail
    refine Hf.out.mono ?_
    rintro e w1 ⟨rfl, rfl⟩
    go_wp2_with fail
    refine (HA.out _).mono ?_
    rintro e w2 ⟨rfl, hb⟩
    go_wp2
    go_ret
    exact ⟨rfl, hb⟩
  | true =>
    rw [hx] at Hf
    generalize checkE l = c at *
    go_enter Try.func4, Try.ntmps4
    go_wp2_with fail
    refine Hf.out.mono ?_
    rintro e w1 ⟨rfl, rfl⟩
    go_wp2_with fail
    refine Hc.out.mono ?_
    rintro e w2 ⟨rfl, hb⟩
    go_wp2_with fail
    refine (Hr.out _ hb).mono ?_
    rintro e w3 ⟨rfl, hb3⟩
    have hb4 := hb.trans (hb3.mono hb.size)
    clear hb3
    go_wp2_with fail
    refine (HA.out _).mono ?_
    rintro e w5 ⟨rfl, hb5⟩
    go_wp2
    go_ret
    exact ⟨rfl, hb4.trans (hb5.mono hb4.size)⟩
end Go.Proofs.Ytmijdmchhlcblaa
