/-
  The walk of the law ZonesFinds.
-/
import Derived.Test.YtcfmndhjmlbcoaaZoneY
namespace Go.Proofs.Ytcfmndhjmlbcoaa
open Go.RowKit

set_option maxRecDepth 100000 in
set_option maxHeartbeats 6400000 in
theorem finds06_law (v : Value) (l : List Zn) (s : ByteArray) (w : World) (h : ZnsAt w v l) (hs : s.size ≤ maxLen) :
    Calls Try.prog 9 #[v, .string s] w fun e w' => e = .returned (.bool true) ∧ Below w.heap.size w w' := by
  have HF := Lib.hid (zfew_calls v l w h)
  have HA := Lib.hid (zfind_calls v l s w h hs)
  have HR := Lib.hid (fun w1 (hb : Below w.heap.size w w1) => rFind_calls v l s w1 (h.below hb) hs)
  have HE := Lib.hid (findZ_eq l s)
  obtain ⟨av, cap, rfl, -, -, -⟩ := h
  rw [← HE.out] at HR
  generalize findZ l s = r at *
  obtain ⟨nm, ok⟩ := r
  have e1 : (nm.toList == nm.toList) = true := beq_self_eq_true _
  have e2 : (ok == ok) = true := beq_self_eq_true _
  go_enter Try.func9, Try.ntmps9
  go_wp2_with fail
  refine HF.out.mono ?_
  rintro e w1 ⟨r, rfl, rfl⟩
  by_cases hg : r = true ∧ (s.size : Int) ≤ 1000
  · obtain ⟨rfl, hz⟩ := hg
    have hz' : ¬ (1000 : Int) < (s.size : Int) := by omega
    go_wp2_with fail
    refine HA.out.mono ?_
    rintro e w2 ⟨rfl, hb2⟩
    have HR := Lib.hid (HR.out w2 hb2)
    go_wp2_with fail
    refine HR.out.mono ?_
    rintro e w3 ⟨rfl, hb3⟩
    have hb3 := hb2.trans (hb3.mono hb2.size)
    go_wp2_with fail
    refine (zawake_calls w3).mono ?_
    rintro e w4 ⟨rfl, hb4⟩
    go_wp2
    go_ret
    exact ⟨rfl, hb3.trans (hb4.mono hb3.size)⟩
  · cases r with
    | false =>
      go_wp2_with fail
      refine (zawake_calls w).mono ?_
      rintro e w4 ⟨rfl, hb4⟩
      go_wp2
      go_ret
      exact ⟨rfl, hb4⟩
    | true =>
      have hz : (1000 : Int) < (s.size : Int) := by
        by_cases h : (s.size : Int) ≤ 1000
        · exact absurd ⟨rfl, h⟩ hg
        · omega
      clear hg
      go_wp2_with fail
      refine (zawake_calls w).mono ?_
      rintro e w4 ⟨rfl, hb4⟩
      go_wp2
      go_ret
      exact ⟨rfl, hb4⟩
end Go.Proofs.Ytcfmndhjmlbcoaa
