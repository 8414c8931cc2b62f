/-
  The laws of the covers and the differences: they return true.
-/
import Derived.Test.YtimclpgkdplnhaaAwake04
import Derived.Test.YtimclpgkdplnhaaR04e
import Derived.Test.YtimclpgkdplnhaaFew04
namespace Go.Proofs.Ytimclpgkdplnhaa
open Go.RowKit

set_option maxRecDepth 100000 in
set_option maxHeartbeats 3200000 in
theorem covers_law (va : Value) (a : List (Int × Int)) (w : World) (ha : PersAt w va a) :
    Calls Try.prog 7 #[va] w fun e w' => e = .returned (.bool true) ∧ Below w.heap.size w w' := by
  have H := Lib.hid (few04_calls va (.slice none 0 0) a [] w ha (SliceAt.nil w))
  have ha' := ha
  obtain ⟨aa, ca, rfl, -⟩ := ha
  by_cases h1 : a.length ≤ 40
  · rw [decide_eq_true h1, show (true && decide (([] : List (Int × Int)).length ≤ 40)) = true from rfl] at H
    have HC := Lib.hid (fun w1 (hb : Below w.heap.size w w1) => cover_calls _ a w1 (ha'.below hb) (by omega))
    have HR := Lib.hid (fun w1 (hb : Below w.heap.size w w1) => rcover_calls _ a w1 (ha'.below hb) (by omega))
    have HT := Lib.hid (fun w1 (hb : Below w.heap.size w w1) => total_calls _ a w1 (ha'.below hb) (by omega))
    have HQ := Lib.hid (fun w1 (hb : Below w.heap.size w w1) => rtotal_calls _ a w1 (ha'.below hb) (by omega))
    generalize chooseL a [] true false = C at *
    go_enter Try.func7, Try.ntmps7
    go_wp2_with fail
    refine H.out.mono ?_
    rintro e w1 ⟨rfl, hb1⟩
    go_wp2_with fail
    refine (HC.out w1 hb1).mono ?_
    rintro e w2 ⟨v2, rfl, hp2, hbx⟩
    have hb2 := hb1.trans (hbx.mono hb1.size)
    have HP2 := Lib.hid hp2
    obtain ⟨a2, c2, rfl, -⟩ := hp2
    clear hbx
    go_wp2_with fail
    refine (HR.out w2 hb2).mono ?_
    rintro e w3 ⟨v3, rfl, hp3, hb23⟩
    have hb3 := hb2.trans (hb23.mono hb2.size)
    have HS := Lib.hid (rsame_calls _ _ C C w3 (HP2.out.below hb23) hp3)
    rw [decide_eq_true rfl] at HS
    obtain ⟨a3, c3, rfl, -⟩ := hp3
    go_wp2_with fail
    refine HS.out.mono ?_
    rintro e w4 ⟨rfl, hbx⟩
    have hb4 := hb3.trans (hbx.mono hb3.size)
    clear hbx
    go_wp2_with fail
    refine (HT.out w4 hb4).mono ?_
    rintro e w5 ⟨rfl, hbx⟩
    have hb5 := hb4.trans (hbx.mono hb4.size)
    clear hbx
    go_wp2_with fail
    refine (HQ.out w5 hb5).mono ?_
    rintro e w6 ⟨rfl, hbx⟩
    have hb6 := hb5.trans (hbx.mono hb5.size)
    clear hbx
    go_wp2_with fail
    refine (awake_calls w6).mono ?_
    rintro e w7 ⟨rfl, hbx⟩
    have hb7 := hb6.trans (hbx.mono hb6.size)
    go_wp2
    go_ret
    exact ⟨rfl, hb7⟩
  · rw [decide_eq_false h1, Bool.false_and] at H
    go_enter Try.func7, Try.ntmps7
    go_wp2_with fail
    refine H.out.mono ?_
    rintro e w1 ⟨rfl, hb1⟩
    go_wp2_with fail
    refine (awake_calls w1).mono ?_
    rintro e w7 ⟨rfl, hbx⟩
    have hb7 := hb1.trans (hbx.mono hb1.size)
    go_wp2
    go_ret
    exact ⟨rfl, hb7⟩

set_option maxRecDepth 100000 in
set_option maxHeartbeats 3200000 in
theorem minus_law (va vb : Value) (a b : List (Int × Int)) (w : World) (ha : PersAt w va a) (hb : PersAt w vb b) :
    Calls Try.prog 8 #[va, vb] w fun e w' => e = .returned (.bool true) ∧ Below w.heap.size w w' := by
  have H := Lib.hid (few04_calls va vb a b w ha hb)
  have ha' := ha
  have hb' := hb
  obtain ⟨aa, ca, rfl, -⟩ := ha
  obtain ⟨ab, cb, rfl, -⟩ := hb
  by_cases h1 : a.length ≤ 40 ∧ b.length ≤ 40
  · rw [decide_eq_true h1.1, decide_eq_true h1.2, Bool.and_self] at H
    have HC := Lib.hid (fun w1 (hb : Below w.heap.size w w1) => minus_calls _ _ a b w1 (ha'.below hb) (hb'.below hb) (by omega))
    have HR := Lib.hid (fun w1 (hb : Below w.heap.size w w1) => rminus_calls _ _ a b w1 (ha'.below hb) (hb'.below hb) (by omega))
    have HT := Lib.hid (fun w1 (hb : Below w.heap.size w w1) => pcommon_calls _ _ a b w1 (ha'.below hb) (hb'.below hb) (by omega))
    have HQ := Lib.hid (fun w1 (hb : Below w.heap.size w w1) => common_calls _ _ a b w1 (ha'.below hb) (hb'.below hb) (by omega))
    generalize chooseL a b false false = C at *
    generalize chooseL a b false true = D at *
    go_enter Try.func8, Try.ntmps8
    go_wp2_with fail
    refine H.out.mono ?_
    rintro e w1 ⟨rfl, hb1⟩
    go_wp2_with fail
    refine (HC.out w1 hb1).mono ?_
    rintro e w2 ⟨v2, rfl, hp2, hbx⟩
    have hb2 := hb1.trans (hbx.mono hb1.size)
    have HP2 := Lib.hid hp2
    obtain ⟨a2, c2, rfl, -⟩ := hp2
    clear hbx
    go_wp2_with fail
    refine (HR.out w2 hb2).mono ?_
    rintro e w3 ⟨v3, rfl, hp3, hb23⟩
    have hb3 := hb2.trans (hb23.mono hb2.size)
    have HS := Lib.hid (rsame_calls _ _ C C w3 (HP2.out.below hb23) hp3)
    rw [decide_eq_true rfl] at HS
    obtain ⟨a3, c3, rfl, -⟩ := hp3
    go_wp2_with fail
    refine HS.out.mono ?_
    rintro e w4 ⟨rfl, hbx⟩
    have hb4 := hb3.trans (hbx.mono hb3.size)
    clear hbx
    go_wp2_with fail
    refine (HT.out w4 hb4).mono ?_
    rintro e w5 ⟨v5, rfl, hp5, hbx⟩
    have hb5 := hb4.trans (hbx.mono hb4.size)
    have HP5 := Lib.hid hp5
    obtain ⟨a5, c5, rfl, -⟩ := hp5
    clear hbx
    go_wp2_with fail
    refine (HQ.out w5 hb5).mono ?_
    rintro e w6 ⟨v6, rfl, hp6, hb56⟩
    have hb6 := hb5.trans (hb56.mono hb5.size)
    have HS2 := Lib.hid (rsame_calls _ _ D D w6 (HP5.out.below hb56) hp6)
    rw [decide_eq_true rfl] at HS2
    obtain ⟨a6, c6, rfl, -⟩ := hp6
    go_wp2_with fail
    refine HS2.out.mono ?_
    rintro e w7 ⟨rfl, hbx⟩
    have hb7 := hb6.trans (hbx.mono hb6.size)
    clear hbx
    go_wp2_with fail
    refine (awake_calls w7).mono ?_
    rintro e w8 ⟨rfl, hbx⟩
    have hb8 := hb7.trans (hbx.mono hb7.size)
    go_wp2
    go_ret
    exact ⟨rfl, hb8⟩
  · rw [show (decide (a.length ≤ 40) && decide (b.length ≤ 40)) = false by
      by_cases h2 : a.length ≤ 40
      · rw [decide_eq_false (fun h3 => h1 ⟨h2, h3⟩), Bool.and_false]
      · rw [decide_eq_false h2, Bool.false_and]] at H
    go_enter Try.func8, Try.ntmps8
    go_wp2_with fail
    refine H.out.mono ?_
    rintro e w1 ⟨rfl, hb1⟩
    go_wp2_with fail
    refine (awake_calls w1).mono ?_
    rintro e w7 ⟨rfl, hbx⟩
    have hb7 := hb1.trans (hbx.mono hb1.size)
    go_wp2
    go_ret
    exact ⟨rfl, hb7⟩
end Go.Proofs.Ytimclpgkdplnhaa
