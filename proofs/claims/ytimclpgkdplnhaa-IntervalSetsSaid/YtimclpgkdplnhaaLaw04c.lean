/-
  The law of the sets' instants: it returns true.
-/
import Derived.Test.YtimclpgkdplnhaaAwake04
import Derived.Test.YtimclpgkdplnhaaLawCan04
import Derived.Test.YtimclpgkdplnhaaIn04
import Derived.Test.YtimclpgkdplnhaaFew04
import Derived.Test.YtimclpgkdplnhaaTot04
namespace Go.Proofs.Ytimclpgkdplnhaa
open Go.RowKit

theorem valid_of_in {C : List (Int × Int)} (h : ∀ q ∈ C, 0 ≤ q.1 ∧ q.1 < q.2 ∧ q.2 ≤ 12622780800) : ∀ q ∈ C, validB q.1 q.2 = true := fun q hq => (validB_iff _ _).2 (h q hq)

set_option maxRecDepth 100000 in
set_option maxHeartbeats 6400000 in
theorem sets_law (va vb : Value) (a b : List (Int × Int)) (t : Int) (w : World) (ha : PersAt w va a) (hb : PersAt w vb b) :
    Calls Try.prog 11 #[va, vb, .int .i64 t] w fun e w' => e = .returned (.bool true) ∧ Below w.heap.size w w' := by
  have H := Lib.hid (few04_calls va vb a b w ha hb)
  have ha' := ha
  have hb' := hb
  obtain ⟨aa, ca, rfl, -⟩ := ha
  obtain ⟨ab, cb, rfl, -⟩ := hb
  by_cases h1 : a.length ≤ 40 ∧ b.length ≤ 40
  · rw [decide_eq_true h1.1, decide_eq_true h1.2, Bool.and_self] at H
    have HC := Lib.hid (fun w1 (hb : Below w.heap.size w w1) => cover_calls _ a w1 (ha'.below hb) (by omega))
    have HD := Lib.hid (fun w1 (hb : Below w.heap.size w w1) => minus_calls _ _ a b w1 (ha'.below hb) (hb'.below hb) (by omega))
    have HE := Lib.hid (fun w1 (hb : Below w.heap.size w w1) => pcommon_calls _ _ a b w1 (ha'.below hb) (hb'.below hb) (by omega))
    have HX := Lib.hid (fun w1 (hb : Below w.heap.size w w1) => lawin_calls _ a t w1 (ha'.below hb))
    have HY := Lib.hid (fun w1 (hb : Below w.heap.size w w1) => lawin_calls _ b t w1 (hb'.below hb))
    have KC := Lib.hid (fun w1 v (h : PersAt w1 v (chooseL a [] true false)) => canonical_calls v _ w1 h (choose_law a [] true false).1 (valid_of_in (choose_in a [] true false)))
    have KD := Lib.hid (fun w1 v (h : PersAt w1 v (chooseL a b false false)) => canonical_calls v _ w1 h (choose_law a b false false).1 (valid_of_in (choose_in a b false false)))
    have KE := Lib.hid (fun w1 v (h : PersAt w1 v (chooseL a b false true)) => canonical_calls v _ w1 h (choose_law a b false true).1 (valid_of_in (choose_in a b false true)))
    have IC := inL_choose a [] true false t
    have ID := inL_choose a b false false t
    have IE := inL_choose a b false true t
    unfold selB at IC ID IE
    have IC : inL (chooseL a [] true false) t = inL a t := by rw [IC, Bool.true_or, Bool.and_true]
    have ID : inL (chooseL a b false false) t = (inL a t && !inL b t) := by rw [ID, Bool.false_or]; cases inL b t <;> rfl
    have IE : inL (chooseL a b false true) t = (inL a t && inL b t) := by rw [IE, Bool.false_or]; cases inL b t <;> rfl
    have IC := Lib.hid IC
    have ID := Lib.hid ID
    have IE := Lib.hid IE
    generalize chooseL a [] true false = C at *
    generalize chooseL a b false false = D at *
    generalize chooseL a b false true = E at *
    cases hx : inL a t <;> cases hy : inL b t <;>
    · rw [hx, hy] at ID IE
      rw [hx] at IC HX
      rw [hy] at HY
      have IC := Lib.hid (show inL C t = _ from IC.out)
      have ID := Lib.hid (show inL D t = _ from ID.out)
      have IE := Lib.hid (show inL E t = _ from IE.out)
      clear hx hy
      go_enter Try.func11, Try.ntmps11
      go_wp2_with fail
      refine H.out.mono ?_
      rintro e w1 ⟨rfl, hb1⟩
      go_wp2_with fail
      refine (HC.out w1 hb1).mono ?_
      rintro e w2 ⟨v2, rfl, hp2, hbx⟩
      have hb2 := hb1.trans (hbx.mono hb1.size)
      have h12 := hbx
      have PC := Lib.hid (fun w' (h : Below w2.heap.size w2 w') => hp2.below h)
      obtain ⟨a2, c2, rfl, -⟩ := hp2
      clear hbx
      go_wp2_with fail
      refine (HD.out w2 hb2).mono ?_
      rintro e w3 ⟨v3, rfl, hp3, hbx⟩
      have hb3 := hb2.trans (hbx.mono hb2.size)
      have h23 := hbx
      have PD := Lib.hid (fun w' (h : Below w3.heap.size w3 w') => hp3.below h)
      obtain ⟨a3, c3, rfl, -⟩ := hp3
      clear hbx
      go_wp2_with fail
      refine (HE.out w3 hb3).mono ?_
      rintro e w4 ⟨v4, rfl, hp4, hbx⟩
      have hb4 := hb3.trans (hbx.mono hb3.size)
      have h34 := hbx
      have PE := Lib.hid (fun w' (h : Below w4.heap.size w4 w') => hp4.below h)
      obtain ⟨a4, c4, rfl, -⟩ := hp4
      clear hbx
      go_wp2_with fail
      refine (HX.out w4 hb4).mono ?_
      rintro e w5 ⟨rfl, hbx⟩
      have g5 := hbx
      have hb5 := hb4.trans (hbx.mono hb4.size)
      clear hbx
      go_wp2_with fail
      refine (HY.out w5 hb5).mono ?_
      rintro e w6 ⟨rfl, hbx⟩
      have g6 := g5.trans (hbx.mono g5.size)
      have hb6 := hb5.trans (hbx.mono hb5.size)
      clear hbx
      go_wp2_with fail
      refine (KC.out w6 _ (PC.out w6 (h23.trans ((h34.trans (g6.mono h34.size)).mono h23.size)))).mono ?_
      rintro e w7 ⟨rfl, hbx⟩
      have hb7 := hb6.trans (hbx.mono hb6.size)
      have g7 := g6.trans (hbx.mono g6.size)
      clear hbx
      go_wp2_with fail
      refine (KD.out w7 _ (PD.out w7 (h34.trans (g7.mono h34.size)))).mono ?_
      rintro e w8 ⟨rfl, hbx⟩
      have hb8 := hb7.trans (hbx.mono hb7.size)
      have g8 := g7.trans (hbx.mono g7.size)
      clear hbx
      go_wp2_with fail
      refine (KE.out w8 _ (PE.out w8 g8)).mono ?_
      rintro e w9 ⟨rfl, hbx⟩
      have hb9 := hb8.trans (hbx.mono hb8.size)
      have g9 := g8.trans (hbx.mono g8.size)
      clear hbx
      have Q10 := Lib.hid (lawin_calls _ C t w9 (PC.out w9 (h23.trans ((h34.trans (g9.mono h34.size)).mono h23.size))))
      rw [IC.out] at Q10
      go_wp2_with fail
      refine (Q10.out).mono ?_
      rintro e w10 ⟨rfl, hbx⟩
      have hb10 := hb9.trans (hbx.mono hb9.size)
      have g10 := g9.trans (hbx.mono g9.size)
      clear hbx
      have Q11 := Lib.hid (lawin_calls _ D t w10 (PD.out w10 (h34.trans (g10.mono h34.size))))
      rw [ID.out] at Q11
      go_wp2_with fail
      refine (Q11.out).mono ?_
      rintro e w11 ⟨rfl, hbx⟩
      have hb11 := hb10.trans (hbx.mono hb10.size)
      have g11 := g10.trans (hbx.mono g10.size)
      clear hbx
      have Q12 := Lib.hid (lawin_calls _ E t w11 (PE.out w11 g11))
      rw [IE.out] at Q12
      go_wp2_with fail
      refine (Q12.out).mono ?_
      rintro e w12 ⟨rfl, hbx⟩
      have hb12 := hb11.trans (hbx.mono hb11.size)
      have g12 := g11.trans (hbx.mono g11.size)
      clear hbx
      go_wp2_with fail
      refine (awake_calls w12).mono ?_
      rintro e w13 ⟨rfl, hbx⟩
      have hb13 := hb12.trans (hbx.mono hb12.size)
      clear hbx
      go_wp2
      go_ret
      exact ⟨rfl, hb13⟩
  · rw [show (decide (a.length ≤ 40) && decide (b.length ≤ 40)) = false by
      by_cases h2 : a.length ≤ 40
      · rw [decide_eq_false (fun h3 => h1 ⟨h2, h3⟩), Bool.and_false]
      · rw [decide_eq_false h2, Bool.false_and]] at H
    go_enter Try.func11, Try.ntmps11
    go_wp2_with fail
    refine H.out.mono ?_
    rintro e w1 ⟨rfl, hb1⟩
    go_wp2_with fail
    refine (awake_calls w1).mono ?_
    rintro e w7 ⟨rfl, hbx⟩
    have hb7 := hb1.trans (hbx.mono hb1.size)
    go_wp2
    go_ret
    exact ⟨rfl, hb7⟩
end Go.Proofs.Ytimclpgkdplnhaa
