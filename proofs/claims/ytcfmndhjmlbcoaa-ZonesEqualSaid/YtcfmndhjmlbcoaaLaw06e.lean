/-
  The walk of the law ZonesEqual.
-/
import Derived.Test.YtcfmndhjmlbcoaaZoneEq
import Derived.Test.YtcfmndhjmlbcoaaZoneY
namespace Go.Proofs.Ytcfmndhjmlbcoaa
open Go.RowKit

set_option maxRecDepth 100000 in
set_option maxHeartbeats 6400000 in
theorem equal06_law (va vb : Value) (a b : List Zn) (s : ByteArray) (w : World) (ha : ZnsAt w va a) (hb0 : ZnsAt w vb b) (hs : s.size ≤ maxLen) :
    Calls Try.prog 10 #[va, vb, .string s] w fun e w' => e = .returned (.bool true) ∧ Below w.heap.size w w' := by
  have HFa := Lib.hid (zfew_calls va a w ha)
  have HFb := Lib.hid (zfew_calls vb b w hb0)
  have HZ := Lib.hid (fun w1 (hb : Below w.heap.size w w1) => zequal_calls va vb a b w1 (ha.below hb) (hb0.below hb))
  have HR := Lib.hid (fun w1 (hb : Below w.heap.size w w1) => requal_calls va vb a b w1 (ha.below hb) (hb0.below hb))
  have HA := Lib.hid (fun w1 (hb : Below w.heap.size w w1) => zfind_calls va a s w1 (ha.below hb) hs)
  have HB := Lib.hid (fun w1 (hb : Below w.heap.size w w1) => zfind_calls vb b s w1 (hb0.below hb) hs)
  have HE := Lib.hid (fun h => (eqZ_find (a := a) (b := b) h s))
  obtain ⟨aa, ca, rfl, -, -, -⟩ := ha
  obtain ⟨ab, cb, rfl, -, -, -⟩ := hb0
  generalize eqZ a b = q at *
  generalize findZ a s = x at *
  generalize findZ b s = y at *
  obtain ⟨xn, xo⟩ := x
  obtain ⟨yn, yo⟩ := y
  have e0 : (q != q) = false := bne_self_eq_false _
  go_enter Try.func10, Try.ntmps10
  go_wp2_with fail
  refine HFa.out.mono ?_
  rintro e w1 ⟨r, rfl, rfl⟩
  cases r with
  | false =>
    go_wp2_with fail
    refine (zawake_calls w).mono ?_
    rintro e w4 ⟨rfl, hb4⟩
    go_wp2
    go_ret
    exact ⟨rfl, hb4⟩
  | true =>
    go_wp2_with fail
    refine HFb.out.mono ?_
    rintro e w1 ⟨r, rfl, rfl⟩
    cases r with
    | false =>
      go_wp2_with fail
      refine (zawake_calls w).mono ?_
      rintro e w4 ⟨rfl, hb4⟩
      go_wp2
      go_ret
      exact ⟨rfl, hb4⟩
    | true =>
      by_cases hz : (1000 : Int) < (s.size : Int)
      · go_wp2_with fail
        refine (zawake_calls w).mono ?_
        rintro e w4 ⟨rfl, hb4⟩
        go_wp2
        go_ret
        exact ⟨rfl, hb4⟩
      · have HZ1 := Lib.hid (HZ.out w (Below.refl _ _))
        go_wp2_with fail
        refine HZ1.out.mono ?_
        rintro e w2 ⟨rfl, hb2⟩
        have HR := Lib.hid (HR.out w2 hb2)
        go_wp2_with fail
        refine HR.out.mono ?_
        rintro e w3 ⟨rfl, hb3⟩
        have hb3 := hb2.trans (hb3.mono hb2.size)
        have HA := Lib.hid (HA.out w3 hb3)
        go_wp2_with fail
        refine HA.out.mono ?_
        rintro e w4 ⟨rfl, hb4⟩
        have hb4 := hb3.trans (hb4.mono hb3.size)
        have HB := Lib.hid (HB.out w4 hb4)
        go_wp2_with fail
        refine HB.out.mono ?_
        rintro e w5 ⟨rfl, hb5⟩
        have hb5 := hb4.trans (hb5.mono hb4.size)
        have HZ2 := Lib.hid (HZ.out w5 hb5)
        cases q with
        | true =>
          have he := HE.out rfl
          obtain rfl : xn = yn := congrArg Prod.fst he
          obtain rfl : xo = yo := congrArg Prod.snd he
          have e1 : (xn.toList == xn.toList) = true := beq_self_eq_true _
          have e2 : (xo == xo) = true := beq_self_eq_true _
          clear he
          go_wp2_with fail
          refine HZ2.out.mono ?_
          rintro e w6 ⟨rfl, hb6⟩
          have hb6 := hb5.trans (hb6.mono hb5.size)
          go_wp2_with fail
          refine (zawake_calls w6).mono ?_
          rintro e w7 ⟨rfl, hb7⟩
          go_wp2
          go_ret
          exact ⟨rfl, hb6.trans (hb7.mono hb6.size)⟩
        | false =>
          go_wp2_with fail
          refine HZ2.out.mono ?_
          rintro e w6 ⟨rfl, hb6⟩
          have hb6 := hb5.trans (hb6.mono hb5.size)
          go_wp2_with fail
          refine (zawake_calls w6).mono ?_
          rintro e w7 ⟨rfl, hb7⟩
          go_wp2
          go_ret
          exact ⟨rfl, hb6.trans (hb7.mono hb6.size)⟩
end Go.Proofs.Ytcfmndhjmlbcoaa
