/-
  The walks of Marginal, pays and Units, the program's and the reference's.
-/
import Derived.Test.YtkipebdhagccbaaBetween
import Derived.Test.YtkipebdhagccbaaPays
namespace Go.Proofs.Ytkipebdhagccbaa
open Go.RowKit

theorem priceTup_eq (x : Int × Int) : priceTup x = .tuple #[.int .i64 x.1, .int .i64 x.2] := rfl

set_option maxHeartbeats 400000 in
theorem marginal_calls (v : Value) (l : List St) (f : Int) (w : World) (h : StepsAt w v l) :
    Calls Try.prog 20 #[v, .int .i64 f] w fun e w' => e = .returned (.int .i64 (betweenL l f 1).1) ∧ Below w.heap.size w w' := by
  have Hc := Lib.hid (between_pub v l f 1 w h (by omega) (by omega))
  obtain ⟨av, cap, rfl, hm, hc⟩ := h
  clear hc hm
  generalize betweenL l f 1 = x at *
  obtain ⟨a, e⟩ := x
  go_enter Try.func20, Try.ntmps20
  go_wp2_with fail
  refine Hc.out.mono ?_
  rintro e w1 ⟨rfl, hb1⟩
  simp only [priceTup_eq]
  go_wp2
  go_ret
  exact ⟨rfl, hb1⟩

set_option maxHeartbeats 400000 in
theorem rmarginal_calls (v : Value) (l : List St) (f : Int) (w : World) (h : StepsAt w v l) :
    Calls Try.prog 21 #[v, .int .i64 f] w fun e w' => e = .returned (.int .i64 (betweenL l f 1).1) ∧ Below w.heap.size w w' := by
  have Hc := Lib.hid (rbetween_pub v l f 1 w h (by omega) (by omega))
  have H0 := Lib.hid (@betweenL_err l f 1)
  obtain ⟨av, cap, rfl, hm, hc⟩ := h
  clear hc hm
  generalize betweenL l f 1 = x at *
  obtain ⟨a, e⟩ := x
  by_cases he : e = 0
  · subst he
    go_enter Try.func21, Try.ntmps21
    go_wp2_with fail
    refine Hc.out.mono ?_
    rintro e w1 ⟨rfl, hb1⟩
    simp only [priceTup_eq]
    go_wp2
    go_ret
    exact ⟨rfl, hb1⟩
  · have he2 : (e != 0) = true := by rw [bne_iff_ne]; exact he
    obtain rfl : a = 0 := H0.out he
    clear he
    go_enter Try.func21, Try.ntmps21
    go_wp2_with fail
    refine Hc.out.mono ?_
    rintro e w1 ⟨rfl, hb1⟩
    simp only [priceTup_eq]
    go_wp2
    go_ret
    exact ⟨rfl, hb1⟩

set_option maxHeartbeats 400000 in
theorem pays_calls (v : Value) (l : List St) (f n a : Int) (r : Bool) (w : World) (h : StepsAt w v l) (hn0 : -9223372036854775808 ≤ n) (hn1 : n ≤ 9223372036854775807) (hr : paysL l f n a = r) :
    Calls Try.prog 50 #[v, .int .i64 f, .int .i64 n, .int .i64 a] w fun e w' => e = .returned (.bool r) ∧ Below w.heap.size w w' := by
  have Hc := Lib.hid (rbetween_pub v l f n w h hn0 hn1)
  obtain ⟨av, cap, rfl, hm, hc⟩ := h
  clear hc hm hn0 hn1
  unfold paysL at hr
  generalize betweenL l f n = x at *
  obtain ⟨c, e⟩ := x
  dsimp only at hr
  by_cases he : e = 0
  · subst he
    have H := Lib.hid (show decide (c ≤ a) = r by rw [← hr]; simp)
    clear hr
    go_enter Try.func50, Try.ntmps50
    go_wp2_with fail
    refine Hc.out.mono ?_
    rintro e w1 ⟨rfl, hb1⟩
    simp only [priceTup_eq]
    go_wp2
    go_ret
    exact ⟨ret_bool (by rw [← H.out]), hb1⟩
  · have he2 : (e == 0) = false := beq_eq_false_iff_ne.2 he
    have H := Lib.hid (show false = r by rw [← hr]; simp [he])
    clear hr he
    go_enter Try.func50, Try.ntmps50
    go_wp2_with fail
    refine Hc.out.mono ?_
    rintro e w1 ⟨rfl, hb1⟩
    simp only [priceTup_eq]
    go_wp2
    go_ret
    exact ⟨ret_bool H.out, hb1⟩

set_option maxHeartbeats 400000 in
theorem fits_calls (v : Value) (l : List St) (f n a : Int) (b1 b2 b3 : Nat) (r : Bool) (w : World) (h : StepsAt w v l) (hn0 : -9223372036854775808 ≤ n) (hn1 : n ≤ 9223372036854775807) (hr : paysL l f n a = r)
    (h1 : w.cell? ⟨b1, 0, none⟩ = some v) (h2 : w.cell? ⟨b2, 0, none⟩ = some (.int .i64 f)) (h3 : w.cell? ⟨b3, 0, none⟩ = some (.int .i64 a)) :
    Calls Try.prog 49 #[.int .i64 n, .pointer (some ⟨b1, 0, none⟩), .pointer (some ⟨b2, 0, none⟩), .pointer (some ⟨b3, 0, none⟩)] w fun e w' => e = .returned (.bool r) ∧ Below w.heap.size w w' := by
  have Hc := Lib.hid (between_pub v l f n w h hn0 hn1)
  have hB : b3 < w.heap.size := World.block_lt_of_cell? w _ h3
  obtain ⟨av, cap, rfl, hm, hc⟩ := h
  clear hc hm hn0 hn1
  unfold paysL at hr
  generalize betweenL l f n = x at *
  obtain ⟨c, e⟩ := x
  dsimp only at hr
  by_cases he : e = 0
  · subst he
    have H := Lib.hid (show decide (c ≤ a) = r by rw [← hr]; simp)
    clear hr
    go_enter Try.func49, Try.ntmps49
    go_wp2_with fail
    refine Hc.out.mono ?_
    rintro e w1 ⟨rfl, hb1⟩
    have h4 : w1.cell? ⟨b3, 0, none⟩ = some (.int .i64 a) := (hb1.cell (p := ⟨b3, 0, none⟩) hB).trans h3
    simp only [priceTup_eq]
    go_wp2
    go_ret
    exact ⟨ret_bool (by rw [← H.out]), hb1⟩
  · have he2 : (e == 0) = false := beq_eq_false_iff_ne.2 he
    have H := Lib.hid (show false = r by rw [← hr]; simp [he])
    clear hr he
    go_enter Try.func49, Try.ntmps49
    go_wp2_with fail
    refine Hc.out.mono ?_
    rintro e w1 ⟨rfl, hb1⟩
    simp only [priceTup_eq]
    go_wp2
    go_ret
    exact ⟨ret_bool H.out, hb1⟩

set_option maxHeartbeats 400000 in
theorem runits_calls (v : Value) (l : List St) (f a : Int) (w : World) (h : StepsAt w v l) :
    Calls Try.prog 23 #[v, .int .i64 f, .int .i64 a] w fun e w' => e = .returned (.int .i64 (unitsL l f a)) ∧ Below w.heap.size w w' := by
  by_cases hf : 0 ≤ f ∧ f ≤ 1099511627776
  · cases hp : paysL l f 0 a with
    | false =>
      have H := Lib.hid (unitsL_no hp)
      have Hc := Lib.hid (pays_calls v l f 0 a _ w h (by omega) (by omega) hp)
      obtain ⟨av, cap, rfl, hm, hc⟩ := h
      clear hc hm
      go_enter Try.func23, Try.ntmps23
      go_wp2_with fail
      refine Hc.out.mono ?_
      rintro e w1 ⟨rfl, hb1⟩
      go_wp2
      go_ret
      exact ⟨ret_int H.out.symm, hb1⟩
    | true =>
      have H := Lib.hid (show unitsL l f a = descend (fun n => paysL l f n a) 41 0 by unfold unitsL; rw [if_pos hp])
      have Hc := Lib.hid (pays_calls v l f 0 a _ w h (by omega) (by omega) hp)
      have Hp := Lib.hid (fun (w1 : World) (hb1 : Below w.heap.size w w1) (n : Int) r h0 h1 hr => pays_calls v l f n a r w1 (h.below hb1) h0 h1 hr)
      clear hp
      generalize unitsL l f a = R at *
      obtain ⟨av, cap, rfl, hm, hc⟩ := h
      clear hc hm
      go_enter Try.func23, Try.ntmps23
      go_wp2_with fail
      refine Hc.out.mono ?_
      rintro e w1 ⟨rfl, hb1⟩
      go_wp2
      go_loopw [7, 8] (fun nv hv wr => ∃ (j : Nat) (n : Int), j ≤ 41 ∧ nv = .int .i64 n ∧ hv = .int .i64 (((2 ^ j : Nat) : Int) / 2) ∧ 0 ≤ n ∧ n + ((2 ^ j : Nat) : Int) ≤ 2199023255552 ∧ R = descend (fun n => paysL l f n a) j n ∧ Below w.heap.size w wr) (fun _ hv _ => (intOf hv).toNat)
      case atStart => exact ⟨41, 0, by omega, rfl, rfl, by omega, by decide, H.out, hb1⟩
      case round =>
        obtain ⟨j, n, hj, rfl, rfl, hn0, hn1, hR, hb⟩ := hrel
        match j, hj, hn1, hR with
        | 0, _, hn1, hR =>
          have HR := Lib.hid hR
          clear hR
          simp only [show (((2 ^ 0 : Nat) : Int) / 2) = 0 from rfl]
          go_wp2
          go_ret
          exact ⟨ret_int HR.out.symm, hb⟩
        | j + 1, hj, hn1, hR =>
          have e : ((2 ^ (j + 1) : Nat) : Int) = ((2 ^ j : Nat) : Int) + ((2 ^ j : Nat) : Int) := by rw [Nat.pow_succ]; omega
          have e0 : 1 ≤ ((2 ^ j : Nat) : Int) := by have := Nat.one_le_two_pow (n := j); omega
          unfold descend at hR
          rw [e] at hn1 ⊢
          have HR := Lib.hid hR
          clear hR e
          generalize hc : ((2 ^ j : Nat) : Int) = c at *
          have HC := Lib.hid hc
          clear hc
          rw [show (c + c) / 2 = c from by omega]
          cases hp : paysL l f (n + c) a with
          | true =>
            have Hq := Lib.hid (Hp.out wr hb (n + c) true (by omega) (by omega) hp)
            have HR2 := Lib.hid (show R = descend (fun n => paysL l f n a) j (n + c) by rw [HR.out, if_pos hp])
            clear hp
            go_wp2_with fail
            refine Hq.out.mono ?_
            rintro e w2 ⟨rfl, hb2⟩
            have hb3 := hb.trans (hb2.mono hb.size)
            go_wp2
            exact ⟨⟨j, n + c, by omega, rfl, by rw [HC.out], by omega, by rw [HC.out]; omega, HR2.out, hb3⟩, by simp [intOf]; omega⟩
          | false =>
            have Hq := Lib.hid (Hp.out wr hb (n + c) false (by omega) (by omega) hp)
            have HR2 := Lib.hid (show R = descend (fun n => paysL l f n a) j n by rw [HR.out, if_neg (by rw [hp]; decide)])
            clear hp
            go_wp2_with fail
            refine Hq.out.mono ?_
            rintro e w2 ⟨rfl, hb2⟩
            have hb3 := hb.trans (hb2.mono hb.size)
            go_wp2
            exact ⟨⟨j, n, by omega, rfl, by rw [HC.out], by omega, by rw [HC.out]; omega, HR2.out, hb3⟩, by simp [intOf]; omega⟩
  · have H := Lib.hid (show unitsL l f a = 0 from unitsL_no (by
      cases hp : paysL l f 0 a with
      | false => rfl
      | true => have := paysL_ok hp; omega))
    have hcase : f < 0 ∨ (0 ≤ f ∧ 1099511627776 < f) := by omega
    clear hf
    obtain ⟨av, cap, rfl, hm, hc⟩ := h
    clear hc hm
    rcases hcase with hf | hf
    all_goals
      go_enter Try.func23, Try.ntmps23
      go_wp2
      go_ret
      exact ⟨ret_int H.out.symm, Below.refl _ _⟩
end Go.Proofs.Ytkipebdhagccbaa
