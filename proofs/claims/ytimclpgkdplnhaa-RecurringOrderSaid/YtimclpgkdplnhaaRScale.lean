/-
  The walk of the reference's Scale.
-/
import Derived.Test.YtimclpgkdplnhaaScale
import Derived.Test.YtimclpgkdplnhaaRDivide
namespace Go.Proofs.Ytimclpgkdplnhaa
open Go.RowKit

set_option maxRecDepth 100000 in
set_option maxHeartbeats 6400000 in
theorem rscale_pos (a n d : Int) (w : World) (h0 : 0 ≤ a) : Calls Try.prog 39 #[.int .i64 a, .int .i64 n, .int .i64 d] w fun e w' => e = .returned (pairT (scaleV a n d)) ∧ Below w.heap.size w w' := by
  have H := Lib.hid (ramvalid_calls a w)
  have hneg : decide (a < 0) = false := decide_eq_false (by omega)
  have hneg2 : ¬ a < 0 := by omega
  cases hv : amB a with
  | false =>
    rw [hv] at H
    rw [scale_no a n d (scOk_no (fun h => by rw [hv] at h; cases h.1))]
    clear hv
    go_enter Try.func39, Try.ntmps39
    go_wp2_with fail
    refine H.out.mono ?_
    rintro e w1 ⟨rfl, hb⟩
    go_wp2
    go_ret2
    exact ⟨rfl, hb⟩
  | true =>
    rw [hv] at H
    have hav := (amB_iff a).1 hv
    by_cases h1 : 0 ≤ n ∧ n ≤ 1099511627776 ∧ 1 ≤ d ∧ d ≤ 1099511627776
    · have hok : scOk a n d = true := (scOk_iff a n d).2 ⟨hv, h1⟩
      have HE := Lib.hid (fun q hq hr => scale_end a n d q hok hq hr)
      obtain ⟨h2, h3, h4, h5⟩ := h1
      have k1 : decide (n < 0) = false := decide_eq_false (by omega)
      have k2 : decide (1099511627776 < n) = false := decide_eq_false (by omega)
      have k3 : decide (d < 1) = false := decide_eq_false (by omega)
      have k4 : decide (1099511627776 < d) = false := decide_eq_false (by omega)
      have HD := Lib.hid (fun w1 => rdivide_calls a n d w1 h0 (by omega) h2 h3 h4 h5)
      have HR := Lib.hid (show scR a n d = if d ≤ 2 * (absI a * n % d) then absI a * n / d + 1 else absI a * n / d from rfl)
      have s1 : absI a = a := by unfold absI; rw [if_neg hneg2]
      rw [s1] at HR
      generalize scaleV a n d = V at *
      generalize scR a n d = T at *
      clear hok hv s1
      go_enter Try.func39, Try.ntmps39
      go_wp2_with fail
      refine H.out.mono ?_
      rintro e w1 ⟨rfl, hb⟩
      go_wp2_with fail
      refine (HD.out w1).mono ?_
      rintro e w2 ⟨q, r, rfl, hb2, hr0, hr1, hq0, hq1, hres⟩
      have HRes := Lib.hid hres
      clear hres
      have w3 : IntKind.i64.wrap (2 * r) = 2 * r := IntWalk.i64_in _ (by omega)
      by_cases hup : d ≤ 2 * r
      · have k5 : decide (d ≤ 2 * r) = true := decide_eq_true hup
        have w4 : IntKind.i64.wrap (q + 1) = q + 1 := IntWalk.i64_in _ (by omega)
        have HF := Lib.hid (HE.out (q + 1) (by omega) (by
          rcases HRes.out with ⟨e1, e2⟩ | ⟨e1, e2⟩
          · exact Or.inl (by rw [HR.out, if_pos (by rw [← e2]; exact hup), e1])
          · exact Or.inr ⟨by omega, by rw [HR.out]; split <;> omega⟩))
        rw [if_neg (show ¬ a < 0 by omega)] at HF
        have HV := Lib.hid (fun w1 => ramvalid_calls (q + 1) w1)
        cases hq : amB (q + 1) with
        | true =>
          rw [hq] at HV HF
          rw [if_pos rfl] at HF
          clear hq
          go_wp2_with fail
          refine (HV.out w2).mono ?_
          rintro e w3 ⟨rfl, hb3⟩
          go_wp2
          go_ret2
          rw [← HF.out]
          exact ⟨rfl, (hb.trans (hb2.mono hb.size)).trans (hb3.mono (Nat.le_trans hb.size hb2.size))⟩
        | false =>
          rw [hq] at HV HF
          rw [if_neg (by decide)] at HF
          clear hq
          go_wp2_with fail
          refine (HV.out w2).mono ?_
          rintro e w3 ⟨rfl, hb3⟩
          go_wp2
          go_ret2
          rw [← HF.out]
          exact ⟨rfl, (hb.trans (hb2.mono hb.size)).trans (hb3.mono (Nat.le_trans hb.size hb2.size))⟩
      · have k5 : decide (d ≤ 2 * r) = false := decide_eq_false hup
        have HF := Lib.hid (HE.out (q) (by omega) (by
          rcases HRes.out with ⟨e1, e2⟩ | ⟨e1, e2⟩
          · exact Or.inl (by rw [HR.out, if_neg (by rw [← e2]; exact hup), e1])
          · exact Or.inr ⟨by omega, by rw [HR.out]; split <;> omega⟩))
        rw [if_neg (show ¬ a < 0 by omega)] at HF
        have HV := Lib.hid (fun w1 => ramvalid_calls (q) w1)
        cases hq : amB (q) with
        | true =>
          rw [hq] at HV HF
          rw [if_pos rfl] at HF
          clear hq
          go_wp2_with fail
          refine (HV.out w2).mono ?_
          rintro e w3 ⟨rfl, hb3⟩
          go_wp2
          go_ret2
          rw [← HF.out]
          exact ⟨rfl, (hb.trans (hb2.mono hb.size)).trans (hb3.mono (Nat.le_trans hb.size hb2.size))⟩
        | false =>
          rw [hq] at HV HF
          rw [if_neg (by decide)] at HF
          clear hq
          go_wp2_with fail
          refine (HV.out w2).mono ?_
          rintro e w3 ⟨rfl, hb3⟩
          go_wp2
          go_ret2
          rw [← HF.out]
          exact ⟨rfl, (hb.trans (hb2.mono hb.size)).trans (hb3.mono (Nat.le_trans hb.size hb2.size))⟩
    · rw [scale_no a n d (scOk_no (fun h => h1 h.2))]
      clear hv
      by_cases h2 : n < 0
      · have k1 : decide (n < 0) = true := decide_eq_true h2
        go_enter Try.func39, Try.ntmps39
        go_wp2_with fail
        refine H.out.mono ?_
        rintro e w1 ⟨rfl, hb⟩
        go_wp2
        go_ret2
        exact ⟨rfl, hb⟩
      · have k1 : decide (n < 0) = false := decide_eq_false h2
        by_cases h3 : 1099511627776 < n
        · have k2 : decide (1099511627776 < n) = true := decide_eq_true h3
          go_enter Try.func39, Try.ntmps39
          go_wp2_with fail
          refine H.out.mono ?_
          rintro e w1 ⟨rfl, hb⟩
          go_wp2
          go_ret2
          exact ⟨rfl, hb⟩
        · have k2 : decide (1099511627776 < n) = false := decide_eq_false h3
          by_cases h4 : d < 1
          · have k3 : decide (d < 1) = true := decide_eq_true h4
            go_enter Try.func39, Try.ntmps39
            go_wp2_with fail
            refine H.out.mono ?_
            rintro e w1 ⟨rfl, hb⟩
            go_wp2
            go_ret2
            exact ⟨rfl, hb⟩
          · have k3 : decide (d < 1) = false := decide_eq_false h4
            have k4 : decide (1099511627776 < d) = true := decide_eq_true (by omega)
            go_enter Try.func39, Try.ntmps39
            go_wp2_with fail
            refine H.out.mono ?_
            rintro e w1 ⟨rfl, hb⟩
            go_wp2
            go_ret2
            exact ⟨rfl, hb⟩

theorem scale_neg (a n d : Int) (h : a < 0) : scaleV a n d = (-(scaleV (-a) n d).1, (scaleV (-a) n d).2) := by
  have e1 : amB (-a) = amB a := by
    rw [Bool.eq_iff_iff, amB_iff, amB_iff]; omega
  have e2 : absI (-a) = absI a := by unfold absI; rw [if_pos h, if_neg (by omega)]
  have e3 : scOk (-a) n d = scOk a n d := by unfold scOk; rw [e1]
  have e4 : scR (-a) n d = scR a n d := by unfold scR; rw [e2]
  unfold scaleV
  rw [e3, e4, if_pos h, if_neg (show ¬ -a < 0 by omega)]
  split
  · split
    · rfl
    · rfl
  · rfl
theorem scale_abs (a n d : Int) : -2251799813685248 ≤ (scaleV a n d).1 ∧ (scaleV a n d).1 ≤ 2251799813685248 := by
  unfold scaleV
  split
  · rename_i hok
    have h := (scOk_iff a n d).1 hok
    have h1 : 0 ≤ absI a * n / d := Int.ediv_nonneg (Int.mul_nonneg (absI_nonneg a) h.2.1) (by omega)
    have h2 : 0 ≤ scR a n d := by unfold scR; split <;> omega
    split
    · dsimp only; split <;> omega
    · exact ⟨by decide, by decide⟩
  · exact ⟨by decide, by decide⟩

set_option maxRecDepth 100000 in
set_option maxHeartbeats 6400000 in
theorem rscale_calls (a n d : Int) (w : World) : Calls Try.prog 39 #[.int .i64 a, .int .i64 n, .int .i64 d] w fun e w' => e = .returned (pairT (scaleV a n d)) ∧ Below w.heap.size w w' := by
  by_cases hs : a < 0
  · have hneg : decide (a < 0) = true := decide_eq_true hs
    have H := Lib.hid (ramvalid_calls a w)
    cases hv : amB a with
    | false =>
      rw [hv] at H
      rw [scale_no a n d (scOk_no (fun h => by rw [hv] at h; cases h.1))]
      clear hv
      go_enter Try.func39, Try.ntmps39
      go_wp2_with fail
      refine H.out.mono ?_
      rintro e w1 ⟨rfl, hb⟩
      go_wp2
      go_ret2
      exact ⟨rfl, hb⟩
    | true =>
      rw [hv] at H
      have hav := (amB_iff a).1 hv
      by_cases h1 : 0 ≤ n ∧ n ≤ 1099511627776 ∧ 1 ≤ d ∧ d ≤ 1099511627776
      · obtain ⟨h2, h3, h4, h5⟩ := h1
        have k1 : decide (n < 0) = false := decide_eq_false (by omega)
        have k2 : decide (1099511627776 < n) = false := decide_eq_false (by omega)
        have k3 : decide (d < 1) = false := decide_eq_false (by omega)
        have k4 : decide (1099511627776 < d) = false := decide_eq_false (by omega)
        have s2 : IntKind.i64.wrap (-a) = -a := IntWalk.i64_in _ (by omega)
        have HP := Lib.hid (fun w1 => rscale_pos (-a) n d w1 (by omega))
        have HN := Lib.hid (scale_neg a n d hs)
        have hb1 := scale_abs (-a) n d
        generalize scaleV (-a) n d = V at *
        obtain ⟨x, y⟩ := V
        dsimp only at hb1
        have s3 : IntKind.i64.wrap (-x) = -x := IntWalk.i64_in _ (by omega)
        have HP := Lib.hid (show ∀ w1, Calls Try.prog 39 #[.int .i64 (-a), .int .i64 n, .int .i64 d] w1 fun e w' => e = .returned (.tuple #[.int .i64 x, .int .i64 y]) ∧ Below w1.heap.size w1 w' from HP.out)
        clear hv
        go_enter Try.func39, Try.ntmps39
        go_wp2_with fail
        refine H.out.mono ?_
        rintro e w1 ⟨rfl, hb⟩
        go_wp2_with fail
        refine (HP.out w1).mono ?_
        rintro e w2 ⟨rfl, hb2⟩
        go_wp2
        go_ret2
        rw [HN.out]
        exact ⟨rfl, hb.trans (hb2.mono hb.size)⟩
      · rw [scale_no a n d (scOk_no (fun h => h1 h.2))]
        clear hv
        by_cases h2 : n < 0
        · have k1 : decide (n < 0) = true := decide_eq_true h2
          go_enter Try.func39, Try.ntmps39
          go_wp2_with fail
          refine H.out.mono ?_
          rintro e w1 ⟨rfl, hb⟩
          go_wp2
          go_ret2
          exact ⟨rfl, hb⟩
        · have k1 : decide (n < 0) = false := decide_eq_false h2
          by_cases h3 : 1099511627776 < n
          · have k2 : decide (1099511627776 < n) = true := decide_eq_true h3
            go_enter Try.func39, Try.ntmps39
            go_wp2_with fail
            refine H.out.mono ?_
            rintro e w1 ⟨rfl, hb⟩
            go_wp2
            go_ret2
            exact ⟨rfl, hb⟩
          · have k2 : decide (1099511627776 < n) = false := decide_eq_false h3
            by_cases h4 : d < 1
            · have k3 : decide (d < 1) = true := decide_eq_true h4
              go_enter Try.func39, Try.ntmps39
              go_wp2_with fail
              refine H.out.mono ?_
              rintro e w1 ⟨rfl, hb⟩
              go_wp2
              go_ret2
              exact ⟨rfl, hb⟩
            · have k3 : decide (d < 1) = false := decide_eq_false h4
              have k4 : decide (1099511627776 < d) = true := decide_eq_true (by omega)
              go_enter Try.func39, Try.ntmps39
              go_wp2_with fail
              refine H.out.mono ?_
              rintro e w1 ⟨rfl, hb⟩
              go_wp2
              go_ret2
              exact ⟨rfl, hb⟩
  · exact rscale_pos a n d w (by omega)
end Go.Proofs.Ytimclpgkdplnhaa
