/-
  The walk of amount.Scale: a product divided and rounded, or the first error.
-/
import Derived.Test.YtimclpgkdplnhaaDivide
namespace Go.Proofs.Ytimclpgkdplnhaa
open Go.RowKit

def amB (a : Int) : Bool := decide (-1125899906842624 ≤ a) && decide (a ≤ 1125899906842624)
theorem amB_iff (a : Int) : amB a = true ↔ -1125899906842624 ≤ a ∧ a ≤ 1125899906842624 := by unfold amB; simp
def absI (a : Int) : Int := if a < 0 then -a else a
theorem absI_nonneg (a : Int) : 0 ≤ absI a := by unfold absI; split <;> omega
def scR (a n d : Int) : Int := if d ≤ 2 * (absI a * n % d) then absI a * n / d + 1 else absI a * n / d
def scOk (a n d : Int) : Bool := amB a && decide (0 ≤ n) && decide (n ≤ 1099511627776) && decide (1 ≤ d) && decide (d ≤ 1099511627776)
theorem scOk_iff (a n d : Int) : scOk a n d = true ↔ amB a = true ∧ 0 ≤ n ∧ n ≤ 1099511627776 ∧ 1 ≤ d ∧ d ≤ 1099511627776 := by
  unfold scOk; simp [and_assoc]
/-- What Scale gives: an amount and whether there is an error. -/
def scaleV (a n d : Int) : Int × Int := if scOk a n d = true then (if scR a n d ≤ 1125899906842624 then (if a < 0 then - scR a n d else scR a n d, 0) else (0, 6)) else (0, 6)
def pairT (x : Int × Int) : Value := .tuple #[.int .i64 x.1, .int .i64 x.2]

theorem amvalid_calls (a : Int) (w : World) : Calls Try.prog 49 #[.int .i64 a] w fun e w' => e = .returned (.bool (amB a)) ∧ Below w.heap.size w w' := by
  by_cases h1 : -1125899906842624 ≤ a
  · have k1 : decide (-1125899906842624 ≤ a) = true := decide_eq_true h1
    by_cases h2 : a ≤ 1125899906842624
    · have k2 : decide (a ≤ 1125899906842624) = true := decide_eq_true h2
      have H := Lib.hid (show true = amB a by unfold amB; rw [k1, k2]; rfl)
      go_enter Try.func49, Try.ntmps49
      go_wp2
      go_ret
      exact ⟨ret_bool H.out, by go_grown⟩
    · have k2 : decide (a ≤ 1125899906842624) = false := decide_eq_false h2
      have H := Lib.hid (show false = amB a by unfold amB; rw [k1, k2]; rfl)
      go_enter Try.func49, Try.ntmps49
      go_wp2
      go_ret
      exact ⟨ret_bool H.out, by go_grown⟩
  · have k1 : decide (-1125899906842624 ≤ a) = false := decide_eq_false h1
    have H := Lib.hid (show false = amB a by unfold amB; rw [k1]; rfl)
    go_enter Try.func49, Try.ntmps49
    go_wp2
    go_ret
    exact ⟨ret_bool H.out, by go_grown⟩
theorem ramvalid_calls (a : Int) (w : World) : Calls Try.prog 16 #[.int .i64 a] w fun e w' => e = .returned (.bool (amB a)) ∧ Below w.heap.size w w' := by
  by_cases h1 : -1125899906842624 ≤ a
  · have k1 : decide (-1125899906842624 ≤ a) = true := decide_eq_true h1
    by_cases h2 : a ≤ 1125899906842624
    · have k2 : decide (a ≤ 1125899906842624) = true := decide_eq_true h2
      have H := Lib.hid (show true = amB a by unfold amB; rw [k1, k2]; rfl)
      go_enter Try.func16, Try.ntmps16
      go_wp2
      go_ret
      exact ⟨ret_bool H.out, by go_grown⟩
    · have k2 : decide (a ≤ 1125899906842624) = false := decide_eq_false h2
      have H := Lib.hid (show false = amB a by unfold amB; rw [k1, k2]; rfl)
      go_enter Try.func16, Try.ntmps16
      go_wp2
      go_ret
      exact ⟨ret_bool H.out, by go_grown⟩
  · have k1 : decide (-1125899906842624 ≤ a) = false := decide_eq_false h1
    have H := Lib.hid (show false = amB a by unfold amB; rw [k1]; rfl)
    go_enter Try.func16, Try.ntmps16
    go_wp2
    go_ret
    exact ⟨ret_bool H.out, by go_grown⟩

theorem checked_calls (a : Int) (w : World) : Calls Try.prog 51 #[.int .i64 a] w fun e w' => e = .returned (pairT (if amB a = true then (a, 0) else (0, 6))) ∧ Below w.heap.size w w' := by
  have H := Lib.hid (amvalid_calls a w)
  cases h : amB a with
  | true =>
    rw [h] at H
    rw [if_pos rfl]
    clear h
    go_enter Try.func51, Try.ntmps51
    go_wp2_with fail
    refine H.out.mono ?_
    rintro e w1 ⟨rfl, hb⟩
    go_wp2
    go_ret2
    exact ⟨rfl, hb⟩
  | false =>
    rw [h] at H
    rw [if_neg (by decide)]
    clear h
    go_enter Try.func51, Try.ntmps51
    go_wp2_with fail
    refine H.out.mono ?_
    rintro e w1 ⟨rfl, hb⟩
    go_wp2
    go_ret2
    exact ⟨rfl, hb⟩

theorem scale_no (a n d : Int) (h : scOk a n d = false) : scaleV a n d = (0, 6) := by unfold scaleV; rw [if_neg (by rw [h]; decide)]
theorem scOk_no {a n d : Int} (h : ¬ (amB a = true ∧ 0 ≤ n ∧ n ≤ 1099511627776 ∧ 1 ≤ d ∧ d ≤ 1099511627776)) : scOk a n d = false := by
  cases e : scOk a n d with
  | false => rfl
  | true => exact absurd ((scOk_iff a n d).1 e) h
/-- The end of Scale: the sign and the check of what was rounded. -/
theorem scale_end (a n d q : Int) (h : scOk a n d = true) (hq : 0 ≤ q) (hr : q = scR a n d ∨ (1125899906842624 < q ∧ 1125899906842624 < scR a n d)) :
    (if amB (if a < 0 then -q else q) = true then ((if a < 0 then -q else q), (0 : Int)) else (0, 6)) = scaleV a n d := by
  unfold scaleV
  rw [if_pos h]
  rcases hr with rfl | ⟨h1, h2⟩
  · by_cases hc : scR a n d ≤ 1125899906842624
    · rw [if_pos hc, if_pos ((amB_iff _).2 (by split <;> omega))]
    · rw [if_neg hc, if_neg (fun h => by have := (amB_iff _).1 h; split at this <;> omega)]
  · rw [if_neg (show ¬ scR a n d ≤ 1125899906842624 by omega), if_neg (fun h => by have := (amB_iff _).1 h; split at this <;> omega)]

set_option maxRecDepth 100000 in
set_option maxHeartbeats 6400000 in
theorem scale_calls (a n d : Int) (w : World) : Calls Try.prog 37 #[.int .i64 a, .int .i64 n, .int .i64 d] w fun e w' => e = .returned (pairT (scaleV a n d)) ∧ Below w.heap.size w w' := by
  have H := Lib.hid (amvalid_calls a w)
  cases hv : amB a with
  | false =>
    rw [hv] at H
    rw [scale_no a n d (scOk_no (fun h => by rw [hv] at h; cases h.1))]
    clear hv
    go_enter Try.func37, Try.ntmps37
    go_wp2_with fail
    refine H.out.mono ?_
    rintro e w1 ⟨rfl, hb⟩
    go_wp2
    go_ret2
    exact ⟨rfl, hb⟩
  | true =>
    rw [hv] at H
    have hav := (amB_iff a).1 hv
    by_cases h1 : 0 ≤ n ∧ n ≤ 1099511627776 ∧ 1 ≤ d ∧ d ≤ 1099511627776
    · have hok : scOk a n d = true := (scOk_iff a n d).2 ⟨hv, h1⟩
      have HE := Lib.hid (fun q hq hr => scale_end a n d q hok hq hr)
      obtain ⟨h2, h3, h4, h5⟩ := h1
      have k1 : decide (n < 0) = false := decide_eq_false (by omega)
      have k2 : decide (1099511627776 < n) = false := decide_eq_false (by omega)
      have k3 : decide (d < 1) = false := decide_eq_false (by omega)
      have k4 : decide (1099511627776 < d) = false := decide_eq_false (by omega)
      have HD := Lib.hid (fun w1 => divide_calls (absI a) n d w1 (absI_nonneg a) (by unfold absI; split <;> omega) h2 h3 h4 h5)
      have HR := Lib.hid (show scR a n d = if d ≤ 2 * (absI a * n % d) then absI a * n / d + 1 else absI a * n / d from rfl)
      have hq0 : 0 ≤ absI a * n / d := Int.ediv_nonneg (Int.mul_nonneg (absI_nonneg a) h2) (by omega)
      have hr0 : 0 ≤ absI a * n % d := Int.emod_nonneg _ (by omega)
      have hr1 : absI a * n % d < d := Int.emod_lt_of_pos _ (by omega)
      generalize scaleV a n d = V at *
      generalize scR a n d = T at *
      clear hok hv
      by_cases hs : a < 0
      · have s1 : absI a = -a := by unfold absI; rw [if_pos hs]
        have s2 : IntKind.i64.wrap (-a) = -a := IntWalk.i64_in _ (by omega)
        have s4 : decide (a < 0) = true := decide_eq_true hs
        rw [s1] at HD HR hq0 hr0 hr1
        clear s1
        have s3 : a < -a := by omega
        go_enter Try.func37, Try.ntmps37
        go_wp2_with fail
        refine H.out.mono ?_
        rintro e w1 ⟨rfl, hb⟩
        go_wp2_with fail
        refine (HD.out w1).mono ?_
        rintro e w2 ⟨q, r, rfl, hb2, hres⟩
        rcases hres with ⟨h1, h2, h3⟩ | ⟨h1, h2, rfl, h3⟩
        · by_cases hup : d ≤ 2 * r
          · have hq0 : 0 ≤ q := by omega
            have hr0 : 0 ≤ r := by omega
            have hr1 : r < d := by omega
            have H1 := Lib.hid h1
            have H2 := Lib.hid h2
            clear h1 h2
            have w3 : IntKind.i64.wrap (d - r) = d - r := IntWalk.i64_in _ (by omega)
            have k5 : decide (d - r ≤ r) = true := decide_eq_true (by omega)
            have w4 : IntKind.i64.wrap (q + 1) = q + 1 := IntWalk.i64_in _ (by omega)
            have w5 : IntKind.i64.wrap (-(q + 1)) = -(q + 1) := IntWalk.i64_in _ (by omega)
            have HF := Lib.hid (HE.out (q + 1) (by omega) (Or.inl (by rw [HR.out, if_pos (by rw [← H2.out]; omega), H1.out])))
            rw [if_pos hs] at HF
            have HC := Lib.hid (show ∀ w1, Calls Try.prog 51 #[.int .i64 (-(q + 1))] w1 fun e w' => e = .returned (.tuple #[.int .i64 V.1, .int .i64 V.2]) ∧ Below w1.heap.size w1 w' from fun w1 => by
              have h := checked_calls (-(q + 1)) w1
              rw [HF.out] at h
              exact h)
            go_wp2_with fail
            refine (HC.out w2).mono ?_
            rintro e w3 ⟨rfl, hb3⟩
            go_wp2
            go_ret2
            exact ⟨rfl, (hb.trans (hb2.mono hb.size)).trans (hb3.mono (Nat.le_trans hb.size hb2.size))⟩
          · have hq0 : 0 ≤ q := by omega
            have hr0 : 0 ≤ r := by omega
            have hr1 : r < d := by omega
            have H1 := Lib.hid h1
            have H2 := Lib.hid h2
            clear h1 h2
            have w3 : IntKind.i64.wrap (d - r) = d - r := IntWalk.i64_in _ (by omega)
            have k5 : decide (d - r ≤ r) = false := decide_eq_false (by omega)
            have w5 : IntKind.i64.wrap (-(q)) = -(q) := IntWalk.i64_in _ (by omega)
            have HF := Lib.hid (HE.out (q) (by omega) (Or.inl (by rw [HR.out, if_neg (by rw [← H2.out]; omega), H1.out])))
            rw [if_pos hs] at HF
            have HC := Lib.hid (show ∀ w1, Calls Try.prog 51 #[.int .i64 (-(q))] w1 fun e w' => e = .returned (.tuple #[.int .i64 V.1, .int .i64 V.2]) ∧ Below w1.heap.size w1 w' from fun w1 => by
              have h := checked_calls (-(q)) w1
              rw [HF.out] at h
              exact h)
            go_wp2_with fail
            refine (HC.out w2).mono ?_
            rintro e w3 ⟨rfl, hb3⟩
            go_wp2
            go_ret2
            exact ⟨rfl, (hb.trans (hb2.mono hb.size)).trans (hb3.mono (Nat.le_trans hb.size hb2.size))⟩
        · have hbig : 1125899906842624 < T := by rw [HR.out]; split <;> omega
          have r0 : (0 : Int) < d := by omega
          have w3 : IntKind.i64.wrap (d - 0) = d - 0 := IntWalk.i64_in _ (by omega)
          have k5 : decide (d - 0 ≤ 0) = false := decide_eq_false (by omega)
          have w5 : IntKind.i64.wrap (-(q)) = -(q) := IntWalk.i64_in _ (by omega)
          have HF := Lib.hid (HE.out (q) (by omega) (Or.inr ⟨by omega, hbig⟩))
          rw [if_pos hs] at HF
          have HC := Lib.hid (show ∀ w1, Calls Try.prog 51 #[.int .i64 (-(q))] w1 fun e w' => e = .returned (.tuple #[.int .i64 V.1, .int .i64 V.2]) ∧ Below w1.heap.size w1 w' from fun w1 => by
            have h := checked_calls (-(q)) w1
            rw [HF.out] at h
            exact h)
          go_wp2_with fail
          refine (HC.out w2).mono ?_
          rintro e w3 ⟨rfl, hb3⟩
          go_wp2
          go_ret2
          exact ⟨rfl, (hb.trans (hb2.mono hb.size)).trans (hb3.mono (Nat.le_trans hb.size hb2.size))⟩
      · have s1 : absI a = a := by unfold absI; rw [if_neg hs]
        have s2 : IntKind.i64.wrap (-a) = -a := IntWalk.i64_in _ (by omega)
        have s4 : decide (a < 0) = false := decide_eq_false hs
        rw [s1] at HD HR hq0 hr0 hr1
        clear s1
        have s3 : ¬ a < -a := by omega
        go_enter Try.func37, Try.ntmps37
        go_wp2_with fail
        refine H.out.mono ?_
        rintro e w1 ⟨rfl, hb⟩
        go_wp2_with fail
        refine (HD.out w1).mono ?_
        rintro e w2 ⟨q, r, rfl, hb2, hres⟩
        rcases hres with ⟨h1, h2, h3⟩ | ⟨h1, h2, rfl, h3⟩
        · by_cases hup : d ≤ 2 * r
          · have hq0 : 0 ≤ q := by omega
            have hr0 : 0 ≤ r := by omega
            have hr1 : r < d := by omega
            have H1 := Lib.hid h1
            have H2 := Lib.hid h2
            clear h1 h2
            have w3 : IntKind.i64.wrap (d - r) = d - r := IntWalk.i64_in _ (by omega)
            have k5 : decide (d - r ≤ r) = true := decide_eq_true (by omega)
            have w4 : IntKind.i64.wrap (q + 1) = q + 1 := IntWalk.i64_in _ (by omega)
            have HF := Lib.hid (HE.out (q + 1) (by omega) (Or.inl (by rw [HR.out, if_pos (by rw [← H2.out]; omega), H1.out])))
            rw [if_neg (show ¬ a < 0 by omega)] at HF
            have HC := Lib.hid (show ∀ w1, Calls Try.prog 51 #[.int .i64 (q + 1)] w1 fun e w' => e = .returned (.tuple #[.int .i64 V.1, .int .i64 V.2]) ∧ Below w1.heap.size w1 w' from fun w1 => by
              have h := checked_calls (q + 1) w1
              rw [HF.out] at h
              exact h)
            go_wp2_with fail
            refine (HC.out w2).mono ?_
            rintro e w3 ⟨rfl, hb3⟩
            go_wp2
            go_ret2
            exact ⟨rfl, (hb.trans (hb2.mono hb.size)).trans (hb3.mono (Nat.le_trans hb.size hb2.size))⟩
          · have hq0 : 0 ≤ q := by omega
            have hr0 : 0 ≤ r := by omega
            have hr1 : r < d := by omega
            have H1 := Lib.hid h1
            have H2 := Lib.hid h2
            clear h1 h2
            have w3 : IntKind.i64.wrap (d - r) = d - r := IntWalk.i64_in _ (by omega)
            have k5 : decide (d - r ≤ r) = false := decide_eq_false (by omega)
            have HF := Lib.hid (HE.out (q) (by omega) (Or.inl (by rw [HR.out, if_neg (by rw [← H2.out]; omega), H1.out])))
            rw [if_neg (show ¬ a < 0 by omega)] at HF
            have HC := Lib.hid (show ∀ w1, Calls Try.prog 51 #[.int .i64 (q)] w1 fun e w' => e = .returned (.tuple #[.int .i64 V.1, .int .i64 V.2]) ∧ Below w1.heap.size w1 w' from fun w1 => by
              have h := checked_calls (q) w1
              rw [HF.out] at h
              exact h)
            go_wp2_with fail
            refine (HC.out w2).mono ?_
            rintro e w3 ⟨rfl, hb3⟩
            go_wp2
            go_ret2
            exact ⟨rfl, (hb.trans (hb2.mono hb.size)).trans (hb3.mono (Nat.le_trans hb.size hb2.size))⟩
        · have hbig : 1125899906842624 < T := by rw [HR.out]; split <;> omega
          have r0 : (0 : Int) < d := by omega
          have w3 : IntKind.i64.wrap (d - 0) = d - 0 := IntWalk.i64_in _ (by omega)
          have k5 : decide (d - 0 ≤ 0) = false := decide_eq_false (by omega)
          have HF := Lib.hid (HE.out (q) (by omega) (Or.inr ⟨by omega, hbig⟩))
          rw [if_neg (show ¬ a < 0 by omega)] at HF
          have HC := Lib.hid (show ∀ w1, Calls Try.prog 51 #[.int .i64 (q)] w1 fun e w' => e = .returned (.tuple #[.int .i64 V.1, .int .i64 V.2]) ∧ Below w1.heap.size w1 w' from fun w1 => by
            have h := checked_calls (q) w1
            rw [HF.out] at h
            exact h)
          go_wp2_with fail
          refine (HC.out w2).mono ?_
          rintro e w3 ⟨rfl, hb3⟩
          go_wp2
          go_ret2
          exact ⟨rfl, (hb.trans (hb2.mono hb.size)).trans (hb3.mono (Nat.le_trans hb.size hb2.size))⟩
    · rw [scale_no a n d (scOk_no (fun h => h1 h.2))]
      clear hv
      by_cases h2 : n < 0
      · have k1 : decide (n < 0) = true := decide_eq_true h2
        go_enter Try.func37, Try.ntmps37
        go_wp2_with fail
        refine H.out.mono ?_
        rintro e w1 ⟨rfl, hb⟩
        go_wp2
        go_ret2
        exact ⟨rfl, hb⟩
      · have k1 : decide (n < 0) = false := decide_eq_false h2
        by_cases h3 : 1099511627776 < n
        · have k2 : decide (1099511627776 < n) = true := decide_eq_true h3
          go_enter Try.func37, Try.ntmps37
          go_wp2_with fail
          refine H.out.mono ?_
          rintro e w1 ⟨rfl, hb⟩
          go_wp2
          go_ret2
          exact ⟨rfl, hb⟩
        · have k2 : decide (1099511627776 < n) = false := decide_eq_false h3
          by_cases h4 : d < 1
          · have k3 : decide (d < 1) = true := decide_eq_true h4
            go_enter Try.func37, Try.ntmps37
            go_wp2_with fail
            refine H.out.mono ?_
            rintro e w1 ⟨rfl, hb⟩
            go_wp2
            go_ret2
            exact ⟨rfl, hb⟩
          · have k3 : decide (d < 1) = false := decide_eq_false h4
            have k4 : decide (1099511627776 < d) = true := decide_eq_true (by omega)
            go_enter Try.func37, Try.ntmps37
            go_wp2_with fail
            refine H.out.mono ?_
            rintro e w1 ⟨rfl, hb⟩
            go_wp2
            go_ret2
            exact ⟨rfl, hb⟩
end Go.Proofs.Ytimclpgkdplnhaa
