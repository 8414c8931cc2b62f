/-
  The walk of the reference's division of a product.
-/
import Derived.Test.YtimclpgkdplnhaaDivide
namespace Go.Proofs.Ytimclpgkdplnhaa
open Go.RowKit

theorem div_step2 (n d Q R h b : Int) (inv : Q * d + R = n * h) (hb : b = 0 ∨ b = 1) (r1 : Int) (hr : r1 = 2 * R + b * n) :
    (2 * Q + r1 / d) * d + r1 % d = n * (2 * h + b) := by
  have e1 := Int.mul_ediv_add_emod r1 d
  rw [Int.add_mul, Int.mul_comm (r1 / d) d, Int.mul_add, Int.mul_assoc 2 Q d]
  have e3 : n * (2 * h) = 2 * (n * h) := by rw [← Int.mul_assoc, Int.mul_comm n 2, Int.mul_assoc]
  rw [e3]
  rcases hb with rfl | rfl
  · rw [Int.zero_mul] at hr
    rw [Int.mul_zero]
    omega
  · rw [Int.one_mul] at hr
    rw [Int.mul_one]
    omega

theorem below_drewN3 {B : Nat} {a w : World} (h : Below B a w) (n : Nat) : Below B a (w.drewN n) := ⟨h.os, h.tape, h.output, h.size, h.block⟩
/-- What the reference's division gives. -/
def DivTo2 (a n d : Int) (w : World) (e : Ending) (w' : World) : Prop := ∃ q r, e = .returned (.tuple #[.int .i64 q, .int .i64 r]) ∧ Below w.heap.size w w' ∧ 0 ≤ r ∧ r < d ∧ 0 ≤ q ∧ q ≤ 288230376151711744 ∧
  ((q = a * n / d ∧ r = a * n % d) ∨ (q = 288230376151711744 ∧ 288230376151711744 < a * n / d))

set_option maxRecDepth 100000 in
set_option maxHeartbeats 6400000 in
theorem rdivide_calls (a n d : Int) (w : World) (ha : 0 ≤ a) (ha2 : a ≤ 1125899906842624) (hn : 0 ≤ n) (hn2 : n ≤ 1099511627776) (hd : 1 ≤ d) (hd2 : d ≤ 1099511627776) :
    Calls Try.prog 53 #[.int .i64 a, .int .i64 n, .int .i64 d] w (DivTo2 a n d w) := by
  go_enter Try.func53, Try.ntmps53
  go_wp2_with fail
  go_loopw [8, 9, 10] (fun q r b wr => ∃ (m : Nat) (Q R : Int), m ≤ 51 ∧ b = .int .i64 ((m : Int) - 1) ∧ q = .int .i64 Q ∧ r = .int .i64 R ∧ 0 ≤ R ∧ R < d ∧ 0 ≤ Q ∧ Q ≤ 288230376151711744 ∧ (Q * d + R = n * (a / 2 ^ m) ∨ (Q = 288230376151711744 ∧ 288230376151711744 < a * n / d)) ∧ Below w.heap.size w wr) (fun _ _ b _ => ((intOf b) + 1).toNat)
  case atStart =>
    refine ⟨51, 0, 0, Nat.le_refl _, rfl, rfl, rfl, Int.le_refl _, by omega, Int.le_refl _, by omega, Or.inl ?_, Below.refl _ _⟩
    rw [Int.ediv_eq_zero_of_lt ha (by have : (2 : Int) ^ 51 = 2251799813685248 := by decide
                                      omega)]
    omega
  case round =>
    obtain ⟨m, Q, R, hm, rfl, rfl, rfl, hR, hR2, hQ, hQ2, hinv, hb⟩ := hrel
    have hd0 : ¬ d = 0 := by omega
    have w1 : IntKind.i64.wrap (2 * Q) = 2 * Q := IntWalk.i64_in _ (by omega)
    have w2 : IntKind.i64.wrap (2 * R) = 2 * R := IntWalk.i64_in _ (by omega)
    have Hinv := Lib.hid hinv
    clear hinv
    by_cases h0 : m = 0
    · subst h0
      have h := Hinv.out
      rw [Int.pow_zero, Int.ediv_one] at h
      have HE := Lib.hid (show (Q = a * n / d ∧ R = a * n % d) ∨ (Q = 288230376151711744 ∧ 288230376151711744 < a * n / d) from by
        rcases h with h | h
        · have := div_exact (n * a) d Q R (by omega) h hR hR2
          rw [Int.mul_comm n a] at this
          exact Or.inl ⟨this.1.symm, this.2.symm⟩
        · exact Or.inr h)
      clear h
      go_wp2
      go_ret2
      exact ⟨Q, R, rfl, hb, hR, hR2, hQ, hQ2, HE.out⟩
    · obtain ⟨k, rfl⟩ : ∃ k : Nat, m = k + 1 := ⟨m - 1, by omega⟩
      have hkk : ((k + 1 : Nat) : Int) - 1 = (k : Int) := by omega
      rw [hkk]
      have hk0 : (0 : Int) ≤ (k : Int) := Int.natCast_nonneg _
      have hk63 : k ≤ 50 := by omega
      have hh := pow_le a k ha
      have Hbit := Lib.hid (bit_and (a / 2 ^ k) hh.1 (by omega))
      have Hhalf := Lib.hid (half_pow a k)
      have hbb : (a / 2 ^ k) % 2 = 0 ∨ (a / 2 ^ k) % 2 = 1 := by omega
      have wu : IntKind.u64.wrap (k : Int) = (k : Int) := by simp [IntKind.wrap, IntKind.bits, IntKind.signed]; omega
      clear h0 hkk hm
      rcases hbb with hbb | hbb
      · have hbit : (bits BinOp.and IntKind.i64 (a / 2 ^ k) 1 == 1) = false := by rw [Hbit.out, hbb]; rfl
        have HS := Lib.hid (show (2 * Q + (2 * R) / d) * d + (2 * R) % d = n * (a / 2 ^ k) ∨ (Q = 288230376151711744 ∧ 288230376151711744 < a * n / d) from by
          rcases Hinv.out with h | h
          · have := div_step2 n d Q R (a / 2 ^ (k + 1)) 0 h (Or.inl rfl) (2 * R) (by omega)
            rw [show 2 * (a / 2 ^ (k + 1)) + 0 = a / 2 ^ k by rw [Hhalf.out]; omega] at this
            exact Or.inl this
          · exact Or.inr h)
        have HH := Lib.hid hh
        have hr0 : 0 ≤ (2 * R) / d := Int.ediv_nonneg (by omega) (by omega)
        have hr1 : (2 * R) / d ≤ 2 * R := Int.ediv_le_self _ (by omega)
        have hs0 : 0 ≤ (2 * R) % d := Int.emod_nonneg _ (by omega)
        have hs1 : (2 * R) % d < d := Int.emod_lt_of_pos _ (by omega)
        have hp0 : 0 ≤ 2 * R := by omega
        have w3 : IntKind.i64.wrap (2 * Q + (2 * R) / d) = 2 * Q + (2 * R) / d := IntWalk.i64_in _ (by omega)
        clear hbb hh
        by_cases hx : 288230376151711744 < 2 * Q + (2 * R) / d
        · have HX := Lib.hid (show 288230376151711744 < a * n / d from by
            rcases HS.out with h1 | h1
            · have h2 := HH.out
              have h3 : n * (a / 2 ^ k) ≤ n * a := Int.mul_le_mul_of_nonneg_left h2.2 hn
              have h4 : 288230376151711745 * d ≤ (2 * Q + (2 * R) / d) * d := Int.mul_le_mul_of_nonneg_right (by omega) (by omega)
              have h6 := Int.mul_comm n a
              have h5 : 288230376151711745 ≤ a * n / d := (Int.le_ediv_iff_mul_le (by omega)).2 (by omega)
              omega
            · exact h1.2)
          go_wp2_with fail
          go_big_quiet (fail)
          go_wp2
          exact ⟨⟨k, _, _, by omega, rfl, rfl, rfl, hs0, hs1, by omega, by omega, Or.inr ⟨rfl, HX.out⟩, below_drewN3 hb _⟩, by simp [intOf]⟩
        · have HX := Lib.hid (show (2 * Q + (2 * R) / d) * d + (2 * R) % d = n * (a / 2 ^ k) from by
            rcases HS.out with h1 | h1
            · exact h1
            · omega)
          go_wp2_with fail
          go_big_quiet (fail)
          go_wp2
          exact ⟨⟨k, _, _, by omega, rfl, rfl, rfl, hs0, hs1, by omega, by omega, Or.inl HX.out, below_drewN3 hb _⟩, by simp [intOf]⟩
      · have hbit : (bits BinOp.and IntKind.i64 (a / 2 ^ k) 1 == 1) = true := by rw [Hbit.out, hbb]; rfl
        have HS := Lib.hid (show (2 * Q + (2 * R + n) / d) * d + (2 * R + n) % d = n * (a / 2 ^ k) ∨ (Q = 288230376151711744 ∧ 288230376151711744 < a * n / d) from by
          rcases Hinv.out with h | h
          · have := div_step2 n d Q R (a / 2 ^ (k + 1)) 1 h (Or.inr rfl) (2 * R + n) (by omega)
            rw [show 2 * (a / 2 ^ (k + 1)) + 1 = a / 2 ^ k by rw [Hhalf.out]; omega] at this
            exact Or.inl this
          · exact Or.inr h)
        have HH := Lib.hid hh
        have hr0 : 0 ≤ (2 * R + n) / d := Int.ediv_nonneg (by omega) (by omega)
        have hr1 : (2 * R + n) / d ≤ 2 * R + n := Int.ediv_le_self _ (by omega)
        have hs0 : 0 ≤ (2 * R + n) % d := Int.emod_nonneg _ (by omega)
        have hs1 : (2 * R + n) % d < d := Int.emod_lt_of_pos _ (by omega)
        have hp0 : 0 ≤ 2 * R + n := by omega
        have w5 : IntKind.i64.wrap (2 * R + n) = 2 * R + n := IntWalk.i64_in _ (by omega)
        have w3 : IntKind.i64.wrap (2 * Q + (2 * R + n) / d) = 2 * Q + (2 * R + n) / d := IntWalk.i64_in _ (by omega)
        clear hbb hh
        by_cases hx : 288230376151711744 < 2 * Q + (2 * R + n) / d
        · have HX := Lib.hid (show 288230376151711744 < a * n / d from by
            rcases HS.out with h1 | h1
            · have h2 := HH.out
              have h3 : n * (a / 2 ^ k) ≤ n * a := Int.mul_le_mul_of_nonneg_left h2.2 hn
              have h4 : 288230376151711745 * d ≤ (2 * Q + (2 * R + n) / d) * d := Int.mul_le_mul_of_nonneg_right (by omega) (by omega)
              have h6 := Int.mul_comm n a
              have h5 : 288230376151711745 ≤ a * n / d := (Int.le_ediv_iff_mul_le (by omega)).2 (by omega)
              omega
            · exact h1.2)
          go_wp2_with fail
          go_big_quiet (fail)
          go_wp2
          exact ⟨⟨k, _, _, by omega, rfl, rfl, rfl, hs0, hs1, by omega, by omega, Or.inr ⟨rfl, HX.out⟩, below_drewN3 hb _⟩, by simp [intOf]⟩
        · have HX := Lib.hid (show (2 * Q + (2 * R + n) / d) * d + (2 * R + n) % d = n * (a / 2 ^ k) from by
            rcases HS.out with h1 | h1
            · exact h1
            · omega)
          go_wp2_with fail
          go_big_quiet (fail)
          go_wp2
          exact ⟨⟨k, _, _, by omega, rfl, rfl, rfl, hs0, hs1, by omega, by omega, Or.inl HX.out, below_drewN3 hb _⟩, by simp [intOf]⟩
end Go.Proofs.Ytimclpgkdplnhaa
