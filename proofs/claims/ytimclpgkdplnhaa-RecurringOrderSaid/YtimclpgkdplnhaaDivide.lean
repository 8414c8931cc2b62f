/-
  The walks of amount's division of a product, the program's and the reference's.
-/
import Derived.Test.YtimclpgkdplnhaaInter
namespace Go.Proofs.Ytimclpgkdplnhaa
open Go.RowKit

theorem bit_and (x : Int) (h0 : 0 ≤ x) (h1 : x < 9223372036854775808) : bits .and .i64 x 1 = x % 2 := by
  obtain ⟨n, rfl⟩ := Int.eq_ofNat_of_zero_le h0
  show IntKind.i64.wrap (((BitVec.ofInt 64 (n : Int) &&& BitVec.ofInt 64 1 : BitVec 64).toNat : Nat) : Int) = _
  have e2 : (BitVec.ofInt 64 (n : Int) &&& BitVec.ofInt 64 1 : BitVec 64).toNat = n % 2 := by
    rw [BitVec.ofInt_natCast, BitVec.toNat_and, BitVec.toNat_ofNat, Nat.mod_eq_of_lt (by omega)]
    exact Nat.and_one_is_mod n
  rw [e2]
  have h2 : n % 2 < 2 := Nat.mod_lt _ (by omega)
  rw [IntWalk.i64_in _ (by omega)]
  omega

theorem half_pow (n : Int) (k : Nat) : n / 2 ^ (k + 1) = (n / 2 ^ k) / 2 := by
  rw [Int.pow_succ, Int.ediv_ediv_of_nonneg (by exact Int.le_of_lt (Int.pow_pos (by decide)))]
theorem pow_le (n : Int) (k : Nat) (h : 0 ≤ n) : 0 ≤ n / 2 ^ k ∧ n / 2 ^ k ≤ n :=
  ⟨Int.ediv_nonneg h (Int.le_of_lt (Int.pow_pos (by decide))), Int.ediv_le_self _ h⟩

/-- One bit further. -/
theorem div_step (a d Q R h b : Int) (hd : 0 < d) (inv : Q * d + R = a * h) (hb : b = 0 ∨ b = 1) (q1 r1 : Int) (hq : q1 = 2 * Q + b * (a / d)) (hr : r1 = 2 * R + b * (a % d)) :
    (q1 + r1 / d) * d + r1 % d = a * (2 * h + b) ∧ 0 ≤ r1 % d ∧ r1 % d < d := by
  have e1 := Int.mul_ediv_add_emod r1 d
  have e2 := Int.mul_ediv_add_emod a d
  refine ⟨?_, Int.emod_nonneg _ (by omega), Int.emod_lt_of_pos _ hd⟩
  rw [Int.add_mul, Int.mul_comm (r1 / d) d, Int.mul_add, hq, Int.add_mul, Int.mul_assoc 2 Q d]
  have e3 : a * (2 * h) = 2 * (a * h) := by rw [← Int.mul_assoc, Int.mul_comm a 2, Int.mul_assoc]
  rw [e3]
  rcases hb with rfl | rfl
  · rw [Int.zero_mul, Int.zero_mul, Int.mul_zero]
    omega
  · rw [Int.one_mul, Int.mul_one]
    rw [Int.one_mul] at hr
    rw [Int.mul_comm (a / d) d]
    omega
/-- What a quotient is. -/
theorem div_exact (N d Q R : Int) (hd : 0 < d) (h : Q * d + R = N) (h0 : 0 ≤ R) (h1 : R < d) : N / d = Q ∧ N % d = R := by
  rw [← h, Int.add_comm, Int.mul_comm]
  constructor
  · rw [Int.add_mul_ediv_left _ _ (by omega), Int.ediv_eq_zero_of_lt h0 h1]; omega
  · rw [Int.add_mul_emod_self_left, Int.emod_eq_of_lt h0 h1]

/-- What the program's division gives: the quotient and the remainder, or something beyond all amounts. -/
def DivTo (a n d : Int) (w : World) (e : Ending) (w' : World) : Prop := ∃ q r, e = .returned (.tuple #[.int .i64 q, .int .i64 r]) ∧ Below w.heap.size w w' ∧
  ((q = a * n / d ∧ r = a * n % d ∧ q ≤ 2251799813685248) ∨ (2251799813685248 < q ∧ q ≤ 9007199254740992 ∧ r = 0 ∧ 2251799813685248 < a * n / d))

set_option maxRecDepth 100000 in
set_option maxHeartbeats 6400000 in
theorem divide_calls (a n d : Int) (w : World) (ha : 0 ≤ a) (ha2 : a ≤ 1125899906842624) (hn : 0 ≤ n) (hn2 : n ≤ 1099511627776) (hd : 1 ≤ d) (hd2 : d ≤ 1099511627776) :
    Calls Try.prog 50 #[.int .i64 a, .int .i64 n, .int .i64 d] w (DivTo a n d w) := by
  go_enter Try.func50, Try.ntmps50
  go_wp2_with fail
  go_loopw [8, 9, 10] (fun q r b wr => ∃ (m : Nat) (Q R : Int), m ≤ 63 ∧ b = .int .i64 ((m : Int) - 1) ∧ q = .int .i64 Q ∧ r = .int .i64 R ∧ 0 ≤ R ∧ R < d ∧ 0 ≤ Q ∧ Q ≤ 2251799813685248 ∧ Q * d + R = a * (n / 2 ^ m) ∧ Below w.heap.size w wr) (fun _ _ b _ => ((intOf b) + 1).toNat)
  case atStart =>
    refine ⟨63, 0, 0, Nat.le_refl _, rfl, rfl, rfl, Int.le_refl _, by omega, Int.le_refl _, by omega, ?_, Below.refl _ _⟩
    rw [Int.ediv_eq_zero_of_lt hn (by have : (2 : Int) ^ 63 = 9223372036854775808 := by decide
                                      omega)]
    omega
  case round =>
    obtain ⟨m, Q, R, hm, rfl, rfl, rfl, hR, hR2, hQ, hQ2, hinv, hb⟩ := hrel
    have hd0 : ¬ d = 0 := by omega
    have w1 : IntKind.i64.wrap (2 * Q) = 2 * Q := IntWalk.i64_in _ (by omega)
    have w2 : IntKind.i64.wrap (2 * R) = 2 * R := IntWalk.i64_in _ (by omega)
    have Hinv := Lib.hid hinv
    clear hinv
    by_cases h0 : m = 0
    · subst h0
      have h := Hinv.out
      rw [Int.pow_zero, Int.ediv_one] at h
      have HE := Lib.hid (div_exact (a * n) d Q R (by omega) h hR hR2)
      clear h
      go_wp2
      go_ret2
      exact ⟨Q, R, rfl, hb, Or.inl ⟨HE.out.1.symm, HE.out.2.symm, hQ2⟩⟩
    · obtain ⟨k, rfl⟩ : ∃ k : Nat, m = k + 1 := ⟨m - 1, by omega⟩
      have hkk : ((k + 1 : Nat) : Int) - 1 = (k : Int) := by omega
      rw [hkk]
      have hk0 : (0 : Int) ≤ (k : Int) := Int.natCast_nonneg _
      have hk63 : k ≤ 62 := by omega
      have hh := pow_le n k hn
      have Hbit := Lib.hid (bit_and (n / 2 ^ k) hh.1 (by omega))
      have Hhalf := Lib.hid (half_pow n k)
      have hbb : (n / 2 ^ k) % 2 = 0 ∨ (n / 2 ^ k) % 2 = 1 := by omega
      have had : 0 ≤ a / d := Int.ediv_nonneg ha (by omega)
      have had2 : a / d ≤ a := Int.ediv_le_self _ ha
      have ham : 0 ≤ a % d := Int.emod_nonneg _ (by omega)
      have ham2 : a % d < d := Int.emod_lt_of_pos _ (by omega)
      clear h0 hkk hm
      rcases hbb with hbb | hbb
      · have hbit : (bits BinOp.and IntKind.i64 (n / 2 ^ k) 1 == 1) = false := by rw [Hbit.out, hbb]; rfl
        have HS := Lib.hid (div_step a d Q R (n / 2 ^ (k + 1)) 0 (by omega) Hinv.out (Or.inl rfl) (2 * Q) (2 * R) (by omega) (by omega))
        rw [show 2 * (n / 2 ^ (k + 1)) + 0 = n / 2 ^ k by rw [Hhalf.out]; omega] at HS
        have HH := Lib.hid hh
        have hr0 : 0 ≤ (2 * R) / d := Int.ediv_nonneg (by omega) (by omega)
        have hr1 : (2 * R) / d ≤ 2 * R := Int.ediv_le_self _ (by omega)
        have hs0 : 0 ≤ (2 * R) % d := Int.emod_nonneg _ (by omega)
        have hs1 : (2 * R) % d < d := Int.emod_lt_of_pos _ (by omega)
        have hp0 : 0 ≤ 2 * R := by omega
        have w3 : IntKind.i64.wrap (2 * Q + (2 * R) / d) = 2 * Q + (2 * R) / d := IntWalk.i64_in _ (by omega)
        clear hbb hh
        by_cases hx : 2251799813685248 < 2 * Q + (2 * R) / d
        · have HX := Lib.hid (show 2251799813685248 < a * n / d from by
            have h1 := HS.out.1
            have h2 := HH.out
            have h3 : a * (n / 2 ^ k) ≤ a * n := Int.mul_le_mul_of_nonneg_left h2.2 ha
            have h4 : 2251799813685249 * d ≤ (2 * Q + (2 * R) / d) * d := Int.mul_le_mul_of_nonneg_right (by omega) (by omega)
            have h5 : 2251799813685249 ≤ a * n / d := (Int.le_ediv_iff_mul_le (by omega)).2 (by omega)
            omega)
          go_wp2
          go_ret2
          exact ⟨_, _, rfl, hb, Or.inr ⟨hx, by omega, rfl, HX.out⟩⟩
        · go_wp2
          exact ⟨⟨k, _, _, by omega, rfl, rfl, rfl, hs0, hs1, by omega, by omega, HS.out.1, hb⟩, by simp [intOf]⟩
      · have hbit : (bits BinOp.and IntKind.i64 (n / 2 ^ k) 1 == 1) = true := by rw [Hbit.out, hbb]; rfl
        have HS := Lib.hid (div_step a d Q R (n / 2 ^ (k + 1)) 1 (by omega) Hinv.out (Or.inr rfl) (2 * Q + a / d) (2 * R + a % d) (by omega) (by omega))
        rw [show 2 * (n / 2 ^ (k + 1)) + 1 = n / 2 ^ k by rw [Hhalf.out]; omega] at HS
        have HH := Lib.hid hh
        have hr0 : 0 ≤ (2 * R + a % d) / d := Int.ediv_nonneg (by omega) (by omega)
        have hr1 : (2 * R + a % d) / d ≤ 2 * R + a % d := Int.ediv_le_self _ (by omega)
        have hs0 : 0 ≤ (2 * R + a % d) % d := Int.emod_nonneg _ (by omega)
        have hs1 : (2 * R + a % d) % d < d := Int.emod_lt_of_pos _ (by omega)
        have hp0 : 0 ≤ 2 * R + a % d := by omega
        have w4 : IntKind.i64.wrap (2 * Q + a / d) = 2 * Q + a / d := IntWalk.i64_in _ (by omega)
        have w5 : IntKind.i64.wrap (2 * R + a % d) = 2 * R + a % d := IntWalk.i64_in _ (by omega)
        have w3 : IntKind.i64.wrap (2 * Q + a / d + (2 * R + a % d) / d) = 2 * Q + a / d + (2 * R + a % d) / d := IntWalk.i64_in _ (by omega)
        clear hbb hh
        by_cases hx : 2251799813685248 < 2 * Q + a / d + (2 * R + a % d) / d
        · have HX := Lib.hid (show 2251799813685248 < a * n / d from by
            have h1 := HS.out.1
            have h2 := HH.out
            have h3 : a * (n / 2 ^ k) ≤ a * n := Int.mul_le_mul_of_nonneg_left h2.2 ha
            have h4 : 2251799813685249 * d ≤ (2 * Q + a / d + (2 * R + a % d) / d) * d := Int.mul_le_mul_of_nonneg_right (by omega) (by omega)
            have h5 : 2251799813685249 ≤ a * n / d := (Int.le_ediv_iff_mul_le (by omega)).2 (by omega)
            omega)
          go_wp2
          go_ret2
          exact ⟨_, _, rfl, hb, Or.inr ⟨hx, by omega, rfl, HX.out⟩⟩
        · go_wp2
          exact ⟨⟨k, _, _, by omega, rfl, rfl, rfl, hs0, hs1, by omega, by omega, HS.out.1, hb⟩, by simp [intOf]⟩
end Go.Proofs.Ytimclpgkdplnhaa
