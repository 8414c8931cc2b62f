/-
  The walks of the reference's inStep and cost.
-/
import Derived.Test.YtmijdmchhlcblaaPrice
namespace Go.Proofs.Ytmijdmchhlcblaa
open Go.RowKit

/-- A sum that is not followed beyond the greatest amount. -/
def capA (x : Int) : Int := if 1125899906842624 < x then 1125899906842625 else x

theorem capA_add {a b : Int} (ha : 0 ≤ a) (hb : 0 ≤ b) : min (capA a + capA b) 1125899906842625 = capA (a + b) := by
  unfold capA; split <;> split <;> split <;> omega
theorem capA_bd {a : Int} (ha : 0 ≤ a) : 0 ≤ capA a ∧ capA a ≤ 1125899906842625 := by
  unfold capA; split <;> omega

set_option maxHeartbeats 400000 in
theorem inStep_calls (s : St) (b n : Int) (w : World) (h0 : 0 ≤ s.u) (h1 : s.u ≤ 1099511627776) (hb0 : 0 ≤ b) (hb1 : b ≤ 1099511627776) (hn0 : 0 ≤ n) (hn1 : n ≤ 1099511627776) :
    Calls Try.prog 46 #[.agg #[.int .i64 s.u, .int .i64 s.q, .int .i64 s.p], .int .i64 b, .int .i64 n] w fun e w' => e = .returned (.int .i64 (inS s b n)) ∧ Below w.heap.size w w' := by
  obtain ⟨u, q, p⟩ := s
  dsimp only at *
  by_cases hu : u = 0
  · have H := Lib.hid (show inS ⟨u, q, p⟩ b n = max 0 (n - b) by unfold inS; rw [if_neg (by simp [hu])])
    subst hu
    go_enter Try.func46, Try.ntmps46
    go_wp2
    all_goals (go_ret; exact ⟨ret_int (by rw [H.out]; omega), by go_grown⟩)
  · have hu2 : (u != 0) = true := by rw [bne_iff_ne]; exact hu
    by_cases hn : u < n
    · have H := Lib.hid (show inS ⟨u, q, p⟩ b n = max 0 (u - b) by unfold inS; rw [if_pos ⟨hu, hn⟩])
      go_enter Try.func46, Try.ntmps46
      go_wp2
      all_goals (go_ret; exact ⟨ret_int (by rw [H.out]; omega), by go_grown⟩)
    · have H := Lib.hid (show inS ⟨u, q, p⟩ b n = max 0 (n - b) by unfold inS; rw [if_neg (fun h => hn h.2)])
      go_enter Try.func46, Try.ntmps46
      go_wp2
      all_goals (go_ret; exact ⟨ret_int (by rw [H.out]; omega), by go_grown⟩)

theorem ceil_exact {q k : Int} (hq : 1 ≤ q) (h : k % q = 0) : (k + q - 1) / q = k / q := by
  have e := Int.mul_ediv_add_emod k q
  have : k + q - 1 = (q - 1) + q * (k / q) := by rw [h] at e; omega
  rw [this, Int.add_mul_ediv_left _ _ (by omega), Int.ediv_eq_zero_of_lt (by omega) (by omega)]; omega
theorem ceil_more {q k : Int} (hq : 1 ≤ q) (h : k % q ≠ 0) : (k + q - 1) / q = k / q + 1 := by
  have e := Int.mul_ediv_add_emod k q
  have h0 := Int.emod_nonneg k (b := q) (by omega)
  have h1 := Int.emod_lt_of_pos k (b := q) (by omega)
  have : k + q - 1 = (k % q - 1) + q * (k / q + 1) := by rw [Int.mul_add]; omega
  rw [this, Int.add_mul_ediv_left _ _ (by omega), Int.ediv_eq_zero_of_lt (by omega) (by omega)]; omega

set_option maxHeartbeats 400000 in
theorem cost_calls (s : St) (k : Int) (w : World) (hs : s.ok) (hk0 : 0 ≤ k) (hk1 : k ≤ 1099511627776) :
    Calls Try.prog 45 #[.agg #[.int .i64 s.u, .int .i64 s.q, .int .i64 s.p], .int .i64 k] w fun e w' => e = .returned (.int .i64 (capA (costS s k))) ∧ Below w.heap.size w w' := by
  obtain ⟨u, q, p⟩ := s
  obtain ⟨a1, a2, a3, a4, a5, a6⟩ := hs
  dsimp only at *
  have hm0 := Int.emod_nonneg k (b := q) (by omega)
  have hm1 := Int.emod_lt_of_pos k (b := q) (by omega)
  have hd0 : 0 ≤ k / q := Int.ediv_nonneg hk0 (by omega)
  have hd1 : k / q ≤ k := Int.ediv_le_self _ hk0
  have key : ∀ B : Int, costS ⟨u, q, p⟩ k = B * p → 0 ≤ B → capA (costS ⟨u, q, p⟩ k) = if 0 < p ∧ 1125899906842624 / p < B then 1125899906842625 else B * p := by
    intro B hB h0
    rw [hB, capA]
    by_cases hp : 0 < p
    · have := @Int.ediv_lt_iff_lt_mul 1125899906842624 B p hp
      by_cases hq : 1125899906842624 / p < B
      · rw [if_pos (this.1 hq), if_pos ⟨hp, hq⟩]
      · rw [if_neg (fun h => hq (this.2 h)), if_neg (fun h => hq h.2)]
    · have : p = 0 := by omega
      subst this
      rw [if_neg (by simp), if_neg (by simp)]
  by_cases hr : k % q = 0
  · have K := key (k / q) (by rw [costS, ceil_exact a3 hr]) hd0
    have hr2 : (k % q != 0) = false := by rw [bne_eq_false_iff_eq]; exact hr
    clear hr
    by_cases hp : 0 < p
    · by_cases hq : 1125899906842624 / p < k / q
      · rw [if_pos ⟨hp, hq⟩] at K
        have HK := Lib.hid K
        clear K key
        go_enter Try.func45, Try.ntmps45
        go_wp2
        go_ret
        exact ⟨ret_int HK.out.symm, by go_grown⟩
      · rw [if_neg (fun h => hq h.2)] at K
        have HK := Lib.hid K
        have b4 : (k / q) * p ≤ 1125899906842624 := Int.not_lt.1 (fun h => hq (Int.ediv_lt_of_lt_mul hp h))
        have b5 : 0 ≤ (k / q) * p := Int.mul_nonneg (by omega) a5
        clear K key
        go_enter Try.func45, Try.ntmps45
        go_wp2
        go_ret
        exact ⟨ret_int HK.out.symm, by go_grown⟩
    · obtain rfl : p = 0 := by omega
      rw [if_neg (by simp)] at K
      have HK := Lib.hid K
      clear K key
      go_enter Try.func45, Try.ntmps45
      go_wp2
      go_ret
      exact ⟨ret_int (by rw [HK.out]; simp), by go_grown⟩
  · have K := key (k / q + 1) (by rw [costS, ceil_more a3 hr]) (by omega)
    have hr2 : (k % q != 0) = true := by rw [bne_iff_ne]; exact hr
    have hk2 : k / q + 1 ≤ 1099511627777 := by omega
    clear hr
    by_cases hp : 0 < p
    · by_cases hq : 1125899906842624 / p < k / q + 1
      · rw [if_pos ⟨hp, hq⟩] at K
        have HK := Lib.hid K
        clear K key
        go_enter Try.func45, Try.ntmps45
        go_wp2
        go_ret
        exact ⟨ret_int HK.out.symm, by go_grown⟩
      · rw [if_neg (fun h => hq h.2)] at K
        have HK := Lib.hid K
        have b4 : (k / q + 1) * p ≤ 1125899906842624 := Int.not_lt.1 (fun h => hq (Int.ediv_lt_of_lt_mul hp h))
        have b5 : 0 ≤ (k / q + 1) * p := Int.mul_nonneg (by omega) a5
        clear K key
        go_enter Try.func45, Try.ntmps45
        go_wp2
        go_ret
        exact ⟨ret_int HK.out.symm, by go_grown⟩
    · obtain rfl : p = 0 := by omega
      rw [if_neg (by simp)] at K
      have HK := Lib.hid K
      clear K key
      go_enter Try.func45, Try.ntmps45
      go_wp2
      go_ret
      exact ⟨ret_int (by rw [HK.out]; simp), by go_grown⟩
end Go.Proofs.Ytmijdmchhlcblaa
