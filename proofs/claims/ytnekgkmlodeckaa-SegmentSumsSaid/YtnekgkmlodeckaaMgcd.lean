/-
  What the segments cost under one rate: their amounts add up to the price of all units.
-/
import Derived.Test.YtnekgkmlodeckaaMgca
namespace Go.Proofs.Ytnekgkmlodeckaa
open Go.RowKit

theorem betweenL_ok {l : List St} {f n : Int} (h : (betweenL l f n).2 = 0) : errL l = 0 ∧ (betweenL l f n).1 = tot l (f + n) - tot l f ∧ tot l (f + n) ≤ 1125899906842624 ∧ f + n ≤ 1099511627776 ∧ 0 ≤ n := by
  unfold betweenL at h ⊢
  by_cases h1 : errL l ≠ 0
  · rw [if_pos h1] at h; exact absurd h (by decide)
  rw [if_neg h1] at h ⊢
  by_cases h2 : f < 0 ∨ n < 0 ∨ 1099511627776 < f ∨ 1099511627776 - f < n
  · rw [if_pos h2] at h; exact absurd h (by decide)
  rw [if_neg h2] at h ⊢
  by_cases h3 : 1125899906842624 < tot l (f + n)
  · rw [if_pos h3] at h; exact absurd h (by decide)
  rw [if_neg h3] at h ⊢
  exact ⟨Decidable.not_not.1 h1, rfl, by omega, by omega, by omega⟩
/-- The one rate that prices all. -/
abbrev oneR (kd xs : Int) (xl : List St) : Rt := (kd, ⟨#[]⟩, ⟨#[]⟩, xs, xl)
theorem rateF_one (kd xs : Int) (xl : List St) (z bn : ByteArray) : rateF kd z bn [oneR kd xs xl] = some (oneR kd xs xl) := by
  have e : sameS (⟨#[]⟩ : ByteArray) ByteArray.empty = true := (sameS_iff _ _).2 rfl
  unfold rateF
  rw [List.find?_cons_of_pos]
  unfold fitsR
  simp only [e]
  simp
theorem prF_sum (kd xs : Int) (xl : List St) (z : ByteArray) : ∀ (L : List Sg) (b s : Int), (prF [oneR kd xs xl] kd z L b s).1 = 0 →
    (prF [oneR kd xs xl] kd z L b s).2.1.length = L.length ∧ (∀ k, k ≤ L.length → ((prF [oneR kd xs xl] kd z L b s).2.1.take k).sum = tot xl (b + sumU L k) - tot xl b) ∧ (L ≠ [] → errL xl = 0 ∧ tot xl (b + sumU L L.length) ≤ 1125899906842624)
  | [], b, s, _ => ⟨rfl, fun k hk => by
      obtain rfl : k = 0 := by simpa using hk
      show (0 : Int) = tot xl (b + sumU [] 0) - tot xl b
      rw [sumU_zero, Int.add_zero]
      omega, fun h => absurd rfl h⟩
  | g :: r, b, s, h => by
    rw [prF, rateF_one] at h ⊢
    simp only at h ⊢
    by_cases hb : (betweenL xl b g.2.2.1).2 ≠ 0
    · rw [if_pos hb] at h
      exact absurd h hb
    · rw [if_neg hb] at h ⊢
      obtain ⟨e1, e2, e3, e4, e5⟩ := betweenL_ok (Decidable.not_not.1 hb)
      obtain ⟨i1, i2, i3⟩ := prF_sum kd xs xl z r _ _ h
      refine ⟨by simp only [List.length_cons, i1], fun k hk => ?_, fun _ => ⟨e1, ?_⟩⟩
      · cases k with
        | zero =>
          show (0 : Int) = tot xl (b + sumU (g :: r) 0) - tot xl b
          rw [sumU_zero, Int.add_zero]
          omega
        | succ k =>
          rw [List.take_succ_cons, List.sum_cons, i2 k (by simpa using hk), sumU_cons, e2, show b + (g.2.2.1 + sumU r k) = b + g.2.2.1 + sumU r k by omega]
          omega
      · rw [List.length_cons, sumU_cons, show b + (g.2.2.1 + sumU r r.length) = b + g.2.2.1 + sumU r r.length by omega]
        by_cases hr : r = []
        · subst hr
          rw [List.length_nil, sumU_zero, Int.add_zero]
          exact e3
        · exact (i3 hr).2
/-- The amounts of the first segments. -/
def amU (Q : List Sg) (k : Nat) : Int := ((Q.take k).map (fun g => g.2.2.2)).sum
theorem amU_zero (Q : List Sg) : amU Q 0 = 0 := rfl
theorem amU_succ {Q : List Sg} {k : Nat} (h : k < Q.length) : amU Q (k + 1) = amU Q k + Q[k].2.2.2 := by
  unfold amU
  rw [List.take_succ_eq_append_getElem h, List.map_append, List.sum_append]
  simp
theorem withA_amounts : ∀ (L : List Sg) (am : List Int), am.length = L.length → (withA L am).map (fun g => g.2.2.2) = am
  | [], [], _ => rfl
  | g :: L, a :: am, h => by
    unfold withA
    rw [List.zipWith_cons_cons, List.map_cons]
    congr 1
    exact withA_amounts L am (by simpa using h)
theorem sumU_mono {L : List Sg} (h : ∀ g ∈ L, 0 ≤ g.2.2.1) : ∀ (n k : Nat), k + n ≤ L.length → sumU L k ≤ sumU L (k + n)
  | 0, k, _ => Int.le_refl _
  | n + 1, k, hk => by
    have := sumU_mono h n k (by omega)
    rw [← Nat.add_assoc, sumU_succ (show k + n < L.length by omega)]
    have := h _ (List.getElem_mem (show k + n < L.length by omega))
    omega
theorem price_one {kd xs : Int} {xl : List St} {z : ByteArray} {L Q : List Sg} {su e : Int} (hL : ∀ g ∈ L, 0 ≤ g.2.2.1) (h : priceS [oneR kd xs xl] kd z L = (Q, su, e)) :
    (e ≠ 0 → Q = [] ∧ su = 0) ∧ (Q = [] → su = 0) ∧ (e = 0 → Q ≠ [] → L ≠ [] ∧ su = xs ∧ Q.length = L.length ∧ (∀ k, k ≤ Q.length → amU Q k = tot xl (sumU L k) ∧ 0 ≤ amU Q k ∧ amU Q k ≤ 1125899906842624) ∧ errL xl = 0 ∧ tot xl (sumU L L.length) ≤ 1125899906842624) := by
  unfold priceS at h
  by_cases h1 : (prF [oneR kd xs xl] kd z L 0 0).1 ≠ 0
  · rw [if_pos h1] at h
    cases h
    exact ⟨fun _ => ⟨rfl, rfl⟩, fun _ => rfl, fun h => absurd h h1⟩
  rw [if_neg h1] at h
  by_cases h2 : setupF [oneR kd xs xl] kd z L < 0 ∨ 1125899906842624 < setupF [oneR kd xs xl] kd z L ∨ 1125899906842624 < setupF [oneR kd xs xl] kd z L + (prF [oneR kd xs xl] kd z L 0 0).2.2
  · rw [if_pos h2] at h
    cases h
    exact ⟨fun _ => ⟨rfl, rfl⟩, fun _ => rfl, fun h => absurd h (by decide)⟩
  rw [if_neg h2] at h
  obtain ⟨i1, i2, i3⟩ := prF_sum kd xs xl z L 0 0 (Decidable.not_not.1 h1)
  generalize prF [oneR kd xs xl] kd z L 0 0 = p at *
  obtain ⟨p1, am, p3⟩ := p
  simp only [Prod.mk.injEq] at h
  obtain ⟨hQ, hs, he⟩ := h
  dsimp only at i1 i2 hQ
  have hlen : Q.length = L.length := by rw [← hQ]; unfold withA; rw [List.length_zipWith]; omega
  refine ⟨fun h => absurd he.symm h, fun hn => ?_, fun _ hn => ?_⟩
  · rw [hn] at hlen
    obtain rfl : L = [] := List.length_eq_zero_iff.1 (by simpa using hlen.symm)
    rw [← hs]
    rfl
  · have hLn : L ≠ [] := by
      rintro rfl
      exact hn (List.length_eq_zero_iff.1 (by simpa using hlen))
    obtain ⟨e1, e2⟩ := i3 hLn
    rw [Int.zero_add] at e2
    refine ⟨hLn, ?_, hlen, fun k hk => ?_, e1, e2⟩
    · rw [← hs]
      cases L with
      | nil => exact absurd rfl hLn
      | cons g r =>
        show ((rateF kd z g.1 [oneR kd xs xl]).getD zeroRt).2.2.2.1 = xs
        rw [rateF_one]
        rfl
    · have ha : amU Q k = tot xl (sumU L k) := by
        unfold amU
        rw [List.map_take, ← hQ, withA_amounts L am i1, i2 k (by omega), Int.zero_add, tot_zero e1, Int.sub_zero]
      rw [ha]
      refine ⟨rfl, tot_nonneg e1 _, Int.le_trans (tot_mono e1 ?_) e2⟩
      have := sumU_mono hL (L.length - k) k (by omega)
      rwa [show k + (L.length - k) = L.length by omega] at this
end Go.Proofs.Ytnekgkmlodeckaa
