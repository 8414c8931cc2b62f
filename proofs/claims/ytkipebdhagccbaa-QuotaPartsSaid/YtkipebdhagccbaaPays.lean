/-
  How many units an amount pays for: the plain law of the two searches.
-/
import Derived.Test.YtkipebdhagccbaaLad
namespace Go.Proofs.Ytkipebdhagccbaa
open Go.RowKit

/-- Does an amount pay for n units behind f units? -/
def paysL (l : List St) (f n a : Int) : Bool := decide ((betweenL l f n).2 = 0 ∧ (betweenL l f n).1 ≤ a)

theorem betweenL_ok {l : List St} {f n : Int} (h : (betweenL l f n).2 = 0) : errL l = 0 ∧ 0 ≤ f ∧ 0 ≤ n ∧ f ≤ 1099511627776 ∧ n ≤ 1099511627776 - f ∧ tot l (f + n) ≤ 1125899906842624 ∧ (betweenL l f n).1 = tot l (f + n) - tot l f := by
  unfold betweenL at *
  by_cases h1 : errL l = 0
  · rw [if_neg (not_not_intro h1)] at *
    by_cases h2 : f < 0 ∨ n < 0 ∨ 1099511627776 < f ∨ 1099511627776 - f < n
    · rw [if_pos h2] at h; cases h
    · rw [if_neg h2] at *
      by_cases h3 : 1125899906842624 < tot l (f + n)
      · rw [if_pos h3] at h; cases h
      · rw [if_neg h3] at *
        exact ⟨h1, by omega, by omega, by omega, by omega, by omega, rfl⟩
  · rw [if_pos h1] at h; cases h

theorem betweenL_err {l : List St} {f n : Int} (h : (betweenL l f n).2 ≠ 0) : (betweenL l f n).1 = 0 := by
  unfold betweenL at *
  split
  · rfl
  · split
    · rfl
    · split
      · rfl
      · rename_i h1 h2 h3
        rw [if_neg h1, if_neg h2, if_neg h3] at h
        exact absurd rfl h

theorem betweenL_mk {l : List St} {f n : Int} (h1 : errL l = 0) (h2 : 0 ≤ f) (h3 : 0 ≤ n) (h4 : f + n ≤ 1099511627776) (h5 : tot l (f + n) ≤ 1125899906842624) : betweenL l f n = (tot l (f + n) - tot l f, 0) := by
  rw [betweenL, if_neg (not_not_intro h1), if_neg (by omega), if_neg (by omega)]

theorem betweenL_bd (l : List St) (f n : Int) : 0 ≤ (betweenL l f n).1 ∧ (betweenL l f n).1 ≤ 1125899906842624 := by
  by_cases h : (betweenL l f n).2 = 0
  · obtain ⟨h1, h2, h3, h4, h5, h6, h7⟩ := betweenL_ok h
    have := tot_nonneg h1 f
    have := tot_mono h1 (n := f) (m := f + n) (by omega)
    omega
  · rw [betweenL_err h]; omega

theorem paysL_ok {l : List St} {f n a : Int} (h : paysL l f n a = true) : errL l = 0 ∧ 0 ≤ f ∧ 0 ≤ n ∧ f + n ≤ 1099511627776 ∧ tot l (f + n) ≤ 1125899906842624 ∧ tot l (f + n) - tot l f ≤ a := by
  unfold paysL at h
  obtain ⟨h0, h8⟩ := of_decide_eq_true h
  obtain ⟨h1, h2, h3, h4, h5, h6, h7⟩ := betweenL_ok h0
  exact ⟨h1, h2, h3, by omega, h6, by omega⟩

theorem paysL_mk {l : List St} {f n a : Int} (h1 : errL l = 0) (h2 : 0 ≤ f) (h3 : 0 ≤ n) (h4 : f + n ≤ 1099511627776) (h5 : tot l (f + n) ≤ 1125899906842624) (h6 : tot l (f + n) - tot l f ≤ a) : paysL l f n a = true := by
  unfold paysL
  rw [betweenL_mk h1 h2 h3 h4 h5]
  exact decide_eq_true ⟨rfl, h6⟩

theorem paysL_mono {l : List St} {f n m a : Int} (h : paysL l f m a = true) (h0 : 0 ≤ n) (hnm : n ≤ m) : paysL l f n a = true := by
  obtain ⟨h1, h2, h3, h4, h5, h6⟩ := paysL_ok h
  have := tot_mono h1 (n := f + n) (m := f + m) (by omega)
  exact paysL_mk h1 h2 h0 (by omega) (by omega) (by omega)

/-- The reference's search: bit by bit. -/
def descend (P : Int → Bool) : Nat → Int → Int
  | 0, n => n
  | j + 1, n => descend P j (if P (n + ((2 ^ j : Nat) : Int)) then n + ((2 ^ j : Nat) : Int) else n)

def unitsL (l : List St) (f a : Int) : Int := if paysL l f 0 a then descend (fun n => paysL l f n a) 41 0 else 0

theorem descend_spec (l : List St) (f a : Int) : ∀ (j : Nat) (n : Int), 0 ≤ n → paysL l f n a = true → paysL l f (n + ((2 ^ j : Nat) : Int)) a = false →
    0 ≤ descend (fun n => paysL l f n a) j n ∧ paysL l f (descend (fun n => paysL l f n a) j n) a = true ∧ paysL l f (descend (fun n => paysL l f n a) j n + 1) a = false
  | 0, n, h0, h1, h2 => ⟨h0, h1, h2⟩
  | j + 1, n, h0, h1, h2 => by
    unfold descend
    have e : ((2 ^ (j + 1) : Nat) : Int) = ((2 ^ j : Nat) : Int) + ((2 ^ j : Nat) : Int) := by rw [Nat.pow_succ]; omega
    have e0 : 0 ≤ ((2 ^ j : Nat) : Int) := Int.natCast_nonneg _
    by_cases hp : paysL l f (n + ((2 ^ j : Nat) : Int)) a = true
    · rw [if_pos hp]
      refine descend_spec l f a j _ (Int.add_nonneg h0 e0) hp ?_
      rw [Int.add_assoc, ← e]
      exact h2
    · rw [if_neg hp]
      exact descend_spec l f a j n h0 h1 (by simpa using hp)

theorem unitsL_spec {l : List St} {f a : Int} (h : paysL l f 0 a = true) : 0 ≤ unitsL l f a ∧ paysL l f (unitsL l f a) a = true ∧ paysL l f (unitsL l f a + 1) a = false := by
  unfold unitsL
  rw [if_pos h]
  refine descend_spec l f a 41 0 (Int.le_refl _) h ?_
  cases hc : paysL l f (0 + ((2 ^ 41 : Nat) : Int)) a with
  | false => rfl
  | true => have := (paysL_ok hc).2.2.2.1; have := (paysL_ok hc).2.1; simp at *; omega

theorem unitsL_of {l : List St} {f a n : Int} (h : paysL l f 0 a = true) (h0 : 0 ≤ n) (h1 : paysL l f n a = true) (h2 : paysL l f (n + 1) a = false) : n = unitsL l f a := by
  obtain ⟨g0, g1, g2⟩ := unitsL_spec h
  rcases Int.lt_trichotomy n (unitsL l f a) with hl | hl | hl
  · rw [paysL_mono (n := n + 1) g1 (by omega) (by omega)] at h2; cases h2
  · exact hl
  · rw [paysL_mono (n := unitsL l f a + 1) h1 (by omega) (by omega)] at g2; cases g2

theorem unitsL_no {l : List St} {f a : Int} (h : paysL l f 0 a = false) : unitsL l f a = 0 := by
  unfold unitsL; rw [if_neg (by rw [h]; decide)]
end Go.Proofs.Ytkipebdhagccbaa
