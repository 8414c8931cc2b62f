/-
  The plain law of AgreementParts: the amount of units does not depend on how they are divided.
-/
import Derived.Test.YtohmdohbmmbbkaaDoorMgaw
namespace Go.Proofs.YtohmdohbmmbbkaaDoor
open Go.RowKit

/-- The amount of units from the beginning. -/
def tv (a : Ag) (n : Int) : Int := capV a.cap (tot a.st n)

theorem priceL_ok {l : List St} {n : Int} (h : (priceL l n).2 = 0) : errL l = 0 ∧ 0 ≤ n ∧ n ≤ 1099511627776 ∧ tot l n ≤ 1125899906842624 ∧ priceL l n = (tot l n, 0) := by
  unfold priceL at h
  by_cases h1 : errL l ≠ 0
  · rw [if_pos h1] at h; cases h
  · rw [if_neg h1] at h
    by_cases h2 : n < 0 ∨ 1099511627776 < n
    · rw [if_pos h2] at h; cases h
    · rw [if_neg h2] at h
      by_cases h3 : 1125899906842624 < tot l n
      · rw [if_pos h3] at h; cases h
      · exact ⟨Classical.not_not.1 h1, by omega, by omega, by omega, by rw [priceL, if_neg h1, if_neg h2, if_neg h3]⟩
theorem priceL_mk {l : List St} {n : Int} (h1 : errL l = 0) (h2 : 0 ≤ n) (h3 : n ≤ 1099511627776) (h4 : tot l n ≤ 1125899906842624) : priceL l n = (tot l n, 0) := by
  rw [priceL, if_neg (not_not_intro h1), if_neg (by omega), if_neg (by omega)]

theorem ag_err {a : Ag} {m n : Int} (h : (agPriceL a m n).2 ≠ 0) : (agPriceL a m n).1 = 0 := by
  rw [agPriceL_eq] at *
  split
  · rfl
  · rename_i h1
    rw [if_neg h1] at h
    split
    · rfl
    · rename_i h2
      rw [if_neg h2] at h
      split
      · rfl
      · rename_i h3
        rw [if_neg h3] at h
        exact absurd rfl h

structure AgOk (a : Ag) (all : Int) : Prop where
  err : errL a.st = 0
  c0 : 0 ≤ a.cap
  c1 : a.cap ≤ 1125899906842624
  n0 : 0 ≤ all
  n1 : all ≤ 1099511627776
  t1 : tot a.st all ≤ 1125899906842624

theorem ag_ok {a : Ag} {n : Int} (h : (agPriceL a 0 n).2 = 0) : AgOk a n := by
  unfold agPriceL at h
  by_cases h1 : (0 : Int) < 0 ∨ 1099511627776 < (0 : Int) ∨ n < 0 ∨ 1099511627776 < n ∨ 1099511627776 < 0 + n ∨ a.cap < 0 ∨ 1125899906842624 < a.cap
  · rw [if_pos h1] at h; cases h
  · rw [if_neg h1] at h
    by_cases h2 : (priceL a.st (0 + n)).2 ≠ 0
    · rw [if_pos h2] at h; exact absurd h h2
    · obtain ⟨e1, e2, e3, e4, -⟩ := priceL_ok (Classical.not_not.1 h2)
      rw [Int.zero_add] at e2 e3 e4
      exact ⟨e1, by omega, by omega, e2, e3, e4⟩

theorem AgOk.price {a : Ag} {all m p : Int} (h : AgOk a all) (hm : 0 ≤ m) (hp : 0 ≤ p) (hmp : m + p ≤ all) : agPriceL a m p = (tv a (m + p) - tv a m, 0) := by
  obtain ⟨e, c0, c1, n0, n1, t1⟩ := h
  have m1 := tot_mono e (n := m + p) (m := all) hmp
  have m2 := tot_mono e (n := m) (m := m + p) (by omega)
  unfold agPriceL
  rw [if_neg (by omega), priceL_mk e (n := m + p) (by omega) (by omega) (by omega), priceL_mk e (n := m) hm (by omega) (by omega), if_neg (by simp), if_neg (by simp)]
  rfl
theorem AgOk.mono {a : Ag} {all m n : Int} (h : AgOk a all) (hmn : m ≤ n) : tv a m ≤ tv a n := by
  have := tot_mono h.err hmn
  unfold tv capV
  split <;> omega
theorem AgOk.zero {a : Ag} {all : Int} (h : AgOk a all) : tv a 0 = 0 := by
  unfold tv
  rw [tot_zero h.err]
  unfold capV
  have := h.c0
  split <;> omega
theorem AgOk.bd {a : Ag} {all n : Int} (h : AgOk a all) (hn : 0 ≤ n) (hl : n ≤ all) : 0 ≤ tv a n ∧ tv a n ≤ 1125899906842624 := by
  have h1 := h.mono hn
  have h2 := h.mono hl
  rw [h.zero] at h1
  have := h.t1
  refine ⟨h1, ?_⟩
  have h3 : tv a all ≤ tot a.st all := by unfold tv capV; split <;> omega
  omega
theorem AgOk.capped {a : Ag} {all : Int} (_h : AgOk a all) (hc : a.cap ≠ 0) : tv a all ≤ a.cap := by
  unfold tv capV; rw [if_neg hc]; omega

/-! ### Sums of parts -/
theorem sum_snoc (l : List Int) (k : Nat) (h : k < l.length) : (l.take (k + 1)).sum = (l.take k).sum + l[k] := by
  rw [List.take_succ_eq_append_getElem h, List.sum_append]; simp
theorem sum_bd (l : List Int) (h : ∀ j (hj : j < l.length), 0 ≤ l[j] ∧ l[j] ≤ 1099511627776) : 0 ≤ l.sum ∧ l.sum ≤ 1099511627776 * l.length := by
  induction l with
  | nil => simp
  | cons x r ih =>
    have h0 := h 0 (by simp)
    have hr := ih fun j hj => h (j + 1) (by simp; omega)
    simp only [List.getElem_cons_zero] at h0
    simp only [List.sum_cons, List.length_cons]
    push_cast
    omega
theorem sum_le (l : List Int) (h : ∀ j (hj : j < l.length), 0 ≤ l[j] ∧ l[j] ≤ 1099511627776) (k : Nat) : (l.take k).sum ≤ l.sum := by
  have e : l.sum = (l.take k).sum + (l.drop k).sum := by rw [← List.sum_append, List.take_append_drop]
  have := (sum_bd (l.drop k) fun j hj => by
    rw [List.getElem_drop]; exact h _ _).1
  omega
end Go.Proofs.YtohmdohbmmbbkaaDoor
