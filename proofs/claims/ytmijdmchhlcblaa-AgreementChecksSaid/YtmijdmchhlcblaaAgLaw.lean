/-
  The plain law of lists of agreements: their first error, and the first that fits.
-/
import Derived.Test.YtmijdmchhlcblaaAgFault
namespace Go.Proofs.Ytmijdmchhlcblaa
open Go.RowKit

/-- Are two agreements about the same? -/
def sameB (a b : Ag) : Bool := decide (a.pa = b.pa) && decide (a.kd = b.kd) && decide (a.ib = b.ib)
/-- Does an agreement meet another about the same? -/
def meets (a b : Ag) : Bool := meetB a.fr a.tt b.fr b.tt && sameB a b

/-- The first error of agreements behind others. -/
def agsE : List Ag → List Ag → Int
  | _, [] => 0
  | L, a :: r => if faultE a ≠ 0 then faultE a else if L.any (meets a) = true then 10 else agsE (L ++ [a]) r
def agCheckE (l : List Ag) : Int := if 4096 < l.length then 5 else agsE [] l

theorem agsE_step (l : List Ag) (k : Nat) (h : k < l.length) : agsE (l.take k) (l.drop k) = if faultE l[k] ≠ 0 then faultE l[k] else if (l.take k).any (meets l[k]) = true then 10 else agsE (l.take (k + 1)) (l.drop (k + 1)) := by
  rw [List.drop_eq_getElem_cons h, agsE, List.take_succ_eq_append_getElem h]
theorem agsE_end (l L : List Ag) (k : Nat) (h : l.length ≤ k) : agsE L (l.drop k) = 0 := by
  rw [List.drop_of_length_le h]; rfl

/-- How many agreements are of a kind. -/
def cnt (L : List Ag) (j : Nat) : Nat := (L.filter fun b : Ag => decide (b.kd = (j : Int))).length
theorem cnt_snoc (l : List Ag) (k j : Nat) (h : k < l.length) : cnt (l.take (k + 1)) j = cnt (l.take k) j + if l[k].kd = (j : Int) then 1 else 0 := by
  unfold cnt
  rw [List.take_succ_eq_append_getElem h, List.filter_append, List.length_append]
  congr 1
  by_cases hk : l[k].kd = (j : Int) <;> simp [hk]
theorem cnt_le (L : List Ag) (j : Nat) : cnt L j ≤ L.length := List.length_filter_le _ _
theorem cnt_none {L : List Ag} {j : Nat} {a : Ag} (h : cnt L j = 0) (ha : a.kd = (j : Int)) : L.any (meets a) = false := by
  rw [List.any_eq_false]
  intro b hb hm
  unfold cnt at h
  have h0 := List.length_eq_zero_iff.1 h
  have : b ∈ L.filter fun b : Ag => decide (b.kd = (j : Int)) := by
    refine List.mem_filter.2 ⟨hb, ?_⟩
    unfold meets sameB at hm
    simp only [Bool.and_eq_true, decide_eq_true_eq] at hm
    simp only [decide_eq_true_eq]
    rw [← hm.2.1.2, ha]
  rw [h0] at this
  cases this
theorem faultE_kind {a : Ag} (h : faultE a = 0) : ∃ j : Nat, a.kd = (j : Int) ∧ 1 ≤ j ∧ j < 5 := by
  unfold faultE at h
  by_cases h1 : a.pa < 1 ∨ 999 < a.pa
  · rw [if_pos h1] at h; cases h
  · rw [if_neg h1] at h
    by_cases h2 : a.kd < 1 ∨ 5 ≤ a.kd
    · rw [if_pos h2] at h; cases h
    · exact ⟨a.kd.toNat, by omega, by omega, by omega⟩
theorem any_snoc {L : List Ag} {p : Ag → Bool} {j : Nat} (h : j < L.length) (h1 : (L.take j).any p = false) (h2 : p L[j] = false) : (L.take (j + 1)).any p = false := by
  rw [List.take_succ_eq_append_getElem h, List.any_append, h1]; simp [h2]
theorem any_at {L : List Ag} {p : Ag → Bool} {j k : Nat} (h : j < k) (hk : k ≤ L.length) (h2 : p (L[j]'(by omega)) = true) : (L.take k).any p = true := by
  refine List.any_eq_true.2 ⟨L[j]'(by omega), ?_, h2⟩
  rw [List.mem_take_iff_getElem]
  exact ⟨j, by omega, rfl⟩
theorem meets_no {a b : Ag} (h : meetB a.fr a.tt b.fr b.tt = false) : meets a b = false := by unfold meets; rw [h]; rfl
theorem meets_pa {a b : Ag} (h : a.pa ≠ b.pa) : meets a b = false := by unfold meets sameB; rw [decide_eq_false h]; simp
theorem meets_kd {a b : Ag} (h : a.kd ≠ b.kd) : meets a b = false := by unfold meets sameB; rw [decide_eq_false h]; simp
theorem meets_ib {a b : Ag} (h : a.ib ≠ b.ib) : meets a b = false := by unfold meets sameB; rw [decide_eq_false h]; simp
theorem meets_yes {a b : Ag} (h : meetB a.fr a.tt b.fr b.tt = true) (h1 : a.pa = b.pa) (h2 : a.kd = b.kd) (h3 : a.ib = b.ib) : meets a b = true := by unfold meets sameB; rw [h]; simp [h1, h2, h3]
end Go.Proofs.Ytmijdmchhlcblaa
