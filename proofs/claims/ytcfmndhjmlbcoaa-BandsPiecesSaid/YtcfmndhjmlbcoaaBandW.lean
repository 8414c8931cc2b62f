/-
  The week of the chapter's examples: the plain law.
-/
import Derived.Test.YtcfmndhjmlbcoaaBandP
namespace Go.Proofs.Ytcfmndhjmlbcoaa
open Go.RowKit

def weekP (a b : ByteArray) : List Bn := [(a, [(31, 480, 1080)]), (b, [])]

theorem week_at (a b : ByteArray) (t : Int) (h1 : 172800 ≤ t) (h2 : t < 259200) : bandAt (weekP a b) [] t = if 480 ≤ t % 86400 / 60 ∧ t % 86400 / 60 < 1080 then a else b := by
  have hd : t / 86400 = 2 := by omega
  unfold bandAt
  rw [hd]
  have hq : bitQ [] 2 = 0 := by decide
  rw [hq]
  generalize t % 86400 / 60 = m
  unfold weekP
  rw [findB, findB, findB]
  have hl : lastB [(a, [(31, 480, 1080)]), (b, [])] = b := rfl
  rw [hl]
  simp only [List.any_cons, List.any_nil, Bool.or_false, inSl]
  have h31 : (31 : Int) / 2 ^ 0 % 2 = 1 := by decide
  simp only [h31, decide_true, Bool.true_and, decide_eq_true_eq, Bool.false_eq_true, if_false]

theorem week_holiday (a b : ByteArray) (t : Int) (h1 : 172800 ≤ t) (h2 : t < 259200) : bandAt (weekP a b) [2] t = b := by
  have hd : t / 86400 = 2 := by omega
  unfold bandAt
  rw [hd]
  have hq : bitQ [2] 2 = 7 := by decide
  rw [hq]
  generalize t % 86400 / 60 = m
  unfold weekP
  rw [findB, findB, findB]
  have hl : lastB [(a, [(31, 480, 1080)]), (b, [])] = b := rfl
  rw [hl]
  simp only [List.any_cons, List.any_nil, Bool.or_false, inSl]
  have h31 : ¬ ((31 : Int) / 2 ^ 7 % 2 = 1) := by decide
  simp only [h31, decide_false, Bool.false_and, Bool.false_eq_true, if_false]

theorem week_rle (a b : ByteArray) (hab : a ≠ b) : Rle (bandAt (weekP a b) []) 172800 259200 [(b, 172800, 201600), (a, 201600, 237600), (b, 237600, 259200)] := by
  refine ⟨rfl, by dsimp only; decide, fun t h1 h2 => ?_, by dsimp only; decide, Or.inr ?_, rfl, by dsimp only; decide, fun t h1 h2 => ?_, by dsimp only; decide, Or.inr ?_, rfl, by dsimp only; decide, fun t h1 h2 => ?_, by dsimp only; decide, Or.inl rfl, rfl⟩
  · dsimp only at *
    rw [week_at a b t (by omega) (by omega), if_neg (by omega)]
  · dsimp only
    rw [week_at a b 201600 (by omega) (by omega), if_pos (by decide)]
    exact hab
  · dsimp only at *
    rw [week_at a b t (by omega) (by omega), if_pos (by omega)]
  · dsimp only
    rw [week_at a b 237600 (by omega) (by omega), if_neg (by decide)]
    exact fun h => hab h.symm
  · dsimp only at *
    rw [week_at a b t (by omega) (by omega), if_neg (by omega)]
end Go.Proofs.Ytcfmndhjmlbcoaa
