/-
  Ascending lists of numbers: one list alone has the same members; slices.Compact of a sorted list, in plain Lean.
-/
import Derived.Test.YtohmdohbmmbbkaaDoorMgaa
import Derived.Lib.SlicesCompact
namespace Go.Proofs.YtohmdohbmmbbkaaDoor
open Go.RowKit

theorem up_unique : ∀ (A B : List Int), A.Pairwise (· < ·) → B.Pairwise (· < ·) → (∀ x, x ∈ A ↔ x ∈ B) → A = B := by
  intro A
  induction A with
  | nil =>
    intro B _ _ h
    cases B with
    | nil => rfl
    | cons b s => exact absurd ((h b).2 (by simp)) (by simp)
  | cons a r ih =>
    intro B hA hB h
    cases B with
    | nil => exact absurd ((h a).1 (by simp)) (by simp)
    | cons b s =>
      rw [List.pairwise_cons] at hA hB
      have e : a = b := by
        rcases List.mem_cons.1 ((h a).1 (by simp)) with h1 | h1
        · exact h1
        · rcases List.mem_cons.1 ((h b).2 (by simp)) with h2 | h2
          · exact h2.symm
          · have := hA.1 b h2; have := hB.1 a h1; omega
      subst e
      rw [ih s hA.2 hB.2 fun x => ?_]
      constructor
      · intro hx
        rcases List.mem_cons.1 ((h x).1 (by simp [hx])) with h1 | h1
        · subst h1; have := hA.1 x hx; omega
        · exact h1
      · intro hx
        rcases List.mem_cons.1 ((h x).2 (by simp [hx])) with h1 | h1
        · subst h1; have := hB.1 x hx; omega
        · exact h1

theorem compact_law (zs : List Int) (h : zs.Pairwise (· ≤ ·)) : ∀ m, m ≤ zs.length → (Go.Lib.compactUpTo zs.toArray m).Pairwise (· < ·) ∧ (∀ x, x ∈ Go.Lib.compactUpTo zs.toArray m ↔ x ∈ zs.take m) := by
  intro m
  induction m with
  | zero => intro _; exact ⟨List.Pairwise.nil, fun x => by simp [Go.Lib.compactUpTo]⟩
  | succ m ih =>
    intro hm
    obtain ⟨h1, h2⟩ := ih (by omega)
    have hm' : m < zs.length := hm
    have e0 : zs.toArray[m]! = zs[m] := by rw [getElem!_pos zs.toArray m (by simpa using hm')]; simp
    rw [Go.Lib.compactUpTo_succ, e0]
    cases hk : Go.Lib.keeps zs.toArray m with
    | true =>
      rw [if_pos rfl]
      refine ⟨?_, fun x => ?_⟩
      · rw [List.pairwise_append]
        refine ⟨h1, List.pairwise_singleton _ _, fun x hx y hy => ?_⟩
        obtain rfl := List.mem_singleton.1 hy
        have hx' := (h2 x).1 hx
        obtain ⟨i, hi, rfl⟩ := List.getElem_of_mem hx'
        rw [List.length_take] at hi
        rw [List.getElem_take]
        have a0 : m - 1 < zs.length := by omega
        have a1 : zs[m - 1] ≠ zs[m] := by
          intro e
          unfold Go.Lib.keeps at hk
          rw [e0, getElem!_pos zs.toArray (m - 1) (by simpa using a0)] at hk
          simp [e] at hk
          omega
        have a2 : zs[m - 1] ≤ zs[m] := (List.pairwise_iff_getElem.1 h) (m - 1) m a0 hm' (by omega)
        by_cases hi2 : i = m - 1
        · subst hi2; omega
        · have a3 : zs[i] ≤ zs[m - 1] := (List.pairwise_iff_getElem.1 h) i (m - 1) (by omega) a0 (by omega)
          omega
      · rw [List.mem_append, h2, List.take_succ_eq_append_getElem hm', List.mem_append]
    | false =>
      rw [if_neg (by decide), List.append_nil]
      refine ⟨h1, fun x => ?_⟩
      rw [h2, List.take_succ_eq_append_getElem hm', List.mem_append, List.mem_singleton]
      refine ⟨Or.inl, fun h3 => h3.elim id fun h3 => ?_⟩
      have a0 : m - 1 < zs.length := by omega
      have a1 : 0 < m ∧ zs[m - 1] = zs[m] := by
        unfold Go.Lib.keeps at hk
        rw [e0, getElem!_pos zs.toArray (m - 1) (by simpa using a0)] at hk
        simp at hk
        omega
      rw [h3, ← a1.2]
      exact List.mem_take_iff_getElem.2 ⟨m - 1, by omega, rfl⟩

end Go.Proofs.YtohmdohbmmbbkaaDoor
