/-
  What the reference's choose gives, in plain Lean: a canonical list, and the instants in it are those chosen.
-/
import Derived.Test.YtimclpgkdplnhaaCanon04
namespace Go.Proofs.Ytimclpgkdplnhaa
open Go.RowKit

theorem can_ends {C : List (Int × Int)} (h : Can C) : ∀ q ∈ C, q.1 < q.2 := by
  induction C with
  | nil => intro q hq; cases hq
  | cons p r ih =>
    intro q hq
    rcases List.mem_cons.1 hq with rfl | hq
    · exact h.1
    · exact ih h.2.2 q hq
theorem memP_snoc (M : List (Int × Int)) (p : Int × Int) (x : Int) : MemP (M ++ [p]) x ↔ MemP M x ∨ (p.1 ≤ x ∧ x < p.2) := by
  rw [memP_append, memP_cons]
  exact ⟨fun h => h.imp id fun h => h.elim id fun h => absurd h (memP_nil x), fun h => h.imp id Or.inl⟩

/-- A piece more keeps the list canonical, and adds its instants. -/
theorem chStep_law (O : List (Int × Int)) (x y : Int) (hO : Can O) (hxy : x < y) (hq : ∀ q ∈ O, q.2 ≤ x) :
    Can (chStep O x y) ∧ (∀ q ∈ chStep O x y, q.2 ≤ y) ∧ ∀ z, MemP (chStep O x y) z ↔ MemP O z ∨ (x ≤ z ∧ z < y) := by
  by_cases h : O = []
  · subst h
    rw [chStep_nil]
    refine ⟨⟨hxy, fun q hq => (by cases hq), trivial⟩, fun q hq => ?_, fun z => ?_⟩
    · rw [List.mem_singleton.1 hq]; exact Int.le_refl _
    · exact memP_snoc [] (x, y) z
  · obtain ⟨M, q, rfl⟩ : ∃ M z, O = M ++ [z] := ⟨_, _, (List.dropLast_concat_getLast h).symm⟩
    obtain ⟨c1, c2, c3⟩ := (can_snoc M q).1 hO
    have hq2 := hq q (by simp)
    by_cases hz : q.2 = x
    · rw [chStep_eq M q x y hz]
      refine ⟨(can_snoc M (q.1, y)).2 ⟨c1, by show q.1 < y; omega, c3⟩, fun p hp => ?_, fun z => ?_⟩
      · rcases List.mem_append.1 hp with hp | hp
        · have := hq p (List.mem_append_left _ hp); omega
        · rw [List.mem_singleton.1 hp]; exact Int.le_refl _
      · rw [memP_snoc, memP_snoc, or_assoc]
        refine or_congr Iff.rfl ?_
        show q.1 ≤ z ∧ z < y ↔ _
        omega
    · rw [chStep_ne M q x y hz]
      refine ⟨(can_snoc (M ++ [q]) (x, y)).2 ⟨hO, hxy, fun p hp => ?_⟩, fun p hp => ?_, fun z => memP_snoc _ _ z⟩
      · show p.2 < x
        rcases List.mem_append.1 hp with hp | hp
        · have := c3 p hp; omega
        · rw [List.mem_singleton.1 hp]; omega
      · rcases List.mem_append.1 hp with hp | hp
        · have := hq p hp; omega
        · rw [List.mem_singleton.1 hp]; exact Int.le_refl _

theorem sorted_next {l : List Int} (h : l.Pairwise (· < ·)) {i j : Nat} (hij : i < j) (hj : j < l.length) : l.getD i 0 < l.getD j 0 := by
  rw [getD_at l i 0 (by omega), getD_at l j 0 hj]
  exact List.pairwise_iff_getElem.1 h i j (by omega) hj hij
theorem sorted_upto {l : List Int} (h : l.Pairwise (· < ·)) {i j : Nat} (hij : i ≤ j) (hj : j < l.length) : l.getD i 0 ≤ l.getD j 0 := by
  rcases Nat.lt_or_eq_of_le hij with h1 | h1
  · exact Int.le_of_lt (sorted_next h h1 hj)
  · subst h1; exact Int.le_refl _

theorem chUpto_law (l : List Int) (sel : Int → Bool) (hl : l.Pairwise (· < ·)) : ∀ k, (k = 0 ∨ k < l.length) →
    Can (chUpto l sel k) ∧ (∀ q ∈ chUpto l sel k, q.2 ≤ l.getD k 0) ∧ ∀ z, MemP (chUpto l sel k) z ↔ ∃ i, i < k ∧ sel (l.getD i 0) = true ∧ l.getD i 0 ≤ z ∧ z < l.getD (i + 1) 0 := by
  intro k
  induction k with
  | zero =>
    intro _
    refine ⟨trivial, fun q hq => (by cases hq), fun z => ⟨fun h => absurd h (memP_nil z), ?_⟩⟩
    rintro ⟨i, hi, -⟩
    omega
  | succ k ih =>
    intro hk
    have hk : k + 1 < l.length := by omega
    obtain ⟨i1, i2, i3⟩ := ih (by omega)
    have hlt : l.getD k 0 < l.getD (k + 1) 0 := sorted_next hl (Nat.lt_succ_self k) hk
    rw [chUpto]
    by_cases hs : sel (l.getD k 0) = true
    · rw [if_pos hs]
      obtain ⟨j1, j2, j3⟩ := chStep_law (chUpto l sel k) (l.getD k 0) (l.getD (k + 1) 0) i1 hlt i2
      refine ⟨j1, j2, fun z => ?_⟩
      rw [j3, i3]
      constructor
      · rintro (⟨i, h1, h2⟩ | h)
        · exact ⟨i, by omega, h2⟩
        · exact ⟨k, by omega, hs, h⟩
      · rintro ⟨i, h1, h2⟩
        rcases Nat.lt_or_eq_of_le (Nat.le_of_lt_succ h1) with h3 | h3
        · exact Or.inl ⟨i, h3, h2⟩
        · subst h3; exact Or.inr h2.2
    · rw [if_neg hs]
      refine ⟨i1, fun q hq => by have := i2 q hq; omega, fun z => ?_⟩
      rw [i3]
      constructor
      · rintro ⟨i, h1, h2⟩; exact ⟨i, by omega, h2⟩
      · rintro ⟨i, h1, h2⟩
        rcases Nat.lt_or_eq_of_le (Nat.le_of_lt_succ h1) with h3 | h3
        · exact ⟨i, h3, h2⟩
        · subst h3; exact absurd h2.1 hs

/-- An instant between the first limit and the last lies in one piece. -/
theorem piece_of (l : List Int) (x : Int) : ∀ k, l.getD 0 0 ≤ x → x < l.getD k 0 → ∃ i, i < k ∧ l.getD i 0 ≤ x ∧ x < l.getD (i + 1) 0 := by
  intro k
  induction k with
  | zero => intro h1 h2; omega
  | succ k ih =>
    intro h1 h2
    by_cases h : x < l.getD k 0
    · obtain ⟨i, hi, h3⟩ := ih h1 h
      exact ⟨i, by omega, h3⟩
    · exact ⟨k, by omega, by omega, h2⟩

theorem inL_iff (ps : List (Int × Int)) (x : Int) : inL ps x = true ↔ ∃ p ∈ ps, validB p.1 p.2 = true ∧ p.1 ≤ x ∧ x < p.2 := by
  unfold inL
  rw [List.any_eq_true]
  refine exists_congr fun p => and_congr Iff.rfl ?_
  rw [containsB_iff, validB_iff]

/-- Within a piece, membership does not change. -/
theorem inL_piece (l : List Int) (ps : List (Int × Int)) (hl : l.Pairwise (· < ·)) (hm : ∀ p ∈ ps, validB p.1 p.2 = true → p.1 ∈ l ∧ p.2 ∈ l) (i : Nat) (hi : i + 1 < l.length) (x : Int)
    (h1 : l.getD i 0 ≤ x) (h2 : x < l.getD (i + 1) 0) : inL ps x = inL ps (l.getD i 0) := by
  have key : ∀ y ∈ l, (y ≤ x ↔ y ≤ l.getD i 0) := by
    intro y hy
    obtain ⟨j, hj, rfl⟩ := List.mem_iff_getElem.1 hy
    rw [← getD_at l j 0 hj]
    rcases Nat.lt_or_ge i j with h | h
    · have := sorted_upto hl (Nat.succ_le_of_lt h) hj
      have := sorted_next hl h hj
      simp only [Nat.succ_eq_add_one] at *
      omega
    · have := sorted_upto hl h (by omega)
      omega
  rw [Bool.eq_iff_iff, inL_iff, inL_iff]
  refine exists_congr fun p => and_congr_right fun hp => and_congr_right fun hv => ?_
  have k1 := key _ (hm p hp hv).1
  have k2 := key _ (hm p hp hv).2
  omega

theorem inL_sorted (l : List Int) (ps : List (Int × Int)) (hl : l.Pairwise (· < ·)) (hm : ∀ p ∈ ps, validB p.1 p.2 = true → p.1 ∈ l ∧ p.2 ∈ l) (x : Int) (h : inL ps x = true) :
    ∃ i, i < l.length - 1 ∧ l.getD i 0 ≤ x ∧ x < l.getD (i + 1) 0 := by
  obtain ⟨p, hp, hv, h1, h2⟩ := (inL_iff ps x).1 h
  obtain ⟨m1, m2⟩ := hm p hp hv
  obtain ⟨j, hj, e1⟩ := List.mem_iff_getElem.1 m1
  obtain ⟨k, hk, e2⟩ := List.mem_iff_getElem.1 m2
  rw [← getD_at l j 0 hj] at e1
  rw [← getD_at l k 0 hk] at e2
  have a1 := sorted_upto hl (Nat.zero_le j) hj
  have a2 := sorted_upto hl (show k ≤ l.length - 1 by omega) (by omega)
  exact piece_of l x (l.length - 1) (by omega) (by omega)

/-- What choose gives: canonical, with the chosen instants. -/
theorem choose_law (a b : List (Int × Int)) (ig inb : Bool) : Can (chooseL a b ig inb) ∧ ∀ x, MemP (chooseL a b ig inb) x ↔ selB a b ig inb x = true := by
  have hl : (limitsL (limitsL [] a) b).Pairwise (· < ·) := sorted_limits b _ (sorted_limits a [] List.Pairwise.nil)
  have hma : ∀ p ∈ a, validB p.1 p.2 = true → p.1 ∈ limitsL (limitsL [] a) b ∧ p.2 ∈ limitsL (limitsL [] a) b := by
    intro p hp hv
    exact ⟨(mem_limits b _ _).2 (Or.inl ((mem_limits a _ _).2 (Or.inr ⟨p, hp, hv, Or.inl rfl⟩))), (mem_limits b _ _).2 (Or.inl ((mem_limits a _ _).2 (Or.inr ⟨p, hp, hv, Or.inr rfl⟩)))⟩
  have hmb : ∀ p ∈ b, validB p.1 p.2 = true → p.1 ∈ limitsL (limitsL [] a) b ∧ p.2 ∈ limitsL (limitsL [] a) b := by
    intro p hp hv
    exact ⟨(mem_limits b _ _).2 (Or.inr ⟨p, hp, hv, Or.inl rfl⟩), (mem_limits b _ _).2 (Or.inr ⟨p, hp, hv, Or.inr rfl⟩)⟩
  obtain ⟨c1, -, c3⟩ := chUpto_law (limitsL (limitsL [] a) b) (selB a b ig inb) hl ((limitsL (limitsL [] a) b).length - 1) (by omega)
  refine ⟨c1, fun x => ?_⟩
  unfold chooseL
  rw [c3]
  have same : ∀ i, i < (limitsL (limitsL [] a) b).length - 1 → (limitsL (limitsL [] a) b).getD i 0 ≤ x → x < (limitsL (limitsL [] a) b).getD (i + 1) 0 → selB a b ig inb x = selB a b ig inb ((limitsL (limitsL [] a) b).getD i 0) := by
    intro i hi h1 h2
    unfold selB
    rw [inL_piece _ a hl hma i (by omega) x h1 h2, inL_piece _ b hl hmb i (by omega) x h1 h2]
  constructor
  · rintro ⟨i, hi, hs, h1, h2⟩
    rw [same i hi h1 h2]; exact hs
  · intro h
    have ha : inL a x = true := by
      unfold selB at h
      rw [Bool.and_eq_true] at h
      exact h.1
    obtain ⟨i, hi, h1, h2⟩ := inL_sorted _ a hl hma x ha
    exact ⟨i, hi, by rw [← same i hi h1 h2]; exact h, h1, h2⟩
end Go.Proofs.Ytimclpgkdplnhaa
