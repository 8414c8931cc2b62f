/-
  Canonical lists of periods: the plain law. Two of them with the same instants are the same; what choose gives is canonical and holds the chosen instants.
-/
import Derived.Test.YtimclpgkdplnhaaMeet04
namespace Go.Proofs.Ytimclpgkdplnhaa
open Go.RowKit

/-- Is an instant in one of periods, whatever they are? -/
def MemP (C : List (Int × Int)) (x : Int) : Prop := ∃ q ∈ C, q.1 ≤ x ∧ x < q.2
/-- A canonical list: periods that are not empty, in order, with gaps between them. -/
def Can : List (Int × Int) → Prop
  | [] => True
  | p :: r => p.1 < p.2 ∧ (∀ q ∈ r, p.2 < q.1) ∧ Can r

theorem memP_nil (x : Int) : ¬ MemP [] x := by rintro ⟨q, hq, -⟩; cases hq
theorem memP_cons (p : Int × Int) (r : List (Int × Int)) (x : Int) : MemP (p :: r) x ↔ (p.1 ≤ x ∧ x < p.2) ∨ MemP r x := by
  constructor
  · rintro ⟨q, hq, h⟩
    rcases List.mem_cons.1 hq with rfl | hq
    · exact Or.inl h
    · exact Or.inr ⟨q, hq, h⟩
  · rintro (h | ⟨q, hq, h⟩)
    · exact ⟨p, by simp, h⟩
    · exact ⟨q, by simp [hq], h⟩
theorem memP_append (a b : List (Int × Int)) (x : Int) : MemP (a ++ b) x ↔ MemP a x ∨ MemP b x := by
  constructor
  · rintro ⟨q, hq, h⟩
    rcases List.mem_append.1 hq with hq | hq
    · exact Or.inl ⟨q, hq, h⟩
    · exact Or.inr ⟨q, hq, h⟩
  · rintro (⟨q, hq, h⟩ | ⟨q, hq, h⟩)
    · exact ⟨q, List.mem_append_left _ hq, h⟩
    · exact ⟨q, List.mem_append_right _ hq, h⟩

theorem can_rest {p : Int × Int} {r : List (Int × Int)} (h : Can (p :: r)) {x : Int} (hx : MemP r x) : p.2 < x := by
  obtain ⟨q, hq, h1, -⟩ := hx
  have := h.2.1 q hq
  omega

/-- Two canonical lists with the same instants are the same. -/
theorem can_unique : ∀ (C D : List (Int × Int)), Can C → Can D → (∀ x, MemP C x ↔ MemP D x) → C = D := by
  intro C
  induction C with
  | nil =>
    intro D _ hD h
    cases D with
    | nil => rfl
    | cons p r => exact absurd ((h p.1).2 ⟨p, by simp, Int.le_refl _, hD.1⟩) (memP_nil _)
  | cons p r ih =>
    intro D hC hD h
    cases D with
    | nil => exact absurd ((h p.1).1 ⟨p, by simp, Int.le_refl _, hC.1⟩) (memP_nil _)
    | cons q s =>
      have e1 : p.1 = q.1 := by
        have a1 := (h p.1).1 ⟨p, by simp, Int.le_refl _, hC.1⟩
        have a2 := (h q.1).2 ⟨q, by simp, Int.le_refl _, hD.1⟩
        rcases (memP_cons q s p.1).1 a1 with b1 | b1 <;> rcases (memP_cons p r q.1).1 a2 with b2 | b2
        · omega
        · have := can_rest hC b2; have := hC.1; omega
        · have := can_rest hD b1; have := hD.1; omega
        · have := can_rest hD b1; have := can_rest hC b2; have := hC.1; have := hD.1; omega
      have e2 : p.2 = q.2 := by
        have hp := hC.1
        have hq := hD.1
        rcases Int.lt_trichotomy p.2 q.2 with hlt | heq | hgt
        · have a1 := (h p.2).2 ⟨q, by simp, by omega, hlt⟩
          rcases (memP_cons p r p.2).1 a1 with b | b
          · omega
          · have := can_rest hC b; omega
        · exact heq
        · have a1 := (h q.2).1 ⟨p, by simp, by omega, hgt⟩
          rcases (memP_cons q s q.2).1 a1 with b | b
          · omega
          · have := can_rest hD b; omega
      have epq : p = q := Prod.ext e1 e2
      subst epq
      congr 1
      refine ih s hC.2.2 hD.2.2 fun x => ⟨fun hx => ?_, fun hx => ?_⟩
      · have h1 := can_rest hC hx
        rcases (memP_cons p s x).1 ((h x).1 ((memP_cons p r x).2 (Or.inr hx))) with b | b
        · omega
        · exact b
      · have h1 := can_rest hD hx
        rcases (memP_cons p r x).1 ((h x).2 ((memP_cons p s x).2 (Or.inr hx))) with b | b
        · omega
        · exact b

theorem can_snoc : ∀ (M : List (Int × Int)) (p : Int × Int), Can (M ++ [p]) ↔ Can M ∧ p.1 < p.2 ∧ ∀ q ∈ M, q.2 < p.1 := by
  intro M
  induction M with
  | nil => intro p; simp [Can]
  | cons a M ih =>
    intro p
    rw [List.cons_append, Can, Can, ih]
    constructor
    · rintro ⟨h1, h2, h3, h4, h5⟩
      refine ⟨⟨h1, fun q hq => h2 q (List.mem_append_left _ hq), h3⟩, h4, fun q hq => ?_⟩
      rcases List.mem_cons.1 hq with rfl | hq
      · exact h2 p (by simp)
      · exact h5 q hq
    · rintro ⟨⟨h1, h2, h3⟩, h4, h5⟩
      refine ⟨h1, fun q hq => ?_, h3, h4, fun q hq => h5 q (by simp [hq])⟩
      rcases List.mem_append.1 hq with hq | hq
      · exact h2 q hq
      · rw [List.mem_singleton.1 hq]; exact h5 a (by simp)

/-! ### The limits -/
theorem mem_addL : ∀ (l : List Int) (n x : Int), x ∈ addL l n ↔ x = n ∨ x ∈ l := by
  intro l
  induction l with
  | nil => intro n x; rw [addL_nil]; simp
  | cons y r ih =>
    intro n x
    rcases Int.lt_trichotomy n y with h | h | h
    · rw [addL_lt y n r h]
      simp only [List.mem_cons, List.mem_filter, decide_eq_true_eq]
      constructor
      · rintro (h | h | ⟨h, -⟩)
        · exact Or.inl h
        · exact Or.inr (Or.inl h)
        · exact Or.inr (Or.inr h)
      · rintro (h | h | h)
        · exact Or.inl h
        · exact Or.inr (Or.inl h)
        · by_cases e : x = n
          · exact Or.inl e
          · exact Or.inr (Or.inr ⟨h, e⟩)
    · subst h
      rw [addL_same]
      simp only [List.mem_cons, List.mem_filter, decide_eq_true_eq]
      constructor
      · rintro (h | ⟨h, -⟩)
        · exact Or.inl h
        · exact Or.inr (Or.inr h)
      · rintro (h | h | h)
        · exact Or.inl h
        · exact Or.inl h
        · by_cases e : x = n
          · exact Or.inl e
          · exact Or.inr ⟨h, e⟩
    · rw [addL_gt y n r h, List.mem_cons, ih]
      simp only [List.mem_cons]
      constructor
      · rintro (h | h | h)
        · exact Or.inr (Or.inl h)
        · exact Or.inl h
        · exact Or.inr (Or.inr h)
      · rintro (h | h | h)
        · exact Or.inr (Or.inl h)
        · exact Or.inl h
        · exact Or.inr (Or.inr h)

theorem sorted_addL : ∀ (l : List Int) (n : Int), l.Pairwise (· < ·) → (addL l n).Pairwise (· < ·) := by
  intro l
  induction l with
  | nil => intro n _; rw [addL_nil]; simp
  | cons y r ih =>
    intro n h
    obtain ⟨h1, h2⟩ := List.pairwise_cons.1 h
    rcases Int.lt_trichotomy n y with hn | hn | hn
    · rw [addL_lt y n r hn]
      refine List.pairwise_cons.2 ⟨fun z hz => ?_, List.pairwise_cons.2 ⟨fun z hz => h1 z (List.mem_filter.1 hz).1, h2.filter _⟩⟩
      rcases List.mem_cons.1 hz with rfl | hz
      · exact hn
      · have := h1 z (List.mem_filter.1 hz).1; omega
    · subst hn
      rw [addL_same]
      exact List.pairwise_cons.2 ⟨fun z hz => h1 z (List.mem_filter.1 hz).1, h2.filter _⟩
    · rw [addL_gt y n r hn]
      refine List.pairwise_cons.2 ⟨fun z hz => ?_, ih n h2⟩
      rcases (mem_addL r n z).1 hz with rfl | hz
      · exact hn
      · exact h1 z hz

theorem sorted_limits : ∀ (ps : List (Int × Int)) (l : List Int), l.Pairwise (· < ·) → (limitsL l ps).Pairwise (· < ·) := by
  intro ps
  induction ps with
  | nil => intro l h; exact h
  | cons p r ih =>
    intro l h
    refine ih _ ?_
    show (limStep l p).Pairwise (· < ·)
    unfold limStep
    split
    · exact sorted_addL _ _ (sorted_addL _ _ h)
    · exact h
theorem mem_limits : ∀ (ps : List (Int × Int)) (l : List Int) (x : Int), x ∈ limitsL l ps ↔ x ∈ l ∨ ∃ p ∈ ps, validB p.1 p.2 = true ∧ (x = p.1 ∨ x = p.2) := by
  intro ps
  induction ps with
  | nil => intro l x; simp [limitsL]
  | cons p r ih =>
    intro l x
    show x ∈ limitsL (limStep l p) r ↔ _
    rw [ih]
    unfold limStep
    by_cases hv : validB p.1 p.2 = true
    · rw [if_pos hv, mem_addL, mem_addL]
      constructor
      · rintro ((h | h | h) | ⟨q, hq, h⟩)
        · exact Or.inr ⟨p, by simp, hv, Or.inr h⟩
        · exact Or.inr ⟨p, by simp, hv, Or.inl h⟩
        · exact Or.inl h
        · exact Or.inr ⟨q, by simp [hq], h⟩
      · rintro (h | ⟨q, hq, h⟩)
        · exact Or.inl (Or.inr (Or.inr h))
        · rcases List.mem_cons.1 hq with rfl | hq
          · rcases h.2 with h | h
            · exact Or.inl (Or.inr (Or.inl h))
            · exact Or.inl (Or.inl h)
          · exact Or.inr ⟨q, hq, h⟩
    · rw [if_neg hv]
      constructor
      · rintro (h | ⟨q, hq, h⟩)
        · exact Or.inl h
        · exact Or.inr ⟨q, by simp [hq], h⟩
      · rintro (h | ⟨q, hq, h⟩)
        · exact Or.inl h
        · rcases List.mem_cons.1 hq with rfl | hq
          · exact absurd h.1 hv
          · exact Or.inr ⟨q, hq, h⟩
end Go.Proofs.Ytimclpgkdplnhaa
