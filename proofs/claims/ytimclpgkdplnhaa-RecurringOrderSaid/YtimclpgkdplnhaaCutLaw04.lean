/-
  Cutting a period at instants, in plain Lean: the program's sorted list without repetitions is the reference's ascending one, and the parts add up to the period.
-/
import Derived.Test.YtimclpgkdplnhaaCanon04
import Derived.Test.YtimclpgkdplnhaaR04f
import Derived.Lib.SlicesCompact
namespace Go.Proofs.Ytimclpgkdplnhaa
open Go.RowKit

/-- The ends of the parts, as the reference gathers them. -/
def cutEnds (f t : Int) (at_ : List Int) : List Int := at_.foldl (fun l x => if f < x ∧ x < t then addL l x else l) [t]
theorem cutEnds_snoc (f t : Int) (l : List Int) (x : Int) : cutEnds f t (l ++ [x]) = if f < x ∧ x < t then addL (cutEnds f t l) x else cutEnds f t l := by
  unfold cutEnds; rw [List.foldl_append]; rfl
theorem cutEnds_take (f t : Int) (l : List Int) (k : Nat) (h : k < l.length) : cutEnds f t (l.take (k + 1)) = if f < l[k] ∧ l[k] < t then addL (cutEnds f t (l.take k)) l[k] else cutEnds f t (l.take k) := by
  rw [List.take_succ_eq_append_getElem h, cutEnds_snoc]
theorem cutEnds_fold (f t : Int) : ∀ (l E : List Int), (∀ x, x ∈ l.foldl (fun l x => if f < x ∧ x < t then addL l x else l) E ↔ x ∈ E ∨ (x ∈ l ∧ f < x ∧ x < t)) ∧ (E.Pairwise (· < ·) → (l.foldl (fun l x => if f < x ∧ x < t then addL l x else l) E).Pairwise (· < ·)) ∧ (l.foldl (fun l x => if f < x ∧ x < t then addL l x else l) E).length ≤ E.length + l.length := by
  intro l
  induction l with
  | nil => intro E; exact ⟨fun x => by simp, fun h => h, Nat.le_refl _⟩
  | cons y r ih =>
    intro E
    rw [List.foldl_cons]
    by_cases h : f < y ∧ y < t
    · rw [if_pos h]
      obtain ⟨h1, h2, h3⟩ := ih (addL E y)
      refine ⟨fun x => ?_, fun hE => h2 (sorted_addL E y hE), ?_⟩
      · rw [h1, mem_addL, List.mem_cons]
        constructor
        · rintro ((rfl | h5) | h5)
          · exact Or.inr ⟨Or.inl rfl, h⟩
          · exact Or.inl h5
          · exact Or.inr ⟨Or.inr h5.1, h5.2⟩
        · rintro (h5 | ⟨rfl | h5, h6⟩)
          · exact Or.inl (Or.inr h5)
          · exact Or.inl (Or.inl rfl)
          · exact Or.inr ⟨h5, h6⟩
      · have := addL_len E y
        simp only [List.length_cons]
        omega
    · rw [if_neg h]
      obtain ⟨h1, h2, h3⟩ := ih E
      refine ⟨fun x => ?_, h2, by simp only [List.length_cons]; omega⟩
      rw [h1, List.mem_cons]
      constructor
      · rintro (h5 | h5)
        · exact Or.inl h5
        · exact Or.inr ⟨Or.inr h5.1, h5.2⟩
      · rintro (h5 | ⟨rfl | h5, h6⟩)
        · exact Or.inl h5
        · exact absurd h6 h
        · exact Or.inr ⟨h5, h6⟩
theorem cutEnds_mem (f t : Int) (l : List Int) (x : Int) : x ∈ cutEnds f t l ↔ x = t ∨ (x ∈ l ∧ f < x ∧ x < t) := by
  rw [cutEnds, (cutEnds_fold f t l [t]).1]; simp
theorem cutEnds_sorted (f t : Int) (l : List Int) : (cutEnds f t l).Pairwise (· < ·) := (cutEnds_fold f t l [t]).2.1 (List.pairwise_singleton _ _)
theorem cutEnds_len (f t : Int) (l : List Int) : (cutEnds f t l).length ≤ l.length + 1 := by
  have := (cutEnds_fold f t l [t]).2.2
  simp only [List.length_cons, List.length_nil] at this
  unfold cutEnds
  omega

/-- The first n parts between the limits K. -/
def prUpto (K : List Int) (n : Nat) : List (Int × Int) := (List.range n).map fun i => (K.getD i 0, K.getD (i + 1) 0)
theorem prUpto_succ (K : List Int) (n : Nat) : prUpto K (n + 1) = prUpto K n ++ [(K.getD n 0, K.getD (n + 1) 0)] := by
  unfold prUpto; rw [List.range_succ, List.map_append]; rfl
theorem prUpto_len (K : List Int) (n : Nat) : (prUpto K n).length = n := by simp [prUpto]
/-- The parts of a period. -/
def cutL (f t : Int) (l : List Int) : List (Int × Int) := if validB f t = true then prUpto (f :: cutEnds f t l) (cutEnds f t l).length else []

theorem up_unique : ∀ (A B : List Int), A.Pairwise (· < ·) → B.Pairwise (· < ·) → (∀ x, x ∈ A ↔ x ∈ B) → A = B := by
  intro A
  induction A with
  | nil =>
    intro B _ _ h
    cases B with
    | nil => rfl
    | cons b s => exact absurd ((h b).2 (by simp)) (by simp)
  | cons a r ih =>
    intro B hA hB h
    cases B with
    | nil => exact absurd ((h a).1 (by simp)) (by simp)
    | cons b s =>
      rw [List.pairwise_cons] at hA hB
      have e : a = b := by
        rcases List.mem_cons.1 ((h a).1 (by simp)) with h1 | h1
        · exact h1
        · rcases List.mem_cons.1 ((h b).2 (by simp)) with h2 | h2
          · exact h2.symm
          · have := hA.1 b h2; have := hB.1 a h1; omega
      subst e
      rw [ih s hA.2 hB.2 fun x => ?_]
      constructor
      · intro hx
        rcases List.mem_cons.1 ((h x).1 (by simp [hx])) with h1 | h1
        · subst h1; have := hA.1 x hx; omega
        · exact h1
      · intro hx
        rcases List.mem_cons.1 ((h x).2 (by simp [hx])) with h1 | h1
        · subst h1; have := hB.1 x hx; omega
        · exact h1

theorem compact_law (zs : List Int) (h : zs.Pairwise (· ≤ ·)) : ∀ m, m ≤ zs.length → (Go.Lib.compactUpTo zs.toArray m).Pairwise (· < ·) ∧ (∀ x, x ∈ Go.Lib.compactUpTo zs.toArray m ↔ x ∈ zs.take m) := by
  intro m
  induction m with
  | zero => intro _; exact ⟨List.Pairwise.nil, fun x => by simp [Go.Lib.compactUpTo]⟩
  | succ m ih =>
    intro hm
    obtain ⟨h1, h2⟩ := ih (by omega)
    have hm' : m < zs.length := hm
    have e0 : zs.toArray[m]! = zs[m] := by rw [getElem!_pos zs.toArray m (by simpa using hm')]; simp
    rw [Go.Lib.compactUpTo_succ, e0]
    cases hk : Go.Lib.keeps zs.toArray m with
    | true =>
      rw [if_pos rfl]
      refine ⟨?_, fun x => ?_⟩
      · rw [List.pairwise_append]
        refine ⟨h1, List.pairwise_singleton _ _, fun x hx y hy => ?_⟩
        obtain rfl := List.mem_singleton.1 hy
        have hx' := (h2 x).1 hx
        obtain ⟨i, hi, rfl⟩ := List.getElem_of_mem hx'
        rw [List.length_take] at hi
        rw [List.getElem_take]
        have a0 : m - 1 < zs.length := by omega
        have a1 : zs[m - 1] ≠ zs[m] := by
          intro e
          unfold Go.Lib.keeps at hk
          rw [e0, getElem!_pos zs.toArray (m - 1) (by simpa using a0)] at hk
          simp [e] at hk
          omega
        have a2 : zs[m - 1] ≤ zs[m] := (List.pairwise_iff_getElem.1 h) (m - 1) m a0 hm' (by omega)
        by_cases hi2 : i = m - 1
        · subst hi2; omega
        · have a3 : zs[i] ≤ zs[m - 1] := (List.pairwise_iff_getElem.1 h) i (m - 1) (by omega) a0 (by omega)
          omega
      · rw [List.mem_append, h2, List.take_succ_eq_append_getElem hm', List.mem_append]
    | false =>
      rw [if_neg (by decide), List.append_nil]
      refine ⟨h1, fun x => ?_⟩
      rw [h2, List.take_succ_eq_append_getElem hm', List.mem_append, List.mem_singleton]
      refine ⟨Or.inl, fun h3 => h3.elim id fun h3 => ?_⟩
      have a0 : m - 1 < zs.length := by omega
      have a1 : 0 < m ∧ zs[m - 1] = zs[m] := by
        unfold Go.Lib.keeps at hk
        rw [e0, getElem!_pos zs.toArray (m - 1) (by simpa using a0)] at hk
        simp at hk
        omega
      rw [h3, ← a1.2]
      exact List.mem_take_iff_getElem.2 ⟨m - 1, by omega, rfl⟩

/-- The program's limits, sorted and without repetitions, are the reference's. -/
theorem cut_limits (f t : Int) (l S : List Int) (hft : f < t) (hp : S.Perm (f :: t :: l.filter fun x => decide (f < x) && decide (x < t))) (hs : S.Pairwise (· ≤ ·)) : Go.Lib.compact S = f :: cutEnds f t l := by
  obtain ⟨h1, h2⟩ := compact_law S hs S.length (Nat.le_refl _)
  refine up_unique _ _ h1 ?_ fun x => ?_
  · rw [List.pairwise_cons]
    refine ⟨fun x hx => ?_, cutEnds_sorted f t l⟩
    rcases (cutEnds_mem f t l x).1 hx with h | h
    · omega
    · exact h.2.1
  · rw [show x ∈ Go.Lib.compact S ↔ x ∈ S.take S.length from h2 x, List.take_length, hp.mem_iff, List.mem_cons, List.mem_cons, List.mem_cons, List.mem_filter, cutEnds_mem]
    simp

/-- The parts add up to the period. -/
theorem tot_pr (K : List Int) : ∀ n, totL (prUpto K n) = K.getD n 0 - K.getD 0 0 := by
  intro n
  induction n with
  | zero => show (0 : Int) = _; omega
  | succ n ih => rw [prUpto_succ, totL_snoc, ih]; dsimp only; omega
theorem cut_total (f t : Int) (l : List Int) (h : validB f t = true) : totL (cutL f t l) = t - f := by
  rw [cutL, if_pos h, tot_pr]
  have hm : (cutEnds f t l).getLast? = some t := by
    have h1 := cutEnds_sorted f t l
    have h2 := (cutEnds_mem f t l t).2 (Or.inl rfl)
    obtain ⟨i, hi, he⟩ := List.getElem_of_mem h2
    by_cases hl : i = (cutEnds f t l).length - 1
    · rw [List.getLast?_eq_getElem?, ← hl, List.getElem?_eq_getElem hi, he]
    · have h3 := (List.pairwise_iff_getElem.1 h1) i ((cutEnds f t l).length - 1) hi (by omega) (by omega)
      rcases (cutEnds_mem f t l _).1 (List.getElem_mem (show (cutEnds f t l).length - 1 < (cutEnds f t l).length by omega)) with h4 | h4
      · omega
      · omega
  have hne : (cutEnds f t l).length ≠ 0 := by
    intro e
    rw [List.length_eq_zero_iff.1 e] at hm
    cases hm
  obtain ⟨n, hn⟩ : ∃ n, (cutEnds f t l).length = n + 1 := ⟨(cutEnds f t l).length - 1, by omega⟩
  rw [hn]
  have e1 : (f :: cutEnds f t l).getD (n + 1) 0 = t := by
    rw [List.getD_cons_succ, List.getD_eq_getElem?_getD]
    rw [List.getLast?_eq_getElem?, hn] at hm
    simp only [Nat.add_sub_cancel] at hm
    rw [hm]; rfl
  rw [e1]
  rfl
theorem cut_in (f t : Int) (l : List Int) : ∀ q ∈ cutL f t l, 0 ≤ q.1 ∧ q.1 < q.2 ∧ q.2 ≤ 12622780800 := by
  intro q hq
  by_cases h : validB f t = true
  · rw [cutL, if_pos h] at hq
    have hv := (validB_iff _ _).1 h
    obtain ⟨i, hi, rfl⟩ := List.mem_map.1 hq
    rw [List.mem_range] at hi
    have hs : (f :: cutEnds f t l).Pairwise (· < ·) := by
      rw [List.pairwise_cons]
      refine ⟨fun x hx => ?_, cutEnds_sorted f t l⟩
      rcases (cutEnds_mem f t l x).1 hx with h | h
      · omega
      · exact h.2.1
    have i1 : i < (f :: cutEnds f t l).length := by simp; omega
    have i2 : i + 1 < (f :: cutEnds f t l).length := by simp; omega
    have h1 := (List.pairwise_iff_getElem.1 hs) i (i + 1) i1 i2 (by omega)
    have bd : ∀ x ∈ f :: cutEnds f t l, f ≤ x ∧ x ≤ t := by
      intro x hx
      rcases List.mem_cons.1 hx with h | h
      · omega
      · rcases (cutEnds_mem f t l x).1 h with h | h
        · omega
        · omega
    have b1 := bd _ (List.getElem_mem i1)
    have b2 := bd _ (List.getElem_mem i2)
    rw [getD_at _ _ _ i1, getD_at _ _ _ i2]
    dsimp only
    omega
  · rw [cutL, if_neg h] at hq
    cases hq
end Go.Proofs.Ytimclpgkdplnhaa
