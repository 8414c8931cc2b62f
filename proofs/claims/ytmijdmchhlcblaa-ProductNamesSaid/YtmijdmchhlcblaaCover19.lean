/-
  The plain law of fees: they follow one another and are those of the versions.
-/
import Derived.Test.YtmijdmchhlcblaaPlain19
namespace Go.Proofs.Ytmijdmchhlcblaa
open Go.RowKit

/-- The last of versions, in order, that began by an instant. -/
def atF (F : List Pd) (x : Int) : Option Pd := (F.filter fun p : Pd => decide (p.fm ≤ x)).getLast?

theorem atL_F (l : List Pd) (s : ByteArray) (x : Int) : atL l s x = atF (l.filter fun p : Pd => eqS p.nm s) x := by
  unfold atL atF
  rw [List.filter_filter]
  congr 1
  apply List.filter_congr
  intro p _
  unfold keepAt
  exact Bool.and_comm _ _

def Later (a b : Pd) : Prop := a.fm < b.fm

theorem later_of {l : List Pd} (h : l.Pairwise Ahead) (s : ByteArray) : (l.filter fun p : Pd => eqS p.nm s).Pairwise Later := by
  have h1 := h.filter (fun p : Pd => eqS p.nm s)
  refine List.Pairwise.imp_of_mem ?_ h1
  intro a b ha hb hab
  have ea := (eqS_iff _ _).1 (List.mem_filter.1 ha).2
  have eb := (eqS_iff _ _).1 (List.mem_filter.1 hb).2
  rcases hab with h | ⟨-, h⟩
  · rw [ea, eb] at h; exact absurd h (ltS_irrefl s)
  · exact h

theorem at_mid {A r : List Pd} {p : Pd} {x : Int} (hp : p.fm ≤ x) (hr : ∀ q ∈ r, x < q.fm) : atF (A ++ p :: r) x = some p := by
  unfold atF
  have e : r.filter (fun q : Pd => decide (q.fm ≤ x)) = [] := by
    rw [List.filter_eq_nil_iff]
    intro q hq h
    have := hr q hq
    simp only [decide_eq_true_eq] at h
    omega
  rw [List.filter_append, List.filter_cons, if_pos (by simpa using hp), e, List.getLast?_concat]

theorem at_none {F : List Pd} {x : Int} (h : ∀ q ∈ F, x < q.fm) : atF F x = none := by
  unfold atF
  have e : F.filter (fun q : Pd => decide (q.fm ≤ x)) = [] := by
    rw [List.filter_eq_nil_iff]
    intro q hq h'
    have := h q hq
    simp only [decide_eq_true_eq] at h'
    omega
  rw [e]; rfl

/-- Fees that follow one another from a on up to t, each that of the version at both its ends. -/
def Covers (F : List Pd) (t : Int) : Int → List (Int × Int × Int) → Prop
  | a, [] => a = t
  | a, q :: g => q.1 = a ∧ a < q.2.1 ∧ (∃ p, atF F a = some p ∧ atF F (q.2.1 - 1) = some p ∧ p.fe = q.2.2) ∧ Covers F t q.2.1 g

theorem feeOne_none (p : Pd) (f t : Int) : feeOne p none f t = if (if p.fm < f then f else p.fm) < t then [(if p.fm < f then f else p.fm, t, p.fe)] else [] := rfl
theorem feeOne_some (p q : Pd) (f t : Int) : feeOne p (some q) f t = if (if p.fm < f then f else p.fm) < (if q.fm < t then q.fm else t) then [(if p.fm < f then f else p.fm, (if q.fm < t then q.fm else t), p.fe)] else [] := rfl
theorem feesR_one (p : Pd) (f t : Int) : feesR f t [p] = if (if p.fm < f then f else p.fm) < t then [(if p.fm < f then f else p.fm, t, p.fe)] else [] := by
  rw [feesR, feesR, List.append_nil, List.head?_nil, feeOne_none]
theorem feesR_two (p q : Pd) (r : List Pd) (f t : Int) : feesR f t (p :: q :: r) = (if (if p.fm < f then f else p.fm) < (if q.fm < t then q.fm else t) then [(if p.fm < f then f else p.fm, (if q.fm < t then q.fm else t), p.fe)] else []) ++ feesR f t (q :: r) := by
  rw [feesR, List.head?_cons, feeOne_some]

theorem fees_late {f t : Int} : ∀ {r : List Pd}, (∀ q ∈ r, t ≤ q.fm) → feesR f t r = [] := by
  intro r
  induction r with
  | nil => intro _; rfl
  | cons q r ih =>
    intro h
    have hq := h q (by simp)
    cases r with
    | nil =>
      rw [feesR_one, if_neg]
      intro hlt
      split at hlt <;> omega
    | cons z r =>
      have hz := h z (by simp)
      rw [feesR_two, ih (fun x hx => h x (by simp [hx])), List.append_nil, if_neg]
      intro hlt
      split at hlt <;> split at hlt <;> omega

theorem cov_push {f t : Int} : ∀ (r : List Pd) (p : Pd) (A : List Pd), (A ++ p :: r).Pairwise Later → (if p.fm < f then f else p.fm) < t → (∀ q ∈ r, (if p.fm < f then f else p.fm) < q.fm) →
    Covers (A ++ p :: r) t (if p.fm < f then f else p.fm) (feesR f t (p :: r)) := by
  intro r
  induction r with
  | nil =>
    intro p A hs ha hn
    rw [feesR_one, if_pos ha]
    have hp : p.fm ≤ (if p.fm < f then f else p.fm) := by split <;> omega
    generalize (if p.fm < f then f else p.fm) = a at *
    exact ⟨rfl, ha, ⟨p, at_mid hp hn, at_mid (by dsimp only; omega) (by simp), rfl⟩, rfl⟩
  | cons q r ih =>
    intro p A hs ha hn
    have hs2 := (List.pairwise_append.1 hs).2.1
    have hpr := (List.pairwise_cons.1 hs2).1
    have hqr := (List.pairwise_cons.1 (List.pairwise_cons.1 hs2).2).1
    have hp : p.fm ≤ (if p.fm < f then f else p.fm) := by split <;> omega
    have hf : f ≤ (if p.fm < f then f else p.fm) := by split <;> omega
    have hq := hn q (by simp)
    rw [feesR_two]
    generalize (if p.fm < f then f else p.fm) = a at *
    by_cases hqt : q.fm < t
    · rw [if_pos hqt, if_pos hq]
      have hmax : (if q.fm < f then f else q.fm) = q.fm := if_neg (by omega)
      have hrec := ih q (A ++ [p]) (by rw [List.append_assoc]; exact hs) (by rw [hmax]; exact hqt) (by rw [hmax]; exact hqr)
      rw [hmax, List.append_assoc] at hrec
      refine ⟨rfl, hq, ⟨p, at_mid hp hn, at_mid (by dsimp only; omega) fun z hz => ?_, rfl⟩, hrec⟩
      dsimp only
      rcases List.mem_cons.1 hz with rfl | hz
      · omega
      · have h1 := hqr z hz; unfold Later at h1; omega
    · rw [if_neg hqt, if_pos ha, fees_late (t := t) (fun z hz => by
        rcases List.mem_cons.1 hz with rfl | hz
        · omega
        · have h1 := hqr z hz; unfold Later at h1; omega)]
      refine ⟨rfl, ha, ⟨p, at_mid hp hn, at_mid (by dsimp only; omega) fun z hz => ?_, rfl⟩, rfl⟩
      dsimp only
      rcases List.mem_cons.1 hz with rfl | hz
      · omega
      · have h1 := hqr z hz; unfold Later at h1; omega

/-- All of it: from the beginning of the period, or from the first version on. -/
theorem cov_all {f t : Int} (hft : f < t) : ∀ (r : List Pd) (p : Pd) (A : List Pd), (A ++ p :: r).Pairwise Later →
    (t ≤ p.fm ∧ feesR f t (p :: r) = []) ∨ (p.fm < t ∧ feesR f t (p :: r) ≠ [] ∧ Covers (A ++ p :: r) t (if p.fm < f then f else p.fm) (feesR f t (p :: r))) := by
  intro r
  induction r with
  | nil =>
    intro p A hs
    by_cases hp : t ≤ p.fm
    · exact Or.inl ⟨hp, fees_late (by simp; exact hp)⟩
    · have ha : (if p.fm < f then f else p.fm) < t := by split <;> omega
      refine Or.inr ⟨by omega, ?_, cov_push [] p A hs ha (by simp)⟩
      rw [feesR_one, if_pos ha]; simp
  | cons q r ih =>
    intro p A hs
    have hs2 := (List.pairwise_append.1 hs).2.1
    have hpr := (List.pairwise_cons.1 hs2).1
    have hqr := (List.pairwise_cons.1 (List.pairwise_cons.1 hs2).2).1
    have hpq : p.fm < q.fm := hpr q (by simp)
    by_cases hp : t ≤ p.fm
    · refine Or.inl ⟨hp, fees_late fun z hz => ?_⟩
      rcases List.mem_cons.1 hz with rfl | hz
      · exact hp
      · have h1 := hpr z hz; unfold Later at h1; omega
    · by_cases hqf : q.fm ≤ f
      · have e : feesR f t (p :: q :: r) = feesR f t (q :: r) := by
          rw [feesR_two, if_neg (by split <;> split <;> omega)]; rfl
        have h1 := ih q (A ++ [p]) (by rw [List.append_assoc]; exact hs)
        rw [List.append_assoc] at h1
        rw [e]
        rcases h1 with ⟨h2, -⟩ | ⟨h2, h3, h4⟩
        · omega
        · refine Or.inr ⟨by omega, h3, ?_⟩
          have e2 : (if q.fm < f then f else q.fm) = (if p.fm < f then f else p.fm) := by
            rw [if_pos (show p.fm < f by omega)]; split <;> omega
          rw [e2] at h4
          exact h4
      · have ha : (if p.fm < f then f else p.fm) < t := by split <;> omega
        have hn : ∀ z ∈ q :: r, (if p.fm < f then f else p.fm) < z.fm := fun z hz => by
          rcases List.mem_cons.1 hz with rfl | hz
          · split <;> omega
          · have h1 := hqr z hz; unfold Later at h1; split <;> omega
        refine Or.inr ⟨by omega, ?_, cov_push (q :: r) p A hs ha hn⟩
        have hq := hn q (by simp)
        rw [feesR_two]
        have : (if p.fm < f then f else p.fm) < (if q.fm < t then q.fm else t) := by
          generalize (if p.fm < f then f else p.fm) = a at *
          split <;> omega
        rw [if_pos this]; simp

theorem covers_at {F : List Pd} {t : Int} : ∀ (G : List (Int × Int × Int)) (a : Int), Covers F t a G → ∀ i (hi : i < G.length),
    a ≤ G[i].1 ∧ G[i].1 < G[i].2.1 ∧ (∃ p, atF F G[i].1 = some p ∧ atF F (G[i].2.1 - 1) = some p ∧ p.fe = G[i].2.2) ∧ (i = 0 → G[i].1 = a) ∧ (i + 1 = G.length → G[i].2.1 = t) ∧ (∀ h : 0 < i, (G[i - 1]'(by omega)).2.1 = G[i].1) := by
  intro G
  induction G with
  | nil => intro a _ i hi; cases hi
  | cons q g ih =>
    intro a h i hi
    obtain ⟨h1, h2, h3, h4⟩ := h
    match i, hi with
    | 0, hi =>
      refine ⟨by show a ≤ q.1; omega, by show q.1 < q.2.1; omega, by show ∃ p, atF F q.1 = some p ∧ atF F (q.2.1 - 1) = some p ∧ p.fe = q.2.2; rw [h1]; exact h3, fun _ => h1, fun he => ?_, fun h => absurd h (Nat.lt_irrefl _)⟩
      have : g = [] := by simpa using he
      subst this
      exact h4
    | i + 1, hi =>
      have hi' : i < g.length := by simpa using hi
      obtain ⟨g1, g2, g3, g4, g5, g6⟩ := ih q.2.1 h4 i hi'
      refine ⟨by show a ≤ g[i].1; omega, g2, g3, fun h => by omega, fun he => g5 (by simpa using he), fun _ => ?_⟩
      by_cases h0 : i = 0
      · subst h0
        exact (g4 rfl).symm
      · have e := g6 (by omega)
        rw [show g[i].1 = (q :: g)[i + 1].1 from rfl] at e
        rw [← e]
        congr 2
        obtain ⟨j, rfl⟩ : ∃ j, i = j + 1 := ⟨i - 1, by omega⟩
        rfl

theorem covers_le {F : List Pd} {t : Int} : ∀ (G : List (Int × Int × Int)) (a : Int), Covers F t a G → a ≤ t := by
  intro G
  induction G with
  | nil => intro a h; exact Int.le_of_eq h
  | cons q g ih => intro a h; have := ih q.2.1 h.2.2.2; have := h.2.1; omega
theorem covers_top {F : List Pd} {t : Int} : ∀ (G : List (Int × Int × Int)) (a : Int), Covers F t a G → ∀ i (hi : i < G.length), G[i].2.1 ≤ t := by
  intro G
  induction G with
  | nil => intro a _ i hi; cases hi
  | cons q g ih =>
    intro a h i hi
    match i, hi with
    | 0, hi => exact covers_le g q.2.1 h.2.2.2
    | i + 1, hi => exact ih q.2.1 h.2.2.2 i (by simpa using hi)

theorem cover_cases {l : List Pd} (h : l.Pairwise Ahead) (s : ByteArray) {f t : Int} (hft : f < t) : (feesR f t (l.filter fun p : Pd => eqS p.nm s) = [] ∧ ∀ x, x < t → atL l s x = none) ∨
    ∃ a, feesR f t (l.filter fun p : Pd => eqS p.nm s) ≠ [] ∧ Covers (l.filter fun p : Pd => eqS p.nm s) t a (feesR f t (l.filter fun p : Pd => eqS p.nm s)) ∧ f ≤ a ∧ (atL l s f ≠ none → a = f) ∧ (atL l s f = none → atL l s (a - 1) = none) := by
  have hF := later_of h s
  simp only [atL_F]
  generalize (l.filter fun p : Pd => eqS p.nm s) = F at *
  cases F with
  | nil => exact Or.inl ⟨rfl, fun _ _ => rfl⟩
  | cons p r =>
    have hpr := (List.pairwise_cons.1 hF).1
    rcases cov_all hft r p [] hF with ⟨h1, h2⟩ | ⟨h1, h2, h3⟩
    · refine Or.inl ⟨h2, fun x hx => at_none fun z hz => ?_⟩
      rcases List.mem_cons.1 hz with rfl | hz
      · omega
      · have h1 := hpr z hz; unfold Later at h1; omega
    · refine Or.inr ⟨_, h2, h3, by split <;> omega, fun hx => ?_, fun hx => ?_⟩
      · by_cases hpf : p.fm < f
        · rw [if_pos hpf]
        · rw [if_neg hpf]
          by_cases hpe : p.fm = f
          · exact hpe
          · exfalso
            refine hx (at_none fun z hz => ?_)
            rcases List.mem_cons.1 hz with rfl | hz
            · omega
            · have h1 := hpr z hz; unfold Later at h1; omega
      · have hpf : ¬ p.fm ≤ f := fun hle => by
          have : atF (p :: r) f ≠ none := by
            unfold atF
            rw [List.filter_cons, if_pos (by simpa using hle)]
            simp
          exact this hx
        rw [if_neg (by omega)]
        refine at_none fun z hz => ?_
        rcases List.mem_cons.1 hz with rfl | hz
        · omega
        · have h1 := hpr z hz; unfold Later at h1; omega
end Go.Proofs.Ytmijdmchhlcblaa
