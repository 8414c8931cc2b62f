/-
  The days that a canonical set of instants touches, in plain Lean.
-/
import Derived.Test.YtimclpgkdplnhaaTot04
namespace Go.Proofs.Ytimclpgkdplnhaa
open Go.RowKit

/-- The runs of days that a list touches, and the first day that was not counted yet. -/
def rStep (s : Int × List (Int × Int)) (p : Int × Int) : Int × List (Int × Int) :=
  ((p.2 - 1) / 86400 + 1, if max (p.1 / 86400) s.1 < (p.2 - 1) / 86400 + 1 then s.2 ++ [(max (p.1 / 86400) s.1, (p.2 - 1) / 86400 + 1)] else s.2)
def runsF (C : List (Int × Int)) : Int × List (Int × Int) := C.foldl rStep (0, [])
theorem runs_take (C : List (Int × Int)) (k : Nat) (h : k < C.length) : runsF (C.take (k + 1)) = rStep (runsF (C.take k)) C[k] := by
  unfold runsF; rw [List.take_succ_eq_append_getElem h, List.foldl_append]; rfl
/-- The reference's count. -/
def dStep (s : Int × Int) (p : Int × Int) : Int × Int :=
  if max (p.1 / 86400) s.2 ≤ (p.2 - 1) / 86400 then (s.1 + ((p.2 - 1) / 86400 - max (p.1 / 86400) s.2 + 1), (p.2 - 1) / 86400 + 1) else s
def daysF (C : List (Int × Int)) : Int × Int := C.foldl dStep (0, 0)
theorem days_take (C : List (Int × Int)) (k : Nat) (h : k < C.length) : daysF (C.take (k + 1)) = dStep (daysF (C.take k)) C[k] := by
  unfold daysF; rw [List.take_succ_eq_append_getElem h, List.foldl_append]; rfl

def InT (C : List (Int × Int)) : Prop := ∀ q ∈ C, 0 ≤ q.1 ∧ q.1 < q.2 ∧ q.2 ≤ 12622780800
theorem day_bd {f t : Int} (h : 0 ≤ f ∧ f < t ∧ t ≤ 12622780800) : 0 ≤ f / 86400 ∧ f / 86400 ≤ (t - 1) / 86400 ∧ (t - 1) / 86400 + 1 ≤ 146097 := by omega
theorem daysF_bd : ∀ (C : List (Int × Int)), InT C → 0 ≤ (daysF C).1 ∧ (daysF C).1 ≤ (daysF C).2 ∧ (daysF C).2 ≤ 146097 := by
  intro C h
  have key : ∀ k, k ≤ C.length → 0 ≤ (daysF (C.take k)).1 ∧ (daysF (C.take k)).1 ≤ (daysF (C.take k)).2 ∧ (daysF (C.take k)).2 ≤ 146097 := by
    intro k
    induction k with
    | zero => intro _; exact ⟨Int.le_refl _, Int.le_refl _, show (0 : Int) ≤ 146097 by decide⟩
    | succ k ih =>
      intro hk
      have h1 := ih (by omega)
      have h2 := day_bd (h C[k] (List.getElem_mem _))
      rw [days_take C k hk]
      unfold dStep
      split
      · dsimp only; omega
      · exact h1
  have := key C.length (Nat.le_refl _)
  rwa [List.take_length] at this
theorem runsF_bd : ∀ (C : List (Int × Int)), InT C → 0 ≤ (runsF C).1 ∧ (runsF C).1 ≤ 146097 ∧ (runsF C).2.length ≤ C.length ∧ ∀ q ∈ (runsF C).2, 0 ≤ q.1 ∧ q.1 < q.2 ∧ q.2 ≤ 146097 := by
  intro C h
  have key : ∀ k, k ≤ C.length → 0 ≤ (runsF (C.take k)).1 ∧ (runsF (C.take k)).1 ≤ 146097 ∧ (runsF (C.take k)).2.length ≤ k ∧ ∀ q ∈ (runsF (C.take k)).2, 0 ≤ q.1 ∧ q.1 < q.2 ∧ q.2 ≤ 146097 := by
    intro k
    induction k with
    | zero => intro _; exact ⟨Int.le_refl _, show (0 : Int) ≤ 146097 by decide, Nat.le_refl _, fun q hq => by cases hq⟩
    | succ k ih =>
      intro hk
      obtain ⟨h1, h2, h3, h4⟩ := ih (by omega)
      have h5 := day_bd (h C[k] (List.getElem_mem _))
      rw [runs_take C k hk]
      unfold rStep
      refine ⟨by dsimp only; omega, by dsimp only; omega, ?_, ?_⟩
      · dsimp only; split
        · simp; omega
        · omega
      · dsimp only; split
        · intro q hq
          rcases List.mem_append.1 hq with hq | hq
          · exact h4 q hq
          · obtain rfl := List.mem_singleton.1 hq; dsimp only; omega
        · exact h4
  have := key C.length (Nat.le_refl _)
  rwa [List.take_length] at this

/-- The sum of the runs. -/
def sumR : List (Int × Int) → Int
  | [] => 0
  | q :: r => (q.2 - q.1) + sumR r
theorem sumR_snoc (l : List (Int × Int)) (q : Int × Int) : sumR (l ++ [q]) = sumR l + (q.2 - q.1) := by
  induction l with
  | nil => show q.2 - q.1 + 0 = 0 + (q.2 - q.1); omega
  | cons p r ih => show p.2 - p.1 + sumR (r ++ [q]) = p.2 - p.1 + sumR r + (q.2 - q.1); rw [ih]; omega
theorem can_step : ∀ (C : List (Int × Int)), Can C → ∀ (i : Nat) (h : i + 1 < C.length), (C[i]'(by omega)).2 < (C[i + 1]).1 := by
  intro C
  induction C with
  | nil => intro _ i h; cases h
  | cons p r ih =>
    intro hC i h
    match i, h with
    | 0, h => exact hC.2.1 _ (List.getElem_mem _)
    | i + 1, h => exact ih hC.2.2 i (by simpa using h)

/-- Is a day touched? -/
def dayIn (C : List (Int × Int)) (x : Int) : Bool := C.any fun p => decide (p.1 / 86400 ≤ x) && decide (x ≤ (p.2 - 1) / 86400)
theorem dayIn_iff (C : List (Int × Int)) (x : Int) : dayIn C x = true ↔ ∃ p ∈ C, p.1 / 86400 ≤ x ∧ x ≤ (p.2 - 1) / 86400 := by
  unfold dayIn; simp
theorem dayIn_snoc (l : List (Int × Int)) (p : Int × Int) (x : Int) : dayIn (l ++ [p]) x = (dayIn l x || (decide (p.1 / 86400 ≤ x) && decide (x ≤ (p.2 - 1) / 86400))) := by
  unfold dayIn; simp
theorem cntB_far (p : Int → Bool) (m : Int) (h : ∀ x, p x = true → x < m) : ∀ n : Nat, m ≤ n → ∀ k : Nat, n ≤ k → cntB p k = cntB p n := by
  intro n hn k hk
  induction k with
  | zero => rw [show n = 0 by omega]
  | succ k ih =>
    by_cases e : n = k + 1
    · rw [e]
    · show cntB p k + (if p k = true then 1 else 0) = _
      rw [ih (by omega), if_neg (fun h2 => by have := h _ h2; omega)]
      omega
/-- Both counts are the number of days touched. -/
theorem days_count (C : List (Int × Int)) (hC : Can C) (hI : InT C) (N : Nat) (hN : (N : Int) = 146097) :
    sumR (runsF C).2 = cntB (dayIn C) N ∧ (daysF C).1 = cntB (dayIn C) N := by
  have key : ∀ k, k ≤ C.length → sumR (runsF (C.take k)).2 = cntB (dayIn (C.take k)) N ∧ (daysF (C.take k)).1 = cntB (dayIn (C.take k)) N ∧ (runsF (C.take k)).1 = (daysF (C.take k)).2 ∧
      (∀ x, dayIn (C.take k) x = true → x < (daysF (C.take k)).2) ∧ (0 < k → (daysF (C.take k)).2 = ((C.getD (k - 1) (0, 0)).2 - 1) / 86400 + 1 ∧ dayIn (C.take k) (((C.getD (k - 1) (0, 0)).2 - 1) / 86400) = true) ∧ (k = 0 → (daysF (C.take k)).2 = 0) := by
    intro k
    induction k with
    | zero =>
      intro _
      rw [List.take_zero]
      exact ⟨(cntB_none (dayIn []) (fun _ => rfl) N).symm, (cntB_none (dayIn []) (fun _ => rfl) N).symm, rfl, fun x h => (by have h2 : false = true := h; cases h2), fun h => absurd h (by omega), fun _ => rfl⟩
    | succ k ih =>
      intro hk
      obtain ⟨h1, h2, h3, h4, h5, h5'⟩ := ih (by omega)
      have hq := hI C[k] (List.getElem_mem _)
      have h6 := day_bd hq
      have hbd := daysF_bd (C.take k) (fun q hq => hI q (List.mem_of_mem_take hq))
      have hprev : (daysF (C.take k)).2 ≤ (C[k].1 / 86400) + 1 := by
        by_cases k0 : k = 0
        · have := h5' k0; omega
        · have e := (h5 (by omega)).1
          have hs := can_step C hC (k - 1) (by omega)
          have e2 : C.getD (k - 1) (0, 0) = C[k - 1] := by simp [List.getD, show k - 1 < C.length by omega]
          rw [e2] at e
          have e3 : C[k - 1 + 1]'(by omega) = C[k] := by congr 1; omega
          rw [e3] at hs
          omega
      have e4 : C.getD (k + 1 - 1) (0, 0) = C[k] := by simp [List.getD, show k < C.length by omega]
      rw [runs_take C k hk, days_take C k hk, List.take_succ_eq_append_getElem hk, e4]
      generalize hp : C[k] = p at *
      generalize daysF (C.take k) = D at *
      generalize runsF (C.take k) = R at *
      obtain ⟨n, nx⟩ := D
      obtain ⟨nx2, L⟩ := R
      dsimp only at h1 h2 h3 h4 hbd hprev
      subst h3
      have dnew : ∀ x, dayIn (C.take k ++ [p]) x = (dayIn (C.take k) x || (decide (p.1 / 86400 ≤ x) && decide (x ≤ (p.2 - 1) / 86400))) := fun x => dayIn_snoc _ _ _
      have split2 : ∀ x, dayIn (C.take k ++ [p]) x = (dayIn (C.take k) x || (decide (max (p.1 / 86400) nx2 ≤ x) && decide (x < (p.2 - 1) / 86400 + 1))) := by
        intro x
        rw [dnew]
        by_cases hd : dayIn (C.take k) x = true
        · rw [hd]; rfl
        · rw [show dayIn (C.take k) x = false by simpa using hd, Bool.false_or, Bool.false_or]
          rw [Bool.eq_iff_iff, Bool.and_eq_true, Bool.and_eq_true]
          simp only [decide_eq_true_eq]
          constructor
          · rintro ⟨a1, a2⟩
            refine ⟨?_, by omega⟩
            by_cases hx : x < nx2
            · exfalso
              have k0 : 0 < k := by
                rcases Nat.eq_zero_or_pos k with e | e
                · have := h5' e; dsimp only at this; omega
                · exact e
              obtain ⟨b1, b2⟩ := h5 k0
              dsimp only at b1
              have : x = ((C.getD (k - 1) (0, 0)).2 - 1) / 86400 := by omega
              rw [this] at hd
              exact hd b2
            · omega
          · rintro ⟨a1, a2⟩
            omega
      have hcnt : cntB (dayIn (C.take k ++ [p])) N = cntB (dayIn (C.take k)) N + (min ((p.2 - 1) / 86400 + 1) N - min (max (p.1 / 86400) nx2) N) ∨ (p.2 - 1) / 86400 + 1 < max (p.1 / 86400) nx2 := by
        by_cases hle : max (p.1 / 86400) nx2 ≤ (p.2 - 1) / 86400 + 1
        · left
          rw [cntB_or (dayIn (C.take k)) (fun x => decide (max (p.1 / 86400) nx2 ≤ x) && decide (x < (p.2 - 1) / 86400 + 1)) _ split2 (fun x ⟨a1, a2⟩ => by
            have := h4 x a1
            simp at a2
            omega) N, cntB_one _ _ (by omega) hle N]
        · right; omega
      have hN2 : (p.2 - 1) / 86400 + 1 ≤ (N : Int) := by omega
      have hmx : max (p.1 / 86400) nx2 ≤ (p.2 - 1) / 86400 + 1 := by omega
      have hcnt2 : cntB (dayIn (C.take k ++ [p])) N = cntB (dayIn (C.take k)) N + ((p.2 - 1) / 86400 + 1 - max (p.1 / 86400) nx2) := by
        rcases hcnt with h | h
        · rw [h]; omega
        · omega
      have hin2 : dayIn (C.take k ++ [p]) ((p.2 - 1) / 86400) = true := by
        rw [dnew, Bool.or_eq_true, Bool.and_eq_true]
        exact Or.inr ⟨decide_eq_true (by omega), decide_eq_true (Int.le_refl _)⟩
      unfold rStep dStep
      dsimp only
      by_cases hlt : max (p.1 / 86400) nx2 < (p.2 - 1) / 86400 + 1
      · rw [if_pos hlt, if_pos (by omega)]
        refine ⟨by rw [sumR_snoc, h1, hcnt2], by rw [hcnt2]; dsimp only; omega, rfl, ?_, fun _ => ⟨rfl, hin2⟩, fun h => absurd h (by omega)⟩
        intro x hx
        rw [split2, Bool.or_eq_true] at hx
        rcases hx with hx | hx
        · have := h4 x hx; dsimp only; omega
        · simp at hx; dsimp only; omega
      · rw [if_neg hlt, if_neg (by omega)]
        refine ⟨by rw [h1, hcnt2]; omega, by rw [hcnt2]; dsimp only; omega, by dsimp only; omega, ?_, fun _ => ⟨by dsimp only; omega, hin2⟩, fun h => absurd h (by omega)⟩
        intro x hx
        rw [split2, Bool.or_eq_true] at hx
        rcases hx with hx | hx
        · have := h4 x hx; dsimp only; omega
        · simp at hx; dsimp only; omega
  have h := key C.length (Nat.le_refl _)
  rw [List.take_length] at h
  exact ⟨h.1, h.2.1⟩
end Go.Proofs.Ytimclpgkdplnhaa
