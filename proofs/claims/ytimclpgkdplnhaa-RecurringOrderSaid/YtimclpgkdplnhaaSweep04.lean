/-
  The program's sweep over sorted changes, in plain Lean: a canonical list, and the instants in it are those of the condition.
-/
import Derived.Test.YtimclpgkdplnhaaChosen04
namespace Go.Proofs.Ytimclpgkdplnhaa
open Go.RowKit

/-- The changes of a list's valid periods: instant, list, by. -/
def chg (j : Int) (ps : List (Int × Int)) : List (Int × Int × Int) := ps.flatMap fun p => if validB p.1 p.2 = true then [(p.1, j, 1), (p.2, j, -1)] else []
/-- The sum of the changes of a list up to an instant. -/
def cnt (j x : Int) : List (Int × Int × Int) → Int
  | [] => 0
  | c :: r => (if c.2.1 = j ∧ c.1 ≤ x then c.2.2 else 0) + cnt j x r
theorem cnt_append (j x : Int) (a b : List (Int × Int × Int)) : cnt j x (a ++ b) = cnt j x a + cnt j x b := by
  induction a with
  | nil => show cnt j x b = 0 + cnt j x b; omega
  | cons c r ih => show (if c.2.1 = j ∧ c.1 ≤ x then c.2.2 else 0) + cnt j x (r ++ b) = (if c.2.1 = j ∧ c.1 ≤ x then c.2.2 else 0) + cnt j x r + cnt j x b; rw [ih]; omega
theorem cnt_perm (j x : Int) {a b : List (Int × Int × Int)} (h : a.Perm b) : cnt j x a = cnt j x b := by
  induction h with
  | nil => rfl
  | cons c _ ih => show _ + cnt j x _ = _ + cnt j x _; rw [ih]
  | swap c d l =>
    show (if d.2.1 = j ∧ d.1 ≤ x then d.2.2 else 0) + ((if c.2.1 = j ∧ c.1 ≤ x then c.2.2 else 0) + cnt j x l) = (if c.2.1 = j ∧ c.1 ≤ x then c.2.2 else 0) + ((if d.2.1 = j ∧ d.1 ≤ x then d.2.2 else 0) + cnt j x l)
    omega
  | trans _ _ h1 h2 => exact h1.trans h2
theorem cnt_late (j x : Int) (l : List (Int × Int × Int)) (h : ∀ c ∈ l, x < c.1) : cnt j x l = 0 := by
  induction l with
  | nil => rfl
  | cons c r ih =>
    have h1 := h c (by simp)
    show (if c.2.1 = j ∧ c.1 ≤ x then c.2.2 else 0) + cnt j x r = 0
    rw [ih fun d hd => h d (by simp [hd]), if_neg (by omega)]
    rfl
theorem cnt_early (j x y : Int) (l : List (Int × Int × Int)) (h : ∀ c ∈ l, c.1 ≤ x ∧ c.1 ≤ y) : cnt j x l = cnt j y l := by
  induction l with
  | nil => rfl
  | cons c r ih =>
    have h1 := h c (by simp)
    show (if c.2.1 = j ∧ c.1 ≤ x then c.2.2 else 0) + cnt j x r = (if c.2.1 = j ∧ c.1 ≤ y then c.2.2 else 0) + cnt j y r
    rw [ih fun d hd => h d (by simp [hd])]
    by_cases e : c.2.1 = j
    · rw [if_pos ⟨e, h1.1⟩, if_pos ⟨e, h1.2⟩]
    · rw [if_neg fun h => e h.1, if_neg fun h => e h.1]
theorem chg_cons (j : Int) (p : Int × Int) (r : List (Int × Int)) : chg j (p :: r) = (if validB p.1 p.2 = true then [(p.1, j, 1), (p.2, j, -1)] else []) ++ chg j r := rfl
theorem cnt_other (j i x : Int) (hij : i ≠ j) (ps : List (Int × Int)) : cnt j x (chg i ps) = 0 := by
  induction ps with
  | nil => rfl
  | cons p r ih =>
    rw [chg_cons, cnt_append, ih]
    split
    · simp [cnt, hij]
    · rfl
theorem cnt_own (j x : Int) (ps : List (Int × Int)) : 0 ≤ cnt j x (chg j ps) ∧ (0 < cnt j x (chg j ps) ↔ inL ps x = true) := by
  induction ps with
  | nil => exact ⟨Int.le_refl _, by simp [chg, cnt, inL]⟩
  | cons p r ih =>
    have e : inL (p :: r) x = (containsB p.1 p.2 x || inL r x) := rfl
    rw [chg_cons, cnt_append, e, Bool.or_eq_true, ← ih.2, containsB_iff, ← validB_iff]
    by_cases hv : validB p.1 p.2 = true
    · have hv2 := (validB_iff _ _).1 hv
      rw [if_pos hv]
      have e2 : cnt j x [(p.1, j, 1), (p.2, j, -1)] = (if p.1 ≤ x then 1 else 0) + (if p.2 ≤ x then -1 else 0) := by simp [cnt]
      rw [e2]
      have := ih.1
      simp only [hv, true_and]
      split <;> split <;> constructor <;> omega
    · rw [if_neg hv]
      have := ih.1
      have e3 : cnt j x [] + cnt j x (chg j r) = cnt j x (chg j r) := by show 0 + _ = _; omega
      refine ⟨by omega, ?_⟩
      constructor
      · intro h; exact Or.inr (by omega)
      · rintro (h | h)
        · exact absurd h.1 hv
        · omega

/-- The sweep's state: the two counters, whether it is inside, what it has found. -/
def bump (o : Int × Int) (c : Int × Int × Int) : Int × Int := if c.2.1 = 0 then (o.1 + c.2.2, o.2) else (o.1, o.2 + c.2.2)
def swOut (O : List (Int × Int)) (ins now : Bool) (t : Int) : List (Int × Int) :=
  if now = true ∧ ins = false then O ++ [(t, 0)] else if now = false ∧ ins = true then O.dropLast ++ [((O.getLast?.getD (0, 0)).1, t)] else O
def swStep (is : Bool → Bool → Bool) (S : List (Int × Int × Int)) (k : Nat) (s : (Int × Int) × Bool × List (Int × Int)) : (Int × Int) × Bool × List (Int × Int) :=
  let c := S.getD k (0, 0, 0)
  let o := bump s.1 c
  if k + 1 < S.length ∧ (S.getD (k + 1) (0, 0, 0)).1 = c.1 then (o, s.2)
  else (o, is (decide (0 < o.1)) (decide (0 < o.2)), swOut s.2.2 s.2.1 (is (decide (0 < o.1)) (decide (0 < o.2))) c.1)
def swUpto (is : Bool → Bool → Bool) (S : List (Int × Int × Int)) : Nat → (Int × Int) × Bool × List (Int × Int)
  | 0 => ((0, 0), false, [])
  | k + 1 => swStep is S k (swUpto is S k)

/-- The sum of a list's changes. -/
def totC (j : Int) : List (Int × Int × Int) → Int
  | [] => 0
  | c :: r => (if c.2.1 = j then c.2.2 else 0) + totC j r
theorem tot_snoc (j : Int) (l : List (Int × Int × Int)) (c : Int × Int × Int) : totC j (l ++ [c]) = totC j l + (if c.2.1 = j then c.2.2 else 0) := by
  induction l with
  | nil => show _ + 0 = 0 + _; omega
  | cons d r ih => show _ + totC j (r ++ [c]) = _ + totC j r + _; rw [ih]; omega
theorem cnt_tot (j x : Int) (l : List (Int × Int × Int)) (h : ∀ c ∈ l, c.1 ≤ x) : cnt j x l = totC j l := by
  induction l with
  | nil => rfl
  | cons c r ih =>
    have h1 := h c (by simp)
    show (if c.2.1 = j ∧ c.1 ≤ x then c.2.2 else 0) + cnt j x r = (if c.2.1 = j then c.2.2 else 0) + totC j r
    rw [ih fun d hd => h d (by simp [hd])]
    by_cases e : c.2.1 = j
    · rw [if_pos ⟨e, h1⟩, if_pos e]
    · rw [if_neg fun h => e h.1, if_neg e]
theorem sw_open (is : Bool → Bool → Bool) (S : List (Int × Int × Int)) (hl : ∀ c ∈ S, c.2.1 = 0 ∨ c.2.1 = 1) : ∀ k, k ≤ S.length → (swUpto is S k).1 = (totC 0 (S.take k), totC 1 (S.take k)) := by
  intro k
  induction k with
  | zero => intro _; rfl
  | succ k ih =>
    intro hk
    have hk' : k < S.length := hk
    have e1 : (swUpto is S (k + 1)).1 = bump (swUpto is S k).1 (S.getD k (0, 0, 0)) := by
      show (swStep is S k (swUpto is S k)).1 = _
      unfold swStep
      simp only []
      split <;> rfl
    have e2 : S.getD k (0, 0, 0) = S[k] := by simp [List.getD, hk']
    rw [e1, ih (by omega), e2, List.take_succ_eq_append_getElem hk', tot_snoc, tot_snoc]
    unfold bump
    rcases hl S[k] (List.getElem_mem hk') with h | h
    · rw [if_pos h, if_pos h, if_neg (by omega)]
      simp
    · rw [if_neg (by omega), if_neg (by omega), if_pos h]
      simp
end Go.Proofs.Ytimclpgkdplnhaa
