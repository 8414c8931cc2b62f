/-
  The plain law of ladders: what a ladder is, when it is valid, what units cost. No program in sight.
-/
import Derived.Below
import Derived.Lib.Hide
namespace Go.Proofs.YtohmdohbmmbbkaaDoor
open Go.RowKit

structure St where
  u : Int
  q : Int
  p : Int
  deriving DecidableEq

instance : Inhabited St := ⟨⟨0, 1, 0⟩⟩

/-- A step whose numbers are in range. -/
def St.ok (s : St) : Prop := 0 ≤ s.u ∧ s.u ≤ 1099511627776 ∧ 1 ≤ s.q ∧ s.q ≤ 1099511627776 ∧ 0 ≤ s.p ∧ s.p ≤ 1125899906842624

instance (s : St) : Decidable s.ok := by unfold St.ok; infer_instance

/-- The first error of the steps that follow a bound. -/
def errF : List St → Int → Int
  | [], _ => 0
  | s :: r, b => if ¬ s.ok then 6 else if (decide (s.u = 0)) ≠ r.isEmpty then 8 else if s.u ≠ 0 ∧ s.u ≤ b then 9 else errF r s.u

/-- The first error of a ladder. -/
def errL (l : List St) : Int := if l.length = 0 then 8 else if 64 < l.length then 5 else errF l 0

/-- What a step costs alone. -/
def costS (s : St) (k : Int) : Int := (k + s.q - 1) / s.q * s.p

/-- How many of n units fall into a step behind a bound. -/
def inS (s : St) (b n : Int) : Int := max 0 ((if s.u ≠ 0 ∧ s.u < n then s.u else n) - b)

/-- What n units cost, from a bound on. -/
def totF : List St → Int → Int → Int
  | [], _, _ => 0
  | s :: r, b, n => costS s (inS s b n) + totF r s.u n

def tot (l : List St) (n : Int) : Int := totF l 0 n

/-- The price and the error. -/
def priceL (l : List St) (n : Int) : Int × Int := if errL l ≠ 0 then (0, 8) else if n < 0 ∨ 1099511627776 < n then (0, 6) else if 1125899906842624 < tot l n then (0, 6) else (tot l n, 0)

def betweenL (l : List St) (f n : Int) : Int × Int :=
  if errL l ≠ 0 then (0, 8) else if f < 0 ∨ n < 0 ∨ 1099511627776 < f ∨ 1099511627776 - f < n then (0, 6) else if 1125899906842624 < tot l (f + n) then (0, 6) else (tot l (f + n) - tot l f, 0)

/-- What the loop of the checker knows behind k steps: the bound there. -/
def lastU (l : List St) (k : Nat) : Int := if k = 0 then 0 else (l.getD (k - 1) default).u

theorem lastU_zero (l : List St) : lastU l 0 = 0 := rfl
theorem lastU_succ (l : List St) (k : Nat) (h : k < l.length) : lastU l (k + 1) = l[k].u := by
  simp [lastU, List.getD, List.getElem?_eq_getElem h]

theorem drop_cons (l : List St) (k : Nat) (h : k < l.length) : l.drop k = l[k] :: l.drop (k + 1) := List.drop_eq_getElem_cons h

/-- What one round of the checker does to its answer. -/
def errK (s : St) (last : Bool) (bd n : Int) : Int := if ¬ s.ok then 6 else if (decide (s.u = 0)) ≠ last then 8 else if s.u ≠ 0 ∧ s.u ≤ bd then 9 else n

theorem errF_step (l : List St) (k : Nat) (h : k < l.length) : errF (l.drop k) (lastU l k) =
    errK l[k] (decide (k + 1 = l.length)) (lastU l k) (errF (l.drop (k + 1)) (lastU l (k + 1))) := by
  unfold errK
  rw [drop_cons l k h, errF, lastU_succ l k h]
  have : (l.drop (k + 1)).isEmpty = decide (k + 1 = l.length) := by
    rw [Bool.eq_iff_iff]; simp [List.isEmpty_iff]; omega
  rw [this]

theorem errF_end (l : List St) (k : Nat) (h : l.length ≤ k) (b : Int) : errF (l.drop k) b = 0 := by
  rw [List.drop_of_length_le h]; rfl

/-! ### Costs -/

theorem ceil_mono {q a b : Int} (hq : 1 ≤ q) (h : a ≤ b) : (a + q - 1) / q ≤ (b + q - 1) / q := Int.ediv_le_ediv (by omega) (by omega)
theorem ceil_zero {q : Int} (hq : 1 ≤ q) : (0 + q - 1) / q = 0 := Int.ediv_eq_zero_of_lt (by omega) (by omega)
theorem ceil_nonneg {q a : Int} (hq : 1 ≤ q) (h : 0 ≤ a) : 0 ≤ (a + q - 1) / q := Int.ediv_nonneg (by omega) (by omega)

theorem costS_zero {s : St} (h : s.ok) : costS s 0 = 0 := by
  unfold costS; rw [ceil_zero h.2.2.1]; simp
theorem costS_nonneg {s : St} (h : s.ok) {k : Int} (hk : 0 ≤ k) : 0 ≤ costS s k := Int.mul_nonneg (ceil_nonneg h.2.2.1 hk) h.2.2.2.2.1
theorem costS_mono {s : St} (h : s.ok) {a b : Int} (hab : a ≤ b) : costS s a ≤ costS s b := Int.mul_le_mul_of_nonneg_right (ceil_mono h.2.2.1 hab) h.2.2.2.2.1

theorem inS_nonneg (s : St) (b n : Int) : 0 ≤ inS s b n := by unfold inS; omega
theorem inS_mono (s : St) (b : Int) {n m : Int} (h : n ≤ m) : inS s b n ≤ inS s b m := by unfold inS; split <;> split <;> omega
theorem inS_done (s : St) {b n : Int} (h : n ≤ b) : inS s b n = 0 := by unfold inS; split <;> omega

def OkF (l : List St) (b : Int) : Prop := errF l b = 0

theorem OkF.cons {s : St} {r : List St} {b : Int} (h : OkF (s :: r) b) : s.ok ∧ (s.u = 0 ↔ r = []) ∧ (s.u ≠ 0 → b < s.u) ∧ OkF r s.u := by
  unfold OkF at *
  rw [errF] at h
  split at h
  · cases h
  · rename_i h1
    split at h
    · cases h
    · rename_i h2
      split at h
      · cases h
      · rename_i h3
        refine ⟨Decidable.not_not.1 h1, ?_, fun hu => ?_, h⟩
        · have h2' := Decidable.not_not.1 h2
          rw [← List.isEmpty_iff, ← h2']; simp
        · by_cases hb : b < s.u
          · exact hb
          · exact absurd ⟨hu, by omega⟩ h3

theorem totF_nonneg : ∀ (l : List St) (b n : Int), OkF l b → 0 ≤ totF l b n
  | [], _, _, _ => Int.le_refl _
  | s :: r, b, n, h => by
    obtain ⟨hs, _, _, hr⟩ := h.cons
    have := totF_nonneg r s.u n hr
    have := costS_nonneg hs (inS_nonneg s b n)
    unfold totF; omega

theorem totF_mono : ∀ (l : List St) (b : Int) {n m : Int}, OkF l b → n ≤ m → totF l b n ≤ totF l b m
  | [], _, _, _, _, _ => Int.le_refl _
  | s :: r, b, n, m, h, hnm => by
    obtain ⟨hs, _, _, hr⟩ := h.cons
    have := totF_mono r s.u hr hnm
    have := costS_mono hs (inS_mono s b hnm)
    unfold totF; omega

/-- Units up to the bound cost nothing behind it. -/
theorem totF_done : ∀ (l : List St) (b n : Int), OkF l b → n ≤ b → totF l b n = 0
  | [], _, _, _, _ => rfl
  | s :: r, b, n, h, hn => by
    obtain ⟨hs, h0, h1, hr⟩ := h.cons
    unfold totF
    rw [inS_done s hn, costS_zero hs]
    by_cases hu : s.u = 0
    · rw [h0.1 hu]; rfl
    · have := h1 hu
      rw [totF_done r s.u n hr (by omega)]; rfl

theorem errL_ok {l : List St} (h : errL l = 0) : 1 ≤ l.length ∧ l.length ≤ 64 ∧ OkF l 0 := by
  unfold errL at h
  split at h
  · cases h
  · split at h
    · cases h
    · exact ⟨by omega, by omega, h⟩

theorem tot_nonneg {l : List St} (h : errL l = 0) (n : Int) : 0 ≤ tot l n := totF_nonneg l 0 n (errL_ok h).2.2
theorem tot_mono {l : List St} (h : errL l = 0) {n m : Int} (hnm : n ≤ m) : tot l n ≤ tot l m := totF_mono l 0 (errL_ok h).2.2 hnm
theorem tot_zero {l : List St} (h : errL l = 0) : tot l 0 = 0 := totF_done l 0 0 (errL_ok h).2.2 (Int.le_refl _)
end Go.Proofs.YtohmdohbmmbbkaaDoor
