/-
  What the segments of a usage are like: they follow one another, each in its band, and their units are those that remain.
-/
import Derived.Test.YtnekgkmlodeckaaMgbq
namespace Go.Proofs.Ytnekgkmlodeckaa
open Go.RowKit

/-- The units of the first segments. -/
def sumU (L : List Sg) (k : Nat) : Int := ((L.take k).map (fun g => g.2.2.1)).sum
theorem sumU_zero (L : List Sg) : sumU L 0 = 0 := rfl
theorem sumU_succ {L : List Sg} {k : Nat} (h : k < L.length) : sumU L (k + 1) = sumU L k + L[k].2.2.1 := by
  unfold sumU
  rw [List.take_succ_eq_append_getElem h, List.map_append, List.sum_append]
  simp
theorem sumU_cons (g : Sg) (L : List Sg) (k : Nat) : sumU (g :: L) (k + 1) = g.2.2.1 + sumU L k := by
  unfold sumU; rw [List.take_succ_cons, List.map_cons, List.sum_cons]
theorem rle_units {g : Int → ByteArray} {x : Int} : ∀ (P : List Pc) (a : Int), Rle g a x P → (∀ k (h : k < P.length), P[k].2.1 = a + sumU (P.map segOf) k ∧ P[k].2.1 < P[k].2.2 ∧ g P[k].2.1 = P[k].1 ∧ g (P[k].2.2 - 1) = P[k].1 ∧ (∀ j (hj : j + 1 = k), P[k].1 ≠ (P[j]'(by omega)).1)) ∧ a + sumU (P.map segOf) P.length = x
  | [], a, h => ⟨fun k h => (by cases h), (by
      have h : a = x := h
      rw [List.map_nil, List.length_nil, sumU_zero]
      omega)⟩
  | p :: r, a, ⟨h1, h2, h3, h4, h5, h6⟩ => by
    obtain ⟨ih, it⟩ := rle_units r p.2.2 h6
    refine ⟨fun k hk => ?_, ?_⟩
    · cases k with
      | zero =>
        refine ⟨?_, ?_, ?_, ?_, fun j hj => (by omega)⟩
        · rw [sumU_zero]
          show p.2.1 = a + 0
          omega
        · show p.2.1 < p.2.2
          omega
        · show g p.2.1 = p.1
          exact h3 _ (by omega) (by omega)
        · show g (p.2.2 - 1) = p.1
          exact h3 _ (by omega) (by omega)
      | succ k =>
        have hk' : k < r.length := by simpa using hk
        obtain ⟨i1, i2, i3, i4, i5⟩ := ih k hk'
        refine ⟨?_, i2, i3, i4, fun j hj => ?_⟩
        · show r[k].2.1 = a + sumU (segOf p :: r.map segOf) (k + 1)
          rw [sumU_cons, i1]
          show p.2.2 + sumU (r.map segOf) k = a + (p.2.2 - p.2.1 + sumU (r.map segOf) k)
          omega
        · obtain rfl : j = k := by omega
          cases j with
          | zero =>
            show r[0].1 ≠ p.1
            rw [← i3, i1, sumU_zero, Int.add_zero]
            rcases h5 with h5 | h5
            · subst h5
              cases hk'
            · exact h5
          | succ j => exact i5 j rfl
    · show a + sumU (segOf p :: r.map segOf) (r.length + 1) = x
      rw [sumU_cons]
      show a + (p.2.2 - p.2.1 + sumU (r.map segOf) r.length) = x
      omega
/-- The segments follow one another, each in its band. -/
def UnitsOk (bs : List Bn) (hol : List Int) (both : Prop) (b : Int) (L : List Sg) : Prop :=
  ∀ k (h : k < L.length), L[k].2.1 = b + sumU L k ∧ 1 ≤ L[k].2.2.1 ∧ L[k].2.2.2 = 0 ∧ atB bs hol L[k].2.1 = L[k].1 ∧ (both → atB bs hol (L[k].2.1 + L[k].2.2.1 - 1) = L[k].1) ∧ (∀ j (hj : j + 1 = k), L[k].1 ≠ (L[j]'(by omega)).1) ∧ 0 ≤ sumU L k ∧ L[k].2.2.1 ≤ 1099511627776 ∧ sumU L k ≤ 12622780800
theorem segR_units {bs : List Bn} {hol : List Int} {sl : Bool} {u : Us} {free : Int} {L : List Sg} (h : SegR bs hol sl u free L) (hne : L ≠ []) :
    properP u free = true ∧ UnitsOk bs hol (u.kd = 1 ∧ sl = true) (beginU u free) L ∧ sumU L L.length = u.un - free ∧ (¬ (u.kd = 1 ∧ sl = true) → L.length = 1) := by
  unfold SegR at h
  by_cases h1 : properP u free = true ∧ checkB bs = 0
  · rw [if_pos h1] at h
    have hb := proper_bounds h1.1
    by_cases h2 : u.kd = 1 ∧ sl = true
    · rw [if_pos h2] at h
      obtain ⟨P, hP, rfl⟩ := h
      have hbd := (cutR_bounds hP).2
      have hbe : beginU u free = u.st + free := if_pos h2.1
      have hok : cutOk bs (beginU u free) (u.st + u.un) := by
        by_cases ho : cutOk bs (beginU u free) (u.st + u.un)
        · exact ho
        · exact absurd (by rw [hP.2 ho]; rfl) hne
      obtain ⟨hu, ht⟩ := rle_units P _ (hP.1 hok)
      have hin : ∀ t, 0 ≤ t → t < 12622780800 → atB bs hol t = bandAt bs hol t := fun t h0 h3 => if_pos ⟨h1.2, h0, h3⟩
      refine ⟨h1.1, fun k hk => ?_, ?_, fun hn => absurd h2 hn⟩
      · have hk' : k < P.length := by simpa using hk
        obtain ⟨a1, a2, a3, a4, a5⟩ := hu k hk'
        obtain ⟨b1, b2, b3⟩ := hbd k hk'
        simp only [List.getElem_map]
        refine ⟨a1, ?_, rfl, ?_, fun _ => ?_, fun j hj => ?_, ?_, ?_, ?_⟩
        · show 1 ≤ P[k].2.2 - P[k].2.1
          omega
        · show atB bs hol P[k].2.1 = P[k].1
          rw [hin _ (by omega) (by omega), a3]
        · show atB bs hol (P[k].2.1 + (P[k].2.2 - P[k].2.1) - 1) = P[k].1
          rw [show P[k].2.1 + (P[k].2.2 - P[k].2.1) - 1 = P[k].2.2 - 1 by omega, hin _ (by omega) (by omega), a4]
        · exact a5 j hj
        · have hs : ∀ k, 0 ≤ sumU (P.map segOf) k := fun k => by
            induction k with
            | zero => exact Int.le_refl _
            | succ k ih =>
              by_cases hk2 : k < (P.map segOf).length
              · rw [sumU_succ hk2, List.getElem_map]
                have := hbd k (by simpa using hk2)
                show 0 ≤ sumU (P.map segOf) k + ((P[k]'(by simpa using hk2)).2.2 - (P[k]'(by simpa using hk2)).2.1)
                omega
              · have e : sumU (P.map segOf) (k + 1) = sumU (P.map segOf) k := by
                  unfold sumU
                  rw [List.take_of_length_le (by omega), List.take_of_length_le (by omega)]
                rw [e]
                exact ih
          exact hs k
        · show P[k].2.2 - P[k].2.1 ≤ 1099511627776
          omega
        · omega
      · rw [List.length_map]
        omega
    · rw [if_neg h2] at h
      subst h
      refine ⟨h1.1, fun k hk => ?_, ?_, fun _ => rfl⟩
      · obtain rfl : k = 0 := by simpa using hk
        refine ⟨?_, ?_, rfl, rfl, fun h => absurd h h2, fun j hj => (by omega), Int.le_refl _, ?_, (by rw [sumU_zero]; decide)⟩
        · rw [sumU_zero]
          show beginU u free = beginU u free + 0
          omega
        · show 1 ≤ u.un - free
          omega
        · show u.un - free ≤ _
          omega
      · show sumU [_] 1 = _
        rw [sumU_cons]
        show u.un - free + 0 = _
        omega
  · rw [if_neg h1] at h
    exact absurd h hne
end Go.Proofs.Ytnekgkmlodeckaa
