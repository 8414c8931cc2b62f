/-
  The walks of slices.IndexFunc and slices.DeleteFunc at periods.
-/
import Derived.Test.YtngippiilgdnoaaGreatMpbb
import Derived.Test.YtngippiilgdnoaaGreatMpaq
import Derived.Test.YtngippiilgdnoaaGreatMpar
import Derived.Lib.SliceRun
namespace Go.Proofs.YtngippiilgdnoaaGreat
open Go.RowKit

/-- The first records of an owned row. -/
theorem rec_front {α : Type} {c : α → List Value} {sz : Nat} (hc : ∀ a, (c a).length = sz) {w : World} {base : Nat} {e : TypeId} {g cap n : Nat} {xs : List Value} (h : w.ownsRow base e sz (.slice (some ⟨g, 0, none⟩) n cap) n xs)
    (K : List α) (hK : K.length ≤ n) (hx : ∀ t, t < K.length * sz → xs[t]? = (K.flatMap c)[t]?) : RecAt c sz w (.slice (some ⟨g, 0, none⟩) K.length cap) K := by
  rcases h.2 with ⟨h0, -⟩ | ⟨g', cap', cur, hv, -, hg, hn, hm, -, -⟩
  · cases h0
  cases hv
  refine ⟨_, cap, rfl, by omega, ⟨hm, fun h => by cases h⟩, fun _ => ⟨g, 0, rfl, (Array.getElem?_eq_some_iff.1 hg).1, fun i hi j hj => ?_⟩⟩
  have h1 : (i + 1) * sz ≤ K.length * sz := Nat.mul_le_mul_right _ hi
  have h2 : K.length * sz ≤ n * sz := Nat.mul_le_mul_right _ hK
  rw [Nat.succ_mul] at h1
  rw [Nat.zero_add, h.cellAt _ (by omega), hx _ (by omega), flat_get c sz hc K i j hi hj]

/-- A row of which some were struck out. -/
def DelInv (keep : Int × Int → Bool) (L R : List (Int × Int)) (i j : Nat) : Prop := i < j ∧ R.length = L.length ∧ R.take i = (L.take j).filter keep ∧ R.drop j = L.drop j
theorem DelInv.at {keep : Int × Int → Bool} {L R : List (Int × Int)} {i j : Nat} (h : DelInv keep L R i j) (hj : j < L.length) : R[j]? = some L[j] := by
  have h1 := congrArg (fun z => z[0]?) h.2.2.2
  simpa [List.getElem?_drop, List.getElem?_eq_getElem hj] using h1
theorem DelInv.keep {keep : Int × Int → Bool} {L R : List (Int × Int)} {i j : Nat} (h : DelInv keep L R i j) (hj : j < L.length) (hk : keep L[j] = true) : DelInv keep L (R.set i L[j]) (i + 1) (j + 1) := by
  obtain ⟨h1, h2, h3, h4⟩ := h
  have hi : i < R.length := by omega
  refine ⟨by omega, by rw [List.length_set]; exact h2, ?_, ?_⟩
  · rw [filter_take _ _ _ hj, if_pos hk, ← h3, List.take_succ_eq_append_getElem (by rw [List.length_set]; exact hi), List.getElem_set_self, List.take_set_of_le (Nat.le_refl _)]
  · rw [List.drop_set_of_lt (by omega), ← List.tail_drop, h4, List.tail_drop]
theorem DelInv.skip {keep : Int × Int → Bool} {L R : List (Int × Int)} {i j : Nat} (h : DelInv keep L R i j) (hj : j < L.length) (hk : keep L[j] = false) : DelInv keep L R i (j + 1) := by
  obtain ⟨h1, h2, h3, h4⟩ := h
  refine ⟨by omega, h2, ?_, ?_⟩
  · rw [filter_take _ _ _ hj, hk, if_neg (by decide), h3]
  · rw [← List.tail_drop, h4, List.tail_drop]
theorem DelInv.start {p : Int × Int → Bool} {L : List (Int × Int)} {k : Nat} (hk : k < L.length) (h1 : p L[k] = true) (h2 : (L.take k).any p = false) : DelInv (fun x => !p x) L L k (k + 1) := by
  refine ⟨by omega, rfl, ?_, rfl⟩
  rw [filter_take _ _ _ hk, if_neg (by simp [h1]), List.filter_eq_self.2]
  intro x hx
  have := List.any_eq_false.1 h2 x hx
  simpa using this
end Go.Proofs.YtngippiilgdnoaaGreat
