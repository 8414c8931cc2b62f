/-
  A record stored whole into an owned row.
-/
import Derived.Test.YtngippiilgdnoaaMcal
import Derived.Deep.MidRow
set_option maxRecDepth 100000
set_option maxHeartbeats 25600000
namespace Go.Proofs.Ytngippiilgdnoaa
open Go.RowKit
def setsL {α : Type} (xs : List α) (o : Nat) : List α → List α
 | [] => xs
 | u :: r => setsL (xs.set o u) (o + 1) r
theorem setsL_get {α : Type} : ∀ (vs : List α) (xs : List α) (o j : Nat), o + vs.length ≤ xs.length → (setsL xs o vs)[j]? = if o ≤ j ∧ j < o + vs.length then vs[j - o]? else xs[j]?
 | [], xs, o, j, _ => by
  rw [if_neg (by rw [List.length_nil]; omega)]; rfl
 | u :: r, xs, o, j, h => by
  rw [List.length_cons] at h
  show (setsL (xs.set o u) (o + 1) r)[j]? = _
  rw [setsL_get r (xs.set o u) (o + 1) j (by simp; omega), List.length_cons]
  by_cases h1 : j = o
  · subst h1
    rw [if_neg (by omega), if_pos (by omega), Nat.sub_self, List.getElem?_set_self (by omega)]
    rfl
  by_cases h2 : o + 1 ≤ j ∧ j < o + 1 + r.length
  · rw [if_pos h2, if_pos (by omega), show j - o = (j - (o + 1)) + 1 by omega]
    rfl
  rw [if_neg h2, if_neg (by omega), List.getElem?_set_ne (by omega)]
theorem own_setCells {base : Nat} {e : TypeId} {sz n g cap : Nat} : ∀ (vs xs : List Value) (o : Nat) (w : World), w.ownsRow base e sz (.slice (some ⟨g, 0, none⟩) n cap) n xs →
 (w.setCells g o vs).ownsRow base e sz (.slice (some ⟨g, 0, none⟩) n cap) n (setsL xs o vs) ∧ w.grownBy (w.setCells g o vs) (some g)
 | [], _, _, _, h => ⟨h, ⟨rfl, rfl, rfl, Nat.le_refl _, fun _ _ _ => rfl⟩⟩
 | u :: r, xs, o, w, h => by
  obtain ⟨h1, h2⟩ := h.stored o u
  obtain ⟨h3, h4⟩ := own_setCells r (xs.set o u) (o + 1) _ h1
  exact ⟨h3, ⟨h4.os.trans h2.os, h4.tape.trans h2.tape, h4.output.trans h2.output, Nat.le_trans h2.size h4.size, fun k hk hne => (h4.block k (Nat.lt_of_lt_of_le hk h2.size) hne).trans (h2.block k hk hne)⟩⟩
end Go.Proofs.Ytngippiilgdnoaa
