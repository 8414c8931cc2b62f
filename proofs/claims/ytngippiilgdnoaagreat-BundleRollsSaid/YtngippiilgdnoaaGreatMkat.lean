/-
  One record appended to a row of the call's own: which blocks turn, and where the row lies then.
-/
import Derived.Test.YtngippiilgdnoaaGreatMkar
import Derived.Test.YtngippiilgdnoaaGreatMkas
set_option maxRecDepth 100000
set_option maxHeartbeats 25600000
namespace Go.Proofs.YtngippiilgdnoaaGreat
open Go.RowKit
theorem own_last {α : Type} {c : α → List Value} {sz : Nat} (hc : ∀ a, (c a).length = sz) {w : World} {base : Nat} {e : TypeId} {a : Option Addr} {n cp : Nat} {M : List α} {q : α} (h : w.ownsRow base e sz (.slice a n cp) (M ++ [q]).length ((M ++ [q]).flatMap c)) :
 ∃ g, a = some ⟨g, 0, none⟩ ∧ n = M.length + 1 ∧ base ≤ g ∧ g < w.heap.size ∧ w.ownsRow base e sz (.slice (some ⟨g, 0, none⟩) (M.length + 1) cp) (M.length + 1) ((M ++ [q]).flatMap c) ∧ ∀ j, j < sz → w.cell? ⟨g, M.length * sz + j, none⟩ = (c q)[j]? := by
 have hl : (M ++ [q]).length = M.length + 1 := by simp
 rw [hl] at h
 have h0 := h
 rcases h0.2 with ⟨-, h1⟩ | ⟨g, cap, cur, hv, hB, hh, -⟩
 · omega
 simp only [Value.slice.injEq] at hv
 obtain ⟨rfl, rfl, rfl⟩ := hv
 refine ⟨g, rfl, rfl, hB, (ltB9 hh), h, fun j hj => ?_⟩
 rw [h.cellAt (M.length * sz + j) (by rw [Nat.add_mul, Nat.one_mul]; omega)]
 have := flat_get c sz hc (M ++ [q]) M.length j (by simp) hj
 rw [List.getElem_concat_length rfl] at this
 exact this
theorem setsL_end {α : Type} (A vs : List α) (d : Nat) (h : d + vs.length = A.length) : setsL A d vs = A.take d ++ vs := by
 apply List.ext_getElem?
 intro j
 rw [setsL_get _ _ _ _ (by omega)]
 by_cases h1 : j < d
 · rw [if_neg (by omega), List.getElem?_append_left (by rw [List.length_take]; omega), List.getElem?_take_of_lt h1]
 rw [List.getElem?_append_right (by rw [List.length_take]; omega), List.length_take, show min d A.length = d by omega]
 by_cases h2 : j < d + vs.length
 · rw [if_pos (by omega)]
 rw [if_neg (by omega), List.getElem?_eq_none (by omega), List.getElem?_eq_none (by omega)]
theorem flat_last_set {α : Type} {c : α → List Value} {sz : Nat} (hc : ∀ a, (c a).length = sz) (M : List α) (q q' : α) (d : Nat) (vs : List Value) (hd : d + vs.length = sz) (h : c q' = (c q).take d ++ vs) :
 setsL ((M ++ [q]).flatMap c) (M.length * sz + d) vs = (M ++ [q']).flatMap c := by
 have e1 := flat_length c sz hc M
 have e2 : (M ++ [q]).flatMap c = M.flatMap c ++ c q := by rw [List.flatMap_append]; simp
 have e3 : (M ++ [q']).flatMap c = M.flatMap c ++ c q' := by rw [List.flatMap_append]; simp
 rw [setsL_end _ _ _ (by rw [e2, List.length_append, hc, e1]; omega), e2, e3, h, List.take_append, e1]
 rw [List.take_of_length_le (by rw [e1]; omega), show M.length * sz + d - M.length * sz = d by omega, List.append_assoc]
theorem own_grow {w w' : World} {base : Nat} {e : TypeId} {sz n : Nat} {v : Value} {xs : List Value} {k : Option Nat} (h : w.ownsRow base e sz v n xs) (hg : w.grownBy w' k) (hk : v.ownBlock = none ∨ v.ownBlock ≠ k) : w'.ownsRow base e sz v n xs := by
 obtain ⟨h1, h2⟩ := h
 refine ⟨h1, ?_⟩
 rcases h2 with h2 | ⟨g, cap, cur, hv, hg1, hh, r⟩
 · exact Or.inl h2
 refine Or.inr ⟨g, cap, cur, hv, hg1, ?_, r⟩
 rw [hg.block g (ltB9 hh) ?_]
 · exact hh
 rcases hk with hk | hk
 · rw [hv] at hk; cases hk
 rw [hv] at hk; exact hk
theorem own_there2 {w : World} {base : Nat} {e : TypeId} {sz n g cap : Nat} {xs : List Value} (h : w.ownsRow base e sz (.slice (some ⟨g, 0, none⟩) n cap) n xs) (o k : Nat) (hk : o + k ≤ n * sz) : w.there g o k := fun j hj => by
 refine ⟨?_, h.frozenAt _⟩
 rw [h.cellAt _ (by omega), List.getElem?_eq_getElem (by rw [h.1]; omega)]
 rfl
end Go.Proofs.YtngippiilgdnoaaGreat
namespace Go.Proofs.YtngippiilgdnoaaGreat
open Go.RowKit
end Go.Proofs.YtngippiilgdnoaaGreat
