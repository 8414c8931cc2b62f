/-
  What accepted events say of accounts: each is opened once and closed once; the cycle of an instant, plainly.
-/
import Derived.Test.YtngippiilgdnoaaGreatMpab
import Derived.Test.YtngippiilgdnoaaGreatMpaa
import Derived.Test.YtngippiilgdnoaaGreatMpad
namespace Go.Proofs.YtngippiilgdnoaaGreat

def isClose (n : Int) (e : Ev) : Bool := decide (e.kd = 2) && decide (e.ac = n)
/-- When an account was closed. -/
def closeT (l : List Ev) (n : Int) : Int := match l.find? (isClose n) with | some e => e.tm | none => 12622780800

theorem ixOf_map {α : Type} (p : α → Bool) (l : List α) : ixOf p l = ixOf id (l.map p) := by
  unfold ixOf
  rw [List.any_map, List.findIdx_map]
  rfl
theorem ixOf_append {α : Type} {p : α → Bool} {l : List α} (r : List α) (h : 0 ≤ ixOf p l) : ixOf p (l ++ r) = ixOf p l := by
  obtain ⟨k, hk, e, hp, hn⟩ := ixOf_yes h
  rw [e]
  refine ixOf_hit (k := k) (by rw [List.length_append]; omega) ?_ ?_
  · rw [List.take_append_of_le_length (by omega)]; exact hn
  · rw [List.getElem_append_left hk]; exact hp
theorem ixOf_modify {α : Type} {p : α → Bool} {f : α → α} (hf : ∀ a, p (f a) = p a) (l : List α) (k : Nat) : ixOf p (l.modify k f) = ixOf p l := by
  rw [ixOf_map, ixOf_map p l]
  congr 1
  apply List.ext_getElem
  · simp
  · intro i h1 h2
    rw [List.getElem_map, List.getElem_map, List.getElem_modify]
    split
    · exact hf _
    · rfl

/-- Does a cycle meet the life of an account? -/
def meetsL (f t : Int) (c : Int × Int) : Bool := decide (max f c.1 < min t c.2)
end Go.Proofs.YtngippiilgdnoaaGreat
