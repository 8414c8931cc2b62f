/-
  slices.Sort and slices.Compact at a row of numbers of the call's own.
-/
import Derived.Test.YtohmdohbmmbbkaaDoorMgay
import Derived.Test.YtohmdohbmmbbkaaDoorMgaf
import Derived.Test.YtohmdohbmmbbkaaDoorMgak
import Derived.Test.YtohmdohbmmbbkaaDoorMgac
import Derived.Test.YtohmdohbmmbbkaaDoorMgad
import Derived.Shelf.SortM.Plain
import Derived.Shelf.SlicesG.CompactI
import Derived.Sort.OwnSortedInts
import Derived.Laws.OwnMore
namespace Go.Proofs.YtohmdohbmmbbkaaDoor
open Go.RowKit Go.Sort

def sortL (zs : List Int) : List Int := zs.mergeSort fun x y => decide (x ≤ y)
theorem sortL_perm (zs : List Int) : (sortL zs).Perm zs := List.mergeSort_perm zs _
theorem sortL_sorted (zs : List Int) : (sortL zs).Pairwise (· ≤ ·) := by
  have h := List.pairwise_mergeSort (le := fun x y : Int => decide (x ≤ y)) (fun a b c h1 h2 => by simp at *; omega) (fun a b => by simp; omega) zs
  exact h.imp fun h => by simpa using h
theorem sortL_len (zs : List Int) : (sortL zs).length = zs.length := (sortL_perm zs).length_eq

/-- A row of numbers sorted in place. -/
def SortedI (B g cap : Nat) (zs : List Int) (w : World) (e : Ending) (w' : World) : Prop :=
  e = .returned (.tuple #[]) ∧ Below B w w' ∧ w'.ownsRow B 3 1 (.slice (some ⟨g, 0, none⟩) zs.length cap) zs.length ((sortL zs).map (Value.int .i64))
theorem sortI_calls (B g cap : Nat) (zs : List Int) (w : World) (hown : w.ownsRow B 3 1 (.slice (some ⟨g, 0, none⟩) zs.length cap) zs.length (zs.map (Value.int .i64))) (hB : B ≤ w.heap.size) (hl : zs.length ≤ 10000) :
    Calls Tryd.prog 39 #[.slice (some ⟨g, 0, none⟩) zs.length cap] w (SortedI B g cap zs w) := by
  rcases hown.2 with ⟨h, -⟩ | ⟨g', cap', cur, hv, hg, hh, h1, h2, h3, h4⟩
  · cases h
  · cases hv
    have hlt := (Array.getElem?_eq_some_iff.1 hh).1
    have h := Go.Proofs.AnyM.slices_Sort_int Tryd.sortInts g 0 cap zs w (holds_of_blockI hh (by rw [← h4, Nat.mul_one])) hlt (by omega)
    change Calls Tryd.prog 39 _ _ _ at h
    refine h.mono ?_
    rintro e w' ⟨rfl, n, os, rfl⟩
    exact ⟨rfl, (Below.refl B w).grown (grownBy_sortedI _) hB (fun k hk => by cases hk; exact hg), ownsRow_sortedI (sortL_len zs) hg hh h1 h2 h3⟩

/-- A row of numbers without repetitions. -/
def CompactedI (B g cap : Nat) (zs : List Int) (w : World) (e : Ending) (w' : World) : Prop :=
  e = .returned (.slice (some ⟨g, 0, none⟩) (Go.Lib.compact zs).length cap) ∧ Below B w w' ∧ IcsAt w' (.slice (some ⟨g, 0, none⟩) (Go.Lib.compact zs).length cap) (Go.Lib.compact zs)
theorem compI_calls (B g cap : Nat) (zs : List Int) (w : World) (hown : w.ownsRow B 3 1 (.slice (some ⟨g, 0, none⟩) zs.length cap) zs.length (zs.map (Value.int .i64))) (hB : B ≤ w.heap.size) (hl : zs.length ≤ 10000) :
    Calls Tryd.prog 40 #[.slice (some ⟨g, 0, none⟩) zs.length cap] w (CompactedI B g cap zs w) := by
  rcases hown.2 with ⟨h, -⟩ | ⟨g', cap', cur, hv, hg, hh, h1, h2, h3, h4⟩
  · cases h
  · cases hv
    have hlt := (Array.getElem?_eq_some_iff.1 hh).1
    have hcl : (Go.Lib.compact zs).length ≤ zs.length := by
      unfold Go.Lib.compact Go.Lib.compactUpTo
      rw [List.length_map]
      exact Nat.le_trans (List.length_filter_le _ _) (by simp)
    have h := Go.Proofs.AnyG.slices_Compact_int Tryd.compInts g 0 cap zs w (holds_of_blockI hh (by rw [← h4, Nat.mul_one])) (by omega) h1
    change Calls Tryd.prog 40 _ _ _ at h
    refine h.mono ?_
    rintro e w' ⟨rfl, q, rfl⟩
    have hlen : (Go.Lib.compact zs ++ List.replicate (zs.length - (Go.Lib.compact zs).length) 0).length = zs.length := by rw [List.length_append, List.length_replicate]; omega
    have ho := ownsRow_sortedI (n := q) (os := #[]) hlen hg hh h1 h2 h3
    have hb := grownBy_sortedI (w := w) (g := g) (n := q) (os := #[]) (Go.Lib.compact zs ++ List.replicate (zs.length - (Go.Lib.compact zs).length) 0).toArray
    rw [grow_empty] at ho hb
    have hb2 := (Below.refl B w).grown hb hB (fun k hk => by cases hk; exact hg)
    refine ⟨rfl, hb2, some ⟨g, 0, none⟩, cap, rfl, by omega, ⟨h2, fun h => by cases h⟩, fun _ => ⟨g, 0, rfl, Nat.lt_of_lt_of_le hlt (by simp [Sort.ahead]), fun i hi => ?_⟩⟩
    have hc := ho.cellAt i (by omega)
    show World.cell? _ _ = _
    rw [Nat.zero_add, Nat.mul_one, hc, List.map_append, List.getElem?_append_left (by simpa using hi)]
    simp [hi]
end Go.Proofs.YtohmdohbmmbbkaaDoor
