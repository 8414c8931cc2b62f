/-
  slices.Sort at a row of texts of the call's own.
-/
import Derived.Test.YtcfmndhjmlbcoaaLaidTx
import Derived.Test.YtcfmndhjmlbcoaaZoneT
import Derived.Shelf.SortM.Plain
import Derived.Shelf.SortM.SortNone
import Derived.Sort.OwnSorted
namespace Go.Proofs.Ytcfmndhjmlbcoaa
open Go.RowKit Go.Sort

def bytesT (a : ByteArray) : List UInt8 := a.data.toList
def textT (l : List UInt8) : ByteArray := ⟨l.toArray⟩
theorem textT_bytesT (a : ByteArray) : textT (bytesT a) = a := ByteArray.ext (by simp [textT, bytesT])
theorem bytesT_textT (l : List UInt8) : bytesT (textT l) = l := by simp [textT, bytesT]
theorem encStr_bytesT (a : ByteArray) : encStr (bytesT a) = Value.string a := congrArg Value.string (textT_bytesT a)
/-- Texts in ascending order. -/
def sortT (N : List ByteArray) : List ByteArray := ((N.map bytesT).mergeSort fun x y => decide (x ≤ y)).map textT
theorem sortT_perm (N : List ByteArray) : (sortT N).Perm N := by
  have h := (List.mergeSort_perm (N.map bytesT) fun x y => decide (x ≤ y)).map textT
  rw [List.map_map] at h
  have e : N.map (textT ∘ bytesT) = N := by
    rw [show textT ∘ bytesT = id from funext textT_bytesT, List.map_id]
  rw [e] at h
  exact h
theorem sortT_len (N : List ByteArray) : (sortT N).length = N.length := (sortT_perm N).length_eq

/-- A row of texts sorted in place. -/
def SortedT (B g cap : Nat) (N : List ByteArray) (w : World) (e : Ending) (w' : World) : Prop :=
  e = .returned (.tuple #[]) ∧ Below B w w' ∧ w'.ownsRow B 9 1 (.slice (some ⟨g, 0, none⟩) N.length cap) N.length ((sortT N).map Value.string)
theorem sortT_calls (B g cap : Nat) (N : List ByteArray) (w : World) (hown : w.ownsRow B 9 1 (.slice (some ⟨g, 0, none⟩) N.length cap) N.length (N.map Value.string)) (hB : B ≤ w.heap.size) (hl : N.length ≤ 10000) :
    Calls Try.prog 63 #[.slice (some ⟨g, 0, none⟩) N.length cap] w (SortedT B g cap N w) := by
  rcases hown.2 with ⟨h, -⟩ | ⟨g', cap', cur, hv, hg, hh, h1, h2, h3, h4⟩
  · cases h
  · cases hv
    have hlt := (Array.getElem?_eq_some_iff.1 hh).1
    have hm : (N.map bytesT).length = N.length := List.length_map ..
    have he : (N.map bytesT).map encStr = N.map Value.string := by rw [List.map_map]; exact List.map_congr_left fun a _ => encStr_bytesT a
    have h := Go.Proofs.AnyM.slices_Sort_string Try.sortTx g 0 cap (N.map bytesT) w (holds_of_block hh (by rw [hm, he, ← h4, Nat.mul_one])) hlt (by rw [hm]; omega)
    rw [hm] at h
    change Calls Try.prog 63 _ _ _ at h
    refine h.mono ?_
    rintro e w' ⟨rfl, n, os, rfl⟩
    have hs : ((N.map bytesT).mergeSort fun x y => decide (x ≤ y)).map encStr = (sortT N).map Value.string := by
      unfold sortT
      rw [List.map_map]
      exact List.map_congr_left fun l _ => rfl
    have ho := ownsRow_sorted (n := n) (os := os) (ss := N.map bytesT) (ts := (N.map bytesT).mergeSort fun x y => decide (x ≤ y)) (base := B) (List.mergeSort_perm _ _).length_eq hg hh (by rw [hm]; exact h1) h2 h3
    rw [hm, hs] at ho
    exact ⟨rfl, (Below.refl B w).grown (grownBy_sorted _) hB (fun k hk => by cases hk; exact hg), ho⟩
end Go.Proofs.Ytcfmndhjmlbcoaa
