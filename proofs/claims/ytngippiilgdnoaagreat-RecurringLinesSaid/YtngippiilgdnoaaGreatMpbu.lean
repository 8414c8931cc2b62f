/-
  slices.SortFunc at own rows of records: what the sort asks and what it leaves, whatever the record.
-/
import Derived.Test.YtngippiilgdnoaaGreatMpan
import Derived.Shelf.SlSortCmp.NoneTotal
namespace Go.Proofs.YtngippiilgdnoaaGreat
open Go.RowKit Go.Sort

section
variable {α : Type} [Inhabited α] {c : α → List Value} {sz : Nat}
theorem recs_holds (hc : ∀ a, (c a).length = sz) (hz : 0 < sz) {w : World} {base : Nat} {e : TypeId} {g cap : Nat} {R : List α} (h : w.ownsRow base e sz (.slice (some ⟨g, 0, none⟩) R.length cap) R.length (R.flatMap c)) : HoldsK c sz w g 0 R.toArray := by
  intro j hj
  rw [size_flatK] at hj
  have hj2 : j < R.length * sz := by simpa using hj
  refine ⟨?_, h.frozenAt _⟩
  rw [Nat.zero_add, h.cellAt j (by omega), get_flatK _ _ _ _ hj]
  have h1 : j / sz < R.length := (Nat.div_lt_iff_lt_mul hz).2 hj2
  have hm : j % sz < sz := Nat.mod_lt _ hz
  have h2 := flat_get c sz hc R (j / sz) (j % sz) h1 hm
  rw [show j / sz * sz + j % sz = j by rw [Nat.mul_comm]; exact Nat.div_add_mod j sz] at h2
  rw [h2, getElem!_pos R.toArray (j / sz) (by simpa using h1)]
  simp only [List.getElem_toArray]
  have h3 : j % sz < (c R[j / sz]).length := by rw [hc]; exact hm
  rw [List.getElem!_eq_getElem?_getD, List.getElem?_eq_getElem h3]
  rfl
theorem recs_grown {w : World} {g n : Nat} {os : Array Obj} (d' : Array α) : w.grownBy (Go.Proofs.sortWorldK c sz w g 0 n d' os) (some g) := by
  unfold Go.Proofs.sortWorldK putRowK
  refine ⟨rfl, rfl, rfl, by simp [Sort.ahead], fun k hk hne => ?_⟩
  rw [heap_grow_old _ _ (by simpa [Sort.ahead] using hk)]
  have : g ≠ k := fun e => hne (by rw [e])
  simp [putRow, mapBlock, Sort.ahead, Array.getElem?_modify, this]
theorem cells_cell {w : World} {g j : Nat} {cs : Array Value} {t : TypeId} {fr : Nat × Nat} (h : w.heap[g]? = some (.cells cs t fr)) : w.cell? ⟨g, j, none⟩ = cs[j]? := by simp [World.cell?, h]
theorem size_putCells {α : Type} [Inhabited α] (enc : α → Value) (o : Nat) (d : Array α) (cur : Array Value) : (putCells enc o d cur).size = cur.size := by simp [putCells]
theorem recs_row {w : World} {g n : Nat} {os : Array Obj} {t : TypeId} {cur : Array Value} (d' : Array α) (h : w.heap[g]? = some (.cells cur t (0, 0))) :
    (Go.Proofs.sortWorldK c sz w g 0 n d' os).heap[g]? = some (.cells (putCells id 0 (flatK c sz d') cur) t (0, 0)) := by
  have hlt := (Array.getElem?_eq_some_iff.1 h).1
  unfold Go.Proofs.sortWorldK putRowK
  rw [heap_grow_old _ _ (by simpa [putRow, mapBlock, Sort.ahead] using hlt)]
  simp [putRow, mapBlock, Sort.ahead, Array.getElem?_modify, h, onCells]
/-- A row sorted in place. -/
def SortedR (c : α → List Value) (sz : Nat) (t : TypeId) (cmp : α → α → Int) (B : Nat) (R : List α) (v : Value) (w : World) (e : Ending) (w' : World) : Prop :=
  e = .returned (.tuple #[]) ∧ Below B w w' ∧ w.grownBy w' v.ownBlock ∧ ∃ S : List α, S.Perm R ∧ S.Pairwise (fun x y => Go.Proofs.ltOf cmp y x = false) ∧ w'.ownsRow B t sz v S.length (S.flatMap c)
theorem recs_sorted (hc : ∀ a, (c a).length = sz) {w : World} {cmp : α → α → Int} {B g cap n : Nat} {R : List α} {os : Array Obj} {d' : Array α} {t : TypeId} {cur : Array Value} (hB : B ≤ w.heap.size) (hg : B ≤ g) (hcur : w.heap[g]? = some (.cells cur t (0, 0))) (hcs : cur.size = cap * sz) (h1 : R.length ≤ cap) (h2 : cap ≤ maxLen) (hH : HoldsK c sz w g 0 R.toArray)
    (hp : PermIn 0 R.length R.toArray d') (hs : SortedIn (Go.Proofs.ltOf cmp) 0 R.length d') : SortedR c sz t cmp B R (.slice (some ⟨g, 0, none⟩) R.length cap) w (.returned (.tuple #[])) (Go.Proofs.sortWorldK c sz w g 0 n d' os) := by
  have hlt := (Array.getElem?_eq_some_iff.1 hcur).1
  have hsz : R.toArray.size = R.length := by simp
  have hd : d'.size = R.length := hp.1.trans hsz
  have hpp := hp.2.2
  rw [show d'.extract 0 R.length = d' by rw [← hd]; simp, show R.toArray.extract 0 R.length = R.toArray from Array.extract_eq_self_of_le (by rw [hsz]; exact Nat.le_refl _)] at hpp
  have hgr := recs_grown (c := c) (sz := sz) (w := w) (g := g) (n := n) (os := os) d'
  have hH' := Go.Proofs.holdsK_sortWorldK_c c sz w g 0 R.toArray d' n os hH hlt hp.1
  have hpR : d'.toList.Perm R := hpp
  refine ⟨rfl, (Below.refl B w).grown hgr hB (fun k hk => by cases hk; exact hg), hgr, d'.toList, hpR, ?_, ?_⟩
  · rw [List.pairwise_iff_getElem]
    intro i j hi hj hij
    have hj' : j < d'.size := by simpa using hj
    have hi' : i < d'.size := by omega
    have h := hs i j (Nat.zero_le _) hij (by omega)
    rw [getElem!_pos d' j hj', getElem!_pos d' i hi'] at h
    simp only [Array.getElem_toList]
    exact h
  · have hdl : d'.toList.length = R.length := by simp [hd]
    have hrow := recs_row (c := c) (sz := sz) (n := n) (os := os) d' hcur
    have hl2 := flat_length c sz hc d'.toList
    refine ⟨hl2, Or.inr ⟨g, cap, _, by rw [hdl], hg, hrow, by omega, h2, ?_, ?_⟩⟩
    · rw [size_putCells]; exact hcs
    · apply List.ext_getElem?
      intro j
      by_cases hj : j < d'.toList.length * sz
      · rw [List.getElem?_take_of_lt hj, Array.getElem?_toList]
        have hz : 0 < sz := by
          rcases Nat.eq_zero_or_pos sz with h | h
          · subst h; rw [Nat.mul_zero] at hj; omega
          · exact h
        have hi : j / sz < d'.toList.length := (Nat.div_lt_iff_lt_mul hz).2 hj
        have hi' : j / sz < d'.size := by simpa using hi
        have hm : j % sz < sz := Nat.mod_lt _ hz
        have q := (hH'.cell (i := j / sz) (c := j % sz) hi' hm).1
        rw [Nat.zero_add, show j / sz * sz + j % sz = j by rw [Nat.mul_comm]; exact Nat.div_add_mod j sz] at q
        have q2 := flat_get c sz hc d'.toList (j / sz) (j % sz) hi hm
        rw [show j / sz * sz + j % sz = j by rw [Nat.mul_comm]; exact Nat.div_add_mod j sz] at q2
        rw [q2]
        rw [getElem!_pos d' (j / sz) hi'] at q
        have h3 : j % sz < (c d'[j / sz]).length := by rw [hc]; exact hm
        rw [List.getElem!_eq_getElem?_getD, List.getElem?_eq_getElem h3] at q
        simp only [Array.getElem_toList]
        rw [List.getElem?_eq_getElem h3]
        rw [← cells_cell hrow]
        exact q
      · rw [List.getElem?_eq_none (by rw [List.length_take]; omega), List.getElem?_eq_none (by rw [hl2]; omega)]
end
end Go.Proofs.YtngippiilgdnoaaGreat
