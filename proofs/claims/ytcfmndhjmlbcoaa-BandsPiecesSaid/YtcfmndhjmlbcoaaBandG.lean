/-
  Minutes at which bands may change: the plain law, and slices.DeleteFunc at a row of numbers of the call's own.
-/
import Derived.Test.YtcfmndhjmlbcoaaBandF
import Derived.Test.YtcfmndhjmlbcoaaLaidDel
import Derived.Test.YtcfmndhjmlbcoaaSortI04
import Derived.Shelf.SlicesE.DeleteFunc
namespace Go.Proofs.Ytcfmndhjmlbcoaa
open Go.RowKit Go.Sort

/-- Numbers gathered from the first k bands. -/
def Gath (l : List Bn) (q k : Nat) (N : List Int) : Prop :=
  0 ∈ N ∧ (∀ m ∈ N, 0 ≤ m ∧ m ≤ 1440) ∧ ∀ b ∈ l.take k, ∀ s ∈ b.2, s.1 / 2 ^ q % 2 = 1 → s.2.1 ∈ N ∧ s.2.2 ∈ N
/-- .. and from the first j slots of the next. -/
def GathI (l : List Bn) (q k : Nat) (ss : List Sl) (j : Nat) (N : List Int) : Prop :=
  Gath l q k N ∧ ∀ s ∈ ss.take j, s.1 / 2 ^ q % 2 = 1 → s.2.1 ∈ N ∧ s.2.2 ∈ N

theorem gath_zero (l : List Bn) (q : Nat) : Gath l q 0 [0] := ⟨by simp, fun m hm => by simp at hm; omega, fun b hb => by simp at hb⟩
theorem gathI_zero {l : List Bn} {q k : Nat} {N : List Int} (ss : List Sl) (h : Gath l q k N) : GathI l q k ss 0 N := ⟨h, fun s hs => by simp at hs⟩
theorem gathI_skip {l : List Bn} {q k : Nat} {ss : List Sl} {j : Nat} {N : List Int} (h : GathI l q k ss j N) (hj : j < ss.length) (ho : ¬ ss[j].1 / 2 ^ q % 2 = 1) : GathI l q k ss (j + 1) N := by
  refine ⟨h.1, fun s hs hon => ?_⟩
  rw [List.take_succ_eq_append_getElem hj, List.mem_append] at hs
  rcases hs with hs | hs
  · exact h.2 s hs hon
  · rw [List.mem_singleton] at hs; subst hs; exact absurd hon ho
theorem gathI_add {l : List Bn} {q k : Nat} {ss : List Sl} {j : Nat} {N : List Int} (h : GathI l q k ss j N) (hj : j < ss.length) (hok : slotOk ss[j] = true) : GathI l q k ss (j + 1) (N ++ [ss[j].2.1, ss[j].2.2]) := by
  obtain ⟨g1, g2, g3, g4, g5⟩ := slot_good hok
  obtain ⟨⟨h1, h2, h3⟩, h4⟩ := h
  refine ⟨⟨by simp [h1], fun m hm => ?_, fun b hb s hs hon => ?_⟩, fun s hs hon => ?_⟩
  · simp only [List.mem_append, List.mem_cons, List.not_mem_nil, or_false] at hm
    rcases hm with hm | rfl | rfl
    · exact h2 m hm
    · omega
    · omega
  · have := h3 b hb s hs hon
    exact ⟨by simp [this.1], by simp [this.2]⟩
  · rw [List.take_succ_eq_append_getElem hj, List.mem_append] at hs
    rcases hs with hs | hs
    · have := h4 s hs hon
      exact ⟨by simp [this.1], by simp [this.2]⟩
    · rw [List.mem_singleton] at hs; subst hs; exact ⟨by simp, by simp⟩
theorem gathI_end {l : List Bn} {q k : Nat} {ss : List Sl} {j : Nat} {N : List Int} (h : GathI l q k ss j N) (hj : ss.length ≤ j) (hk : k < l.length) (hs : l[k].2 = ss) : Gath l q (k + 1) N := by
  obtain ⟨⟨h1, h2, h3⟩, h4⟩ := h
  rw [List.take_of_length_le hj] at h4
  refine ⟨h1, h2, fun b hb s hsb hon => ?_⟩
  rw [List.take_succ_eq_append_getElem hk, List.mem_append] at hb
  rcases hb with hb | hb
  · exact h3 b hb s hsb hon
  · rw [List.mem_singleton] at hb; subst hb; rw [hs] at hsb; exact h4 s hsb hon

def upto1440 (N : List Int) : List Int := (Go.Lib.compact (sortL N)).filter fun m => !decide (1440 ≤ m)
theorem compact_mem (N : List Int) (x : Int) : x ∈ Go.Lib.compact (sortL N) ↔ x ∈ N := by
  have h := (compact_law (sortL N) (sortL_sorted N) (sortL N).length (Nat.le_refl _)).2 x
  rw [List.take_of_length_le (Nat.le_refl _)] at h
  exact h.trans (sortL_perm N).mem_iff
theorem compact_up (N : List Int) : (Go.Lib.compact (sortL N)).Pairwise (· < ·) := (compact_law (sortL N) (sortL_sorted N) (sortL N).length (Nat.le_refl _)).1
theorem mins_of (l : List Bn) (q : Nat) (N : List Int) (h : Gath l q l.length N) : Mins (upto1440 N) (fun s => s.1 / 2 ^ q % 2 = 1) l := by
  obtain ⟨h1, h2, h3⟩ := h
  have hmem : ∀ x, x ∈ upto1440 N ↔ x ∈ N ∧ x < 1440 := fun x => by
    unfold upto1440
    rw [List.mem_filter, compact_mem]
    simp
  have hup : (upto1440 N).Pairwise (· < ·) := (compact_up N).filter _
  refine ⟨hup, ?_, fun m hm => ?_, fun b hb s hs hon => ?_⟩
  · have h0 := (hmem 0).2 ⟨h1, by decide⟩
    cases hL : upto1440 N with
    | nil => rw [hL] at h0; cases h0
    | cons a r =>
      rw [hL] at h0 hup
      rcases List.mem_cons.1 h0 with e | e
      · rw [← e]; rfl
      · have := (List.pairwise_cons.1 hup).1 0 e
        have ha : a ∈ upto1440 N := by rw [hL]; simp
        have := h2 a ((hmem a).1 ha).1
        omega
  · have := (hmem m).1 hm
    have := h2 m this.1
    omega
  · rw [List.take_of_length_le (Nat.le_refl _)] at h3
    obtain ⟨a, c⟩ := h3 b hb s hs hon
    exact ⟨fun h => (hmem _).2 ⟨a, h⟩, fun h => (hmem _).2 ⟨c, h⟩⟩
theorem upto_len (N : List Int) : (upto1440 N).length ≤ N.length := by
  unfold upto1440
  refine Nat.le_trans (List.length_filter_le _ _) ?_
  unfold Go.Lib.compact Go.Lib.compactUpTo
  rw [List.length_map]
  refine Nat.le_trans (List.length_filter_le _ _) ?_
  simp [sortL_len]

theorem lim1_gives (x : Int) (W : World) : FnGives Try.prog 92 #[] #[.int .i64 x] (.bool (decide (1440 ≤ x))) W := by
  show Calls Try.prog 92 #[.int .i64 x] W _
  go_enter Try.func92, Try.ntmps92
  go_wp2
  go_ret
  exact ⟨rfl, 0, rfl⟩

/-- A row of numbers without those from 1440 on. -/
def DeletedI (B g cap : Nat) (zs : List Int) (w : World) (e : Ending) (w' : World) : Prop :=
  e = .returned (.slice (some ⟨g, 0, none⟩) (zs.filter fun m => !decide (1440 ≤ m)).length cap) ∧ Below B w w' ∧ IcsAt w' (.slice (some ⟨g, 0, none⟩) (zs.filter fun m => !decide (1440 ≤ m)).length cap) (zs.filter fun m => !decide (1440 ≤ m))
theorem delI_calls (B g cap : Nat) (zs : List Int) (w : World) (hown : w.ownsRow B 3 1 (.slice (some ⟨g, 0, none⟩) zs.length cap) zs.length (zs.map (Value.int .i64))) (hB : B ≤ w.heap.size) (hl : zs.length ≤ 10000) :
    Calls Try.prog 91 #[.slice (some ⟨g, 0, none⟩) zs.length cap, .func (.func 92) #[] #[]] w (DeletedI B g cap zs w) := by
  rcases hown.2 with ⟨h, -⟩ | ⟨g', cap', cur, hv, hg, hh, h1, h2, h3, h4⟩
  · cases h
  · cases hv
    have eg : ∀ args w, (callFunc 92 args).run Try.prog w = .ok (.enter 92 args) w := enters_of Try.func92 (by kernel_rfl) rfl
    have hlt := (Array.getElem?_eq_some_iff.1 hh).1
    have hcl : (zs.filter fun m => !decide (1440 ≤ m)).length ≤ zs.length := List.length_filter_le _ _
    have h := Go.Proofs.AnyE.slices_DeleteFunc Try.delInts (Value.int .i64) (fun _ => rfl) (fun x => decide (1440 ≤ x)) 92 #[] eg 0 Try.zeroValue3 g 0 cap zs.toArray w
      (fun W x _ => lim1_gives x W) (fun _ _ _ x _ => lim1_gives x _) (holds_of_blockI hh (by rw [← h4, Nat.mul_one])) (by simp; omega) (by simpa using h1)
    change Calls Try.prog 91 _ _ _ at h
    simp only [List.size_toArray, List.toList_toArray] at h
    generalize hL : (zs.filter fun m => !decide (1440 ≤ m)) = L at *
    refine h.mono ?_
    rintro e w' ⟨rfl, q, rfl⟩
    have hlen : (L ++ List.replicate (zs.length - L.length) 0).length = zs.length := by rw [List.length_append, List.length_replicate]; omega
    have ho := ownsRow_sortedI (n := q) (os := #[]) hlen hg hh h1 h2 h3
    have hb := grownBy_sortedI (w := w) (g := g) (n := q) (os := #[]) (L ++ List.replicate (zs.length - L.length) 0).toArray
    rw [grow_empty] at ho hb
    have hb2 := (Below.refl B w).grown hb hB (fun k hk => by cases hk; exact hg)
    unfold DeletedI
    rw [hL]
    refine ⟨rfl, hb2, some ⟨g, 0, none⟩, cap, rfl, by omega, ⟨h2, fun h => by cases h⟩, fun _ => ⟨g, 0, rfl, Nat.lt_of_lt_of_le hlt (by simp [Sort.ahead]), fun i hi => ?_⟩⟩
    have hc := ho.cellAt i (by omega)
    show World.cell? _ _ = _
    rw [Nat.zero_add, Nat.mul_one, hc, List.map_append, List.getElem?_append_left (by simpa using hi)]
    simp [hi]

/-- A row of numbers without repetitions, still the call's own. -/
def CompactedO (B g cap : Nat) (zs : List Int) (w : World) (e : Ending) (w' : World) : Prop :=
  e = .returned (.slice (some ⟨g, 0, none⟩) (Go.Lib.compact zs).length cap) ∧ Below B w w' ∧ w'.ownsRow B 3 1 (.slice (some ⟨g, 0, none⟩) (Go.Lib.compact zs).length cap) (Go.Lib.compact zs).length ((Go.Lib.compact zs).map (Value.int .i64))
theorem compO_calls (B g cap : Nat) (zs : List Int) (w : World) (hown : w.ownsRow B 3 1 (.slice (some ⟨g, 0, none⟩) zs.length cap) zs.length (zs.map (Value.int .i64))) (hB : B ≤ w.heap.size) (hl : zs.length ≤ 10000) :
    Calls Try.prog 90 #[.slice (some ⟨g, 0, none⟩) zs.length cap] w (CompactedO B g cap zs w) := by
  rcases hown.2 with ⟨h, -⟩ | ⟨g', cap', cur, hv, hg, hh, h1, h2, h3, h4⟩
  · cases h
  · cases hv
    have hlt := (Array.getElem?_eq_some_iff.1 hh).1
    have hcl : (Go.Lib.compact zs).length ≤ zs.length := by
      unfold Go.Lib.compact Go.Lib.compactUpTo
      rw [List.length_map]
      exact Nat.le_trans (List.length_filter_le _ _) (by simp)
    have h := Go.Proofs.AnyG.slices_Compact_int Try.compInts g 0 cap zs w (holds_of_blockI hh (by rw [← h4, Nat.mul_one])) (by omega) h1
    change Calls Try.prog 90 _ _ _ at h
    refine h.mono ?_
    rintro e w' ⟨rfl, q, rfl⟩
    have hlen : (Go.Lib.compact zs ++ List.replicate (zs.length - (Go.Lib.compact zs).length) 0).length = zs.length := by rw [List.length_append, List.length_replicate]; omega
    have ho := ownsRow_sortedI (n := q) (os := #[]) hlen hg hh h1 h2 h3
    have hb := grownBy_sortedI (w := w) (g := g) (n := q) (os := #[]) (Go.Lib.compact zs ++ List.replicate (zs.length - (Go.Lib.compact zs).length) 0).toArray
    rw [grow_empty] at ho hb
    have hb2 := (Below.refl B w).grown hb hB (fun k hk => by cases hk; exact hg)
    refine ⟨rfl, hb2, by simp, ?_⟩
    rcases ho.2 with ⟨h, -⟩ | ⟨g2, cap2, cur2, hv2, hg2, hh2, i1, i2, i3, i4⟩
    · cases h
    · cases hv2
      refine Or.inr ⟨g, cap, cur2, rfl, hg2, hh2, by omega, i2, i3, ?_⟩
      rw [Nat.mul_one] at i4 ⊢
      have := congrArg (List.take (Go.Lib.compact zs).length) i4
      rw [List.take_take, Nat.min_eq_left hcl] at this
      rw [this, List.map_append, List.take_append_of_le_length (by simp)]
      exact List.take_of_length_le (by simp)
end Go.Proofs.Ytcfmndhjmlbcoaa
