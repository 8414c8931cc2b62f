/-
  The walk of zones.Minimal.
-/
import Derived.Test.YtcfmndhjmlbcoaaZoneU
import Derived.Test.YtcfmndhjmlbcoaaZoneQ
import Derived.Deep.AppendLies
namespace Go.Proofs.Ytcfmndhjmlbcoaa
open Go.RowKit Go.Sort

theorem Try.zoneInfo : (Try.prog.info? 62).map (fun i => (i.zero, i.size, i.bytes)) = some (some (.agg #[.string ⟨#[]⟩, .slice none 0 0]), 2, 40) := by kernel_rfl

theorem RdZ.below {w w' : World} {ob : Option Nat} {R : List Zr} (h : RdZ w ob R) (hb : Below w.heap.size w w') : RdZ w' ob R := fun r hr => by
  obtain ⟨h1, h2, h3⟩ := h r hr
  exact ⟨h1, h2.below hb, fun g e => ⟨Nat.lt_of_lt_of_le (h3 g e).1 hb.size, (h3 g e).2⟩⟩

/-- What the rows gathered of the first zones are. -/
def RawOf (l : List Zn) (k : Nat) (R : List Zr) : Prop :=
  R.length ≤ k ∧ (R.map (·.1)).Sublist ((l.take k).map (·.1)) ∧ (∀ r ∈ R, r.2.2 ≠ [] ∧ r.2.2.Pairwise ltD) ∧ ∀ x, x ∈ prs (R.map zrZn) ↔ x ∈ prs (l.take k) ∧ keepP (prs l) x = true
def MinTo (l : List Zn) (w : World) (e : Ending) (w' : World) : Prop := ∃ v M, e = .returned v ∧ ZnsAt w' v M ∧ MinOf l M ∧ Below w.heap.size w w'
theorem minTo_nil {l : List Zn} {w w' : World} (hc : checkZ l ≠ 0) (hb : Below w.heap.size w w') : MinTo l w (.returned (.slice none 0 0)) w' :=
  ⟨_, [], rfl, ⟨none, 0, rfl, Nat.le_refl _, ⟨Nat.zero_le _, fun _ => rfl⟩, fun h => absurd rfl h⟩, by unfold MinOf; rw [if_pos hc], hb⟩

theorem prs_append (a b : List Zn) : prs (a ++ b) = prs a ++ prs b := List.flatMap_append
theorem prs_one (z : Zn) : prs [z] = z.2.map fun p => (p, z.1) := by simp [prs]
theorem rawOf_skip {l : List Zn} {k : Nat} {R : List Zr} (h : RawOf l k R) (hk : k < l.length) (hn : l[k].2.filter (fun p => keepP (prs l) (p, l[k].1)) = []) : RawOf l (k + 1) R := by
  obtain ⟨h0, h1, h2, h3⟩ := h
  refine ⟨by omega, ?_, h2, fun x => ?_⟩
  · rw [List.take_succ_eq_append_getElem hk, List.map_append]
    exact h1.trans (List.sublist_append_left _ _)
  · rw [h3, prs_take l k hk, List.mem_append]
    constructor
    · rintro ⟨a, b⟩; exact ⟨Or.inl a, b⟩
    · rintro ⟨a | a, b⟩
      · exact ⟨a, b⟩
      · obtain ⟨p, hp, rfl⟩ := List.mem_map.1 a
        have : p ∈ l[k].2.filter (fun p => keepP (prs l) (p, l[k].1)) := List.mem_filter.2 ⟨hp, b⟩
        rw [hn] at this
        cases this
theorem rawOf_more {l : List Zn} {k : Nat} {R : List Zr} (h : RawOf l k R) (hk : k < l.length) (r : Zr) (hr : r.1 = l[k].1) (hne : r.2.2 ≠ []) (hs : r.2.2.Pairwise ltD) (hp : r.2.2.Perm (l[k].2.filter (fun p => keepP (prs l) (p, l[k].1)))) : RawOf l (k + 1) (R ++ [r]) := by
  obtain ⟨h0, h1, h2, h3⟩ := h
  refine ⟨by simp; omega, ?_, ?_, fun x => ?_⟩
  · rw [List.take_succ_eq_append_getElem hk, List.map_append, List.map_append]
    exact h1.append (by simp [hr])
  · intro q hq
    rcases List.mem_append.1 hq with hq | hq
    · exact h2 q hq
    · simp only [List.mem_singleton] at hq
      rw [hq]; exact ⟨hne, hs⟩
  · rw [List.map_append, prs_append, List.mem_append, h3, prs_take l k hk, List.mem_append, List.map_cons, List.map_nil, prs_one]
    have e : x ∈ (zrZn r).2.map (fun p => (p, (zrZn r).1)) ↔ x ∈ l[k].2.map (fun p => (p, l[k].1)) ∧ keepP (prs l) x = true := by
      rw [List.mem_map, List.mem_map]
      constructor
      · rintro ⟨p, hp2, rfl⟩
        obtain ⟨a, b⟩ := List.mem_filter.1 (hp.mem_iff.1 hp2)
        exact ⟨⟨p, a, by rw [show (zrZn r).1 = l[k].1 from hr]⟩, by rw [show (zrZn r).1 = l[k].1 from hr]; exact b⟩
      · rintro ⟨⟨p, hp2, rfl⟩, hk2⟩
        exact ⟨p, hp.mem_iff.2 (List.mem_filter.2 ⟨hp2, hk2⟩), by rw [show (zrZn r).1 = l[k].1 from hr]⟩
    rw [e]
    constructor
    · rintro (⟨a, b⟩ | ⟨a, b⟩)
      · exact ⟨Or.inl a, b⟩
      · exact ⟨Or.inr a, b⟩
    · rintro ⟨a | a, b⟩
      · exact Or.inl ⟨a, b⟩
      · exact Or.inr ⟨a, b⟩
theorem rawOf_end {l : List Zn} {R S : List Zr} (hc : checkZ l = 0) (h : RawOf l l.length R) (hp : S.Perm R) (hs : S.Pairwise (fun x y => ¬ ltT y.1 x.1)) : MinOf l (S.map zrZn) := by
  obtain ⟨-, h1, h2, h3⟩ := h
  rw [List.take_length] at h1 h3
  have hnd : (S.map (·.1)).Nodup := (hp.map (·.1)).nodup_iff.2 (h1.nodup (checkZ_ok hc).2.2.2)
  have hnp : S.Pairwise (fun x y => x.1 ≠ y.1) := List.pairwise_map.1 hnd
  unfold MinOf
  rw [if_neg (not_not_intro hc)]
  refine ⟨⟨?_, ?_⟩, fun x => ?_⟩
  · rw [List.pairwise_map]
    exact List.Pairwise.imp₂ (fun a b (n1 : ¬ ltT b.1 a.1) (n2 : a.1 ≠ b.1) => Classical.byContradiction fun n3 => n2 (ltT_tri n3 n1)) hs hnp
  · intro z hz
    obtain ⟨r, hr, rfl⟩ := List.mem_map.1 hz
    exact h2 r (hp.mem_iff.1 hr)
  · rw [← h3]
    unfold prs
    exact ((hp.map zrZn).flatMap_right _).mem_iff

theorem filter_take {α : Type} (p : α → Bool) (l : List α) (k : Nat) (h : k < l.length) : (l.take (k + 1)).filter p = (l.take k).filter p ++ (if p l[k] = true then [l[k]] else []) := by
  rw [List.take_succ_eq_append_getElem h, List.filter_append]
  congr 1
  by_cases hp : p l[k] = true
  · simp [hp]
  · simp [hp]
theorem sorted_strict {S N : List ByteArray} (hp : S.Perm N) (hs : S.Pairwise (fun a b => ¬ ltD b a)) (hn : N.Nodup) : S.Pairwise ltD :=
  List.Pairwise.imp₂ (fun a b (n1 : ¬ ltD b a) (n2 : a ≠ b) => Classical.byContradiction fun n3 => n2 (ltD_tri n3 n1)) hs (hp.nodup_iff.2 hn)
end Go.Proofs.Ytcfmndhjmlbcoaa
