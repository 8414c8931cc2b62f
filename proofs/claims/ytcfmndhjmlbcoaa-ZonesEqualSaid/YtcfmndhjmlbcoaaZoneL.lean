/-
  The plain law of finding: the longest beginning in the map is the specification's.
-/
import Derived.Test.YtcfmndhjmlbcoaaZoneH
namespace Go.Proofs.Ytcfmndhjmlbcoaa
open Go.RowKit Go.Maps

theorem prefsE_ok : ∀ (ps seen : List ByteArray), prefsE seen ps = 0 → seen.Nodup → (seen ++ ps).Nodup ∧ ∀ p ∈ ps, isNum p = true
  | [], seen, _, hn => by rw [List.append_nil]; exact ⟨hn, fun p hp => by cases hp⟩
  | p :: r, seen, h, hn => by
    unfold prefsE at h
    by_cases h1 : isNum p = false
    · rw [if_pos h1] at h; exact absurd h (by decide)
    rw [if_neg h1] at h
    by_cases h2 : seen.any (fun x => sameS x p) = true
    · rw [if_pos h2] at h; exact absurd h (by decide)
    rw [if_neg h2] at h
    have hne : ∀ a ∈ seen, a ≠ p := fun a ha e => h2 (List.any_eq_true.2 ⟨a, ha, (sameS_iff _ _).2 e⟩)
    have ih := prefsE_ok r (seen ++ [p]) h (List.nodup_append.2 ⟨hn, by simp, fun a ha b hb => by simp only [List.mem_singleton] at hb; rw [hb]; exact hne a ha⟩)
    rw [List.append_assoc] at ih
    refine ⟨ih.1, fun q hq => ?_⟩
    rcases List.mem_cons.1 hq with rfl | hq
    · exact Bool.not_eq_false _ ▸ h1
    · exact ih.2 q hq

theorem allPr_append (a b : List Zn) : allPr (a ++ b) = allPr a ++ allPr b := List.flatMap_append
theorem allPr_one (z : Zn) : allPr [z] = z.2 := by simp [allPr]

/-- What a valid zone is. -/
def znOk (z : Zn) : Prop := isName z.1 = true ∧ 0 < z.2.length ∧ z.2.length ≤ 64 ∧ ∀ p ∈ z.2, isNum p = true
theorem zoneE_ok {pre : List Zn} {z : Zn} (h : zoneE pre z = 0) (hn : (allPr pre).Nodup) (hm : (pre.map (·.1)).Nodup) : znOk z ∧ (allPr (pre ++ [z])).Nodup ∧ ((pre ++ [z]).map (·.1)).Nodup := by
  unfold zoneE at h
  by_cases h1 : isName z.1 = false
  · rw [if_pos h1] at h; exact absurd h (by decide)
  rw [if_neg h1] at h
  by_cases h2 : pre.any (fun x => sameS x.1 z.1) = true
  · rw [if_pos h2] at h; exact absurd h (by decide)
  rw [if_neg h2] at h
  by_cases h3 : z.2.length = 0
  · rw [if_pos h3] at h; exact absurd h (by decide)
  rw [if_neg h3] at h
  by_cases h4 : 64 < z.2.length
  · rw [if_pos h4] at h; exact absurd h (by decide)
  rw [if_neg h4] at h
  have h5 := prefsE_ok _ _ h hn
  refine ⟨⟨Bool.not_eq_false _ ▸ h1, by omega, by omega, h5.2⟩, by rw [allPr_append, allPr_one]; exact h5.1, ?_⟩
  rw [List.map_append]
  refine List.nodup_append.2 ⟨hm, by simp, fun a ha b hb e => ?_⟩
  simp only [List.map_cons, List.map_nil, List.mem_singleton] at hb
  obtain ⟨x, hx, rfl⟩ := List.mem_map.1 ha
  exact h2 (List.any_eq_true.2 ⟨x, hx, (sameS_iff _ _).2 (e.trans hb)⟩)
theorem zonesE6_ok : ∀ (r pre : List Zn), zonesE6 pre r = 0 → (allPr pre).Nodup → (pre.map (·.1)).Nodup → (∀ z ∈ r, znOk z) ∧ (allPr (pre ++ r)).Nodup ∧ ((pre ++ r).map (·.1)).Nodup
  | [], pre, _, hn, hm => by rw [List.append_nil]; exact ⟨fun z hz => (by cases hz), hn, hm⟩
  | z :: r, pre, h, hn, hm => by
    unfold zonesE6 at h
    by_cases h1 : zoneE pre z ≠ 0
    · rw [if_pos h1] at h; exact absurd h h1
    rw [if_neg h1] at h
    have h2 := zoneE_ok (Decidable.not_not.1 h1) hn hm
    have ih := zonesE6_ok r (pre ++ [z]) h h2.2.1 h2.2.2
    rw [List.append_assoc] at ih
    refine ⟨fun q hq => ?_, ih.2⟩
    rcases List.mem_cons.1 hq with rfl | hq
    · exact h2.1
    · exact ih.1 q hq
theorem checkZ_ok {l : List Zn} (h : checkZ l = 0) : l.length ≤ 64 ∧ (∀ z ∈ l, znOk z) ∧ (allPr l).Nodup ∧ (l.map (·.1)).Nodup := by
  unfold checkZ at h
  by_cases h1 : 64 < l.length
  · rw [if_pos h1] at h; exact absurd h (by decide)
  rw [if_neg h1] at h
  have := zonesE6_ok l [] h (by simp [allPr]) (by simp)
  exact ⟨by omega, this.1, this.2⟩

theorem prs_keys (l : List Zn) : (prs l).map (·.1) = allPr l := by
  induction l with
  | nil => rfl
  | cons z r ih =>
    unfold prs allPr at *
    rw [List.flatMap_cons, List.flatMap_cons, List.map_append, ih, List.map_map]
    congr 1
    exact List.map_id _
theorem prs_mem {l : List Zn} {x : ByteArray × ByteArray} (h : x ∈ prs l) : ∃ z ∈ l, x.1 ∈ z.2 ∧ x.2 = z.1 := by
  obtain ⟨z, hz, hx⟩ := List.mem_flatMap.1 h
  obtain ⟨p, hp, rfl⟩ := List.mem_map.1 hx
  exact ⟨z, hz, hp, rfl⟩

theorem valP_at (L : List (ByteArray × ByteArray)) (hn : (L.map (·.1)).Nodup) (x : ByteArray × ByteArray) (hx : x ∈ L) : valP L x.1 = x.2 := by
  induction L using snocInd with
  | h0 => cases hx
  | h1 L y ih =>
    rw [List.map_append] at hn
    obtain ⟨n1, -, n3⟩ := List.nodup_append.1 hn
    rw [valP_snoc]
    rcases List.mem_append.1 hx with hx | hx
    · rw [if_neg (fun e => n3 x.1 (List.mem_map_of_mem hx) y.1 (by simp) ((sameS_iff _ _).1 e).symm), ih n1 hx]
    · simp only [List.mem_singleton] at hx
      rw [hx, if_pos ((sameS_iff _ _).2 rfl)]

theorem bestP_inv (s : ByteArray) (L : List (ByteArray × ByteArray)) : (∀ x ∈ L, begP s x.1 = true → x.1.size ≤ (bestP s L).2) ∧
    (bestP s L = (ByteArray.empty, 0) ∨ ∃ x ∈ L, begP s x.1 = true ∧ bestP s L = (x.2, x.1.size) ∧ 0 < x.1.size) := by
  induction L using snocInd with
  | h0 => exact ⟨fun x hx => (by cases hx), Or.inl rfl⟩
  | h1 L y ih =>
    rw [bestP_snoc]
    by_cases h : (bestP s L).2 < y.1.size ∧ begP s y.1 = true
    · rw [if_pos h]
      refine ⟨fun x hx hb => ?_, Or.inr ⟨y, by simp, h.2, rfl, by omega⟩⟩
      rcases List.mem_append.1 hx with hx | hx
      · have := ih.1 x hx hb; show x.1.size ≤ y.1.size; omega
      · simp only [List.mem_singleton] at hx
        rw [hx]; exact Nat.le_refl _
    · rw [if_neg h]
      refine ⟨fun x hx hb => ?_, ?_⟩
      · rcases List.mem_append.1 hx with hx | hx
        · exact ih.1 x hx hb
        · simp only [List.mem_singleton] at hx
          rw [hx] at hb ⊢
          exact Nat.le_of_not_lt fun hl => h ⟨hl, hb⟩
      · rcases ih.2 with h2 | ⟨x, hx, h2⟩
        · exact Or.inl h2
        · exact Or.inr ⟨x, List.mem_append_left _ hx, h2⟩

theorem begP_iff (s p : ByteArray) : begP s p = true ↔ p.size ≤ s.size ∧ s.extract 0 p.size = p := by
  unfold begP
  rw [Bool.and_eq_true, decide_eq_true_eq, sameS_iff]

theorem longP_none (L : List (ByteArray × ByteArray)) (s : ByteArray) : ∀ n : Nat, (∀ k, 0 < k → k ≤ n → L.any (fun x => sameS x.1 (s.extract 0 k)) = false) → longP L s n = (ByteArray.empty, false)
  | 0, _ => rfl
  | n + 1, h => by
    unfold longP
    rw [if_neg (by rw [h (n + 1) (by omega) (Nat.le_refl _)]; decide)]
    exact longP_none L s n fun k h1 h2 => h k h1 (by omega)
theorem longP_some (L : List (ByteArray × ByteArray)) (s : ByteArray) (m : Nat) (hm : 0 < m) (ha : L.any (fun x => sameS x.1 (s.extract 0 m)) = true) : ∀ n : Nat, m ≤ n → (∀ k, m < k → k ≤ n → L.any (fun x => sameS x.1 (s.extract 0 k)) = false) → longP L s n = (valP L (s.extract 0 m), true)
  | 0, h, _ => by omega
  | n + 1, h, hk => by
    unfold longP
    by_cases e : m = n + 1
    · rw [← e, if_pos ha]
    · rw [if_neg (by rw [hk (n + 1) (by omega) (Nat.le_refl _)]; decide)]
      exact longP_some L s m hm ha n (by omega) fun k h1 h2 => hk k h1 (by omega)

theorem any_beg {L : List (ByteArray × ByteArray)} {s : ByteArray} {k : Nat} (hk : k ≤ s.size) (h : L.any (fun x => sameS x.1 (s.extract 0 k)) = true) : ∃ x ∈ L, begP s x.1 = true ∧ x.1.size = k := by
  obtain ⟨x, hx, he⟩ := List.any_eq_true.1 h
  have he := (sameS_iff _ _).1 he
  have hz : x.1.size = k := by rw [he, ByteArray.size_extract]; omega
  exact ⟨x, hx, (begP_iff _ _).2 ⟨by omega, by rw [hz]; exact he.symm⟩, hz⟩

/-- The longest beginning, as the fold finds it. -/
theorem longP_best (L : List (ByteArray × ByteArray)) (s : ByteArray) (hn : (L.map (·.1)).Nodup) (hv : ∀ x ∈ L, 0 < x.2.size) :
    longP L s s.size = ((bestP s L).1, !(bestP s L).1.toList.isEmpty) := by
  obtain ⟨h1, h2⟩ := bestP_inv s L
  rcases h2 with h2 | ⟨x, hx, hb, h2, h0⟩
  · rw [h2] at h1 ⊢
    rw [longP_none]
    · rw [Lib.toList_data]; rfl
    · intro k hk hks
      cases ha : L.any (fun x => sameS x.1 (s.extract 0 k)) with
      | false => rfl
      | true =>
        obtain ⟨x, hx, hb, hz⟩ := any_beg hks ha
        have := h1 x hx hb
        simp only at this
        omega
  · rw [h2] at h1 ⊢
    simp only at h1 ⊢
    obtain ⟨g1, g2⟩ := (begP_iff _ _).1 hb
    rw [longP_some L s x.1.size h0 (List.any_eq_true.2 ⟨x, hx, (sameS_iff _ _).2 g2.symm⟩) s.size g1, g2, valP_at L hn x hx]
    · have h3 := hv x hx
      have h4 : x.2.toList.isEmpty = false := by
        rw [Lib.toList_data]
        cases h5 : x.2.data.toList with
        | nil => rw [show x.2.size = x.2.data.toList.length from rfl, h5] at h3; cases h3
        | cons a r => rfl
      rw [h4]; rfl
    · intro k hk hks
      cases ha : L.any (fun x => sameS x.1 (s.extract 0 k)) with
      | false => rfl
      | true =>
        obtain ⟨y, hy, hb, hz⟩ := any_beg hks ha
        have := h1 y hy hb
        omega

theorem isName_pos {s : ByteArray} (h : isName s = true) : 0 < s.size := by
  unfold isName at h
  rw [Bool.and_eq_true, Bool.and_eq_true, decide_eq_true_eq] at h
  exact h.1.1.1
theorem findZ_eq (l : List Zn) (s : ByteArray) : findZ l s = rfindZ l s := by
  unfold findZ rfindZ
  by_cases h : checkZ l ≠ 0
  · rw [if_pos h, if_pos h]
  rw [if_neg h, if_neg h]
  by_cases h2 : isNum s = false
  · rw [if_pos h2, if_pos h2]
  rw [if_neg h2, if_neg h2]
  obtain ⟨-, k1, k2, -⟩ := checkZ_ok (Decidable.not_not.1 h)
  refine longP_best _ s (by rw [prs_keys]; exact k2) fun x hx => ?_
  obtain ⟨z, hz, -, e⟩ := prs_mem hx
  rw [e]
  exact isName_pos (k1 z hz).1
end Go.Proofs.Ytcfmndhjmlbcoaa
