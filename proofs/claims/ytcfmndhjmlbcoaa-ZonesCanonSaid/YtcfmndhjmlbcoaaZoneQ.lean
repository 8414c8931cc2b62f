/-
  The plain law of minimal lists of zones: they are valid and their own minimal lists; two lists are equal exactly if their minimal lists are one.
-/
import Derived.Test.YtcfmndhjmlbcoaaZoneK
namespace Go.Proofs.Ytcfmndhjmlbcoaa
open Go.RowKit Go.Sort

theorem prefsE_zero : ∀ (ps seen : List ByteArray), (seen ++ ps).Nodup → (∀ p ∈ ps, isNum p = true) → prefsE seen ps = 0
  | [], _, _, _ => rfl
  | p :: r, seen, hn, hp => by
    unfold prefsE
    rw [if_neg (by rw [hp p (by simp)]; decide), if_neg, prefsE_zero r (seen ++ [p]) (by rw [List.append_assoc]; exact hn) fun q hq => hp q (by simp [hq])]
    intro h
    obtain ⟨x, hx, e⟩ := List.any_eq_true.1 h
    exact (List.nodup_append.1 hn).2.2 x hx p (by simp) ((sameS_iff _ _).1 e)
theorem zonesE6_zero : ∀ (r pre : List Zn), (∀ z ∈ r, znOk z) → (allPr (pre ++ r)).Nodup → ((pre ++ r).map (·.1)).Nodup → zonesE6 pre r = 0
  | [], _, _, _, _ => rfl
  | z :: r, pre, hz, hn, hm => by
    obtain ⟨z1, z2, z3, z4⟩ := hz z (by simp)
    have h0 : zoneE pre z = 0 := by
      unfold zoneE
      rw [if_neg (by rw [z1]; decide), if_neg, if_neg (by omega), if_neg (by omega), prefsE_zero _ _ _ z4]
      · rw [allPr_append, show z :: r = [z] ++ r from rfl, allPr_append, allPr_one, ← List.append_assoc] at hn
        exact (List.nodup_append.1 hn).1
      · intro h
        obtain ⟨x, hx, e⟩ := List.any_eq_true.1 h
        rw [List.map_append] at hm
        exact (List.nodup_append.1 hm).2.2 x.1 (List.mem_map_of_mem hx) z.1 (by simp) ((sameS_iff _ _).1 e)
    unfold zonesE6
    rw [if_neg (not_not_intro h0)]
    exact zonesE6_zero r (pre ++ [z]) (fun y hy => hz y (by simp [hy])) (by rw [List.append_assoc]; exact hn) (by rw [List.append_assoc]; exact hm)
theorem checkZ_zero {l : List Zn} (h0 : l.length ≤ 64) (h1 : ∀ z ∈ l, znOk z) (h2 : (allPr l).Nodup) (h3 : (l.map (·.1)).Nodup) : checkZ l = 0 := by
  unfold checkZ
  rw [if_neg (by omega)]
  exact zonesE6_zero l [] h1 h2 h3

/-- A minimal list is valid. -/
theorem MinOf.valid {l M : List Zn} (h : MinOf l M) (hc : checkZ l = 0) : checkZ M = 0 := by
  obtain ⟨h1, h2⟩ := h.canon hc
  obtain ⟨l1, l2, l3, l4⟩ := checkZ_ok hc
  have hsub : ∀ z ∈ M, ∃ y ∈ l, y.1 = z.1 ∧ ∀ p ∈ z.2, p ∈ y.2 := fun z hz => by
    obtain ⟨p, hp⟩ := List.exists_mem_of_ne_nil _ (h1.2 z hz).1
    obtain ⟨y, hy, -, e⟩ := mem_prs.1 ((h2 (p, z.1)).1 (mem_prs.2 ⟨z, hz, hp, rfl⟩)).1
    refine ⟨y, hy, e.symm, fun q hq => ?_⟩
    obtain ⟨x, hx, hqx, e2⟩ := mem_prs.1 ((h2 (q, z.1)).1 (mem_prs.2 ⟨z, hz, hq, rfl⟩)).1
    rwa [nodup_key (·.1) l4 hy hx (e.symm.trans e2)]
  refine checkZ_zero ?_ (fun z hz => ?_) (h.keys hc) (canon_name h1)
  · have : (M.map (·.1)).length ≤ (l.map (·.1)).length := nodup_len (canon_name h1) fun x hx => by
      obtain ⟨z, hz, rfl⟩ := List.mem_map.1 hx
      obtain ⟨y, hy, e, -⟩ := hsub z hz
      exact List.mem_map.2 ⟨y, hy, e⟩
    simp only [List.length_map] at this
    omega
  · obtain ⟨y, hy, e, hp⟩ := hsub z hz
    obtain ⟨y1, y2, y3, y4⟩ := l2 y hy
    refine ⟨by rw [← e]; exact y1, List.length_pos_iff.2 (h1.2 z hz).1, ?_, fun p hpz => y4 p (hp p hpz)⟩
    have := nodup_len (pw_nodup ltD_irr (h1.2 z hz).2) hp
    omega

/-- What is found decides the minimal list. -/
theorem minOf_same {a b A B : List Zn} (ha : MinOf a A) (hb : MinOf b B) (ca : checkZ a = 0) (cb : checkZ b = 0) (h : ∀ s n, n ≤ s.size → longP (prs a) s n = longP (prs b) s n) : A = B := by
  obtain ⟨a1, a2⟩ := ha.canon ca
  obtain ⟨b1, b2⟩ := hb.canon cb
  refine canon_ext a1 b1 fun ⟨p, nm⟩ => ?_
  rw [a2, b2, char_prs (ok_keys ca) (ok_pos ca), char_prs (ok_keys cb) (ok_pos cb), h p _ (Nat.le_refl _), h p (p.size - 1) (Nat.sub_le _ _)]
/-- A minimal list is its own. -/
theorem MinOf.idem {l M N : List Zn} (h : MinOf l M) (hc : checkZ l = 0) (g : MinOf M N) : N = M :=
  minOf_same g h (h.valid hc) hc fun s n hn => h.longP hc s n hn

/-- Do two lists give every text the same zone? -/
def eqZ (a b : List Zn) : Bool := decide (checkZ a = 0) && (decide (checkZ b = 0) && ((allPr a).all (fun p => sameS (bestP p (prs a)).1 (bestP p (prs b)).1) && (allPr b).all (fun p => sameS (bestP p (prs b)).1 (bestP p (prs a)).1)))
theorem best_long {a b : List Zn} (ca : checkZ a = 0) (cb : checkZ b = 0) (s : ByteArray) : (bestP s (prs a)).1 = (bestP s (prs b)).1 ↔ longP (prs a) s s.size = longP (prs b) s s.size := by
  rw [longP_best _ s (ok_keys ca) (ok_val ca), longP_best _ s (ok_keys cb) (ok_val cb)]
  constructor
  · intro h; rw [h]
  · intro h; exact (Prod.mk.inj h).1
theorem eqZ_long {a b : List Zn} (ca : checkZ a = 0) (cb : checkZ b = 0) : eqZ a b = true ↔ ∀ s n, n ≤ s.size → longP (prs a) s n = longP (prs b) s n := by
  have e : eqZ a b = true ↔ ∀ p, p ∈ allPr a ∨ p ∈ allPr b → longP (prs a) p p.size = longP (prs b) p p.size := by
    unfold eqZ
    rw [decide_eq_true ca, decide_eq_true cb, Bool.true_and, Bool.true_and, Bool.and_eq_true, List.all_eq_true, List.all_eq_true]
    constructor
    · rintro ⟨h1, h2⟩ p (hp | hp)
      · exact (best_long ca cb p).1 ((sameS_iff _ _).1 (h1 p hp))
      · exact ((best_long cb ca p).1 ((sameS_iff _ _).1 (h2 p hp))).symm
    · intro h
      exact ⟨fun p hp => (sameS_iff _ _).2 ((best_long ca cb p).2 (h p (Or.inl hp))), fun p hp => (sameS_iff _ _).2 ((best_long cb ca p).2 (h p (Or.inr hp)).symm)⟩
  rw [e]
  constructor
  · intro h s n
    induction n with
    | zero => intro _; rfl
    | succ n ih =>
      intro hs
      obtain ⟨q, hq⟩ : ∃ q, s.extract 0 (n + 1) = q := ⟨_, rfl⟩
      have hz : q.size = n + 1 := by rw [← hq, ByteArray.size_extract]; omega
      by_cases hk : q ∈ allPr a ∨ q ∈ allPr b
      · have := h q hk
        rw [hz, ← hq, longP_take _ _ _ _ (Nat.le_refl _), longP_take _ _ _ _ (Nat.le_refl _)] at this
        exact this
      · have hm : ∀ l : List Zn, q ∉ allPr l → ∀ nm, (q, nm) ∉ prs l := fun l hl nm hmm => hl (by rw [← prs_keys]; exact List.mem_map.2 ⟨_, hmm, rfl⟩)
        rw [longP_miss hq (hm a fun x => hk (Or.inl x)), longP_miss hq (hm b fun x => hk (Or.inr x)), ih (by omega)]
  · intro h p _
    exact h p _ (Nat.le_refl _)
/-- Two lists are equal exactly if their minimal lists are one. -/
theorem eqZ_min {a b A B : List Zn} (ha : MinOf a A) (hb : MinOf b B) (ca : checkZ a = 0) (cb : checkZ b = 0) : eqZ a b = true ↔ A = B := by
  rw [eqZ_long ca cb]
  constructor
  · exact minOf_same ha hb ca cb
  · rintro rfl s n hn
    rw [← ha.longP ca s n hn, ← hb.longP cb s n hn]
theorem eqZ_find {a b : List Zn} (h : eqZ a b = true) (s : ByteArray) : findZ a s = findZ b s := by
  have h0 := h
  unfold eqZ at h0
  rw [Bool.and_eq_true, Bool.and_eq_true, decide_eq_true_eq, decide_eq_true_eq] at h0
  have hl := (eqZ_long h0.1 h0.2.1).1 h s s.size (Nat.le_refl _)
  unfold findZ
  rw [h0.1, h0.2.1, hl]
end Go.Proofs.Ytcfmndhjmlbcoaa
