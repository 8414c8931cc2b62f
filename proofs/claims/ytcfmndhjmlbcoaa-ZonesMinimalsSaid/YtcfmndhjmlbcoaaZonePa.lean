/-
  The reference's prefixes: the plain law of a sorted list that grows; the append of a whole list of texts.
-/
import Derived.Test.YtcfmndhjmlbcoaaZoneI
import Derived.Test.YtcfmndhjmlbcoaaZoneB
import Derived.Laws.AppendOwnNone
namespace Go.Proofs.Ytcfmndhjmlbcoaa
open Go.RowKit Go.Sort

/-- The kept prefixes of a name among pairs, ascending. -/
def PrefOf (L : List (ByteArray × ByteArray)) (nm : ByteArray) (K : List (ByteArray × ByteArray)) (N : List ByteArray) : Prop := N.Pairwise ltD ∧ ∀ p, p ∈ N ↔ (p, nm) ∈ K ∧ keepP L (p, nm) = true
theorem prefOf_skip {L K : List (ByteArray × ByteArray)} {nm q : ByteArray} {N : List ByteArray} (h : PrefOf L nm K N) (hk : keepP L (q, nm) = false) : PrefOf L nm (K ++ [(q, nm)]) N := by
  refine ⟨h.1, fun p => ?_⟩
  rw [h.2, List.mem_append, List.mem_singleton]
  constructor
  · rintro ⟨a, b⟩; exact ⟨Or.inl a, b⟩
  · rintro ⟨a | a, b⟩
    · exact ⟨a, b⟩
    · rw [a, hk] at b; cases b
theorem prefOf_other {L K : List (ByteArray × ByteArray)} {nm zn : ByteArray} {N ps : List ByteArray} (h : PrefOf L nm K N) (hz : ¬ zn = nm) : PrefOf L nm (K ++ ps.map fun p => (p, zn)) N := by
  refine ⟨h.1, fun p => ?_⟩
  rw [h.2, List.mem_append]
  constructor
  · rintro ⟨a, b⟩; exact ⟨Or.inl a, b⟩
  · rintro ⟨a | a, b⟩
    · exact ⟨a, b⟩
    · obtain ⟨x, -, e⟩ := List.mem_map.1 a
      exact absurd (congrArg Prod.snd e) hz
theorem prefOf_ins {L K : List (ByteArray × ByteArray)} {nm q : ByteArray} {N : List ByteArray} (h : PrefOf L nm K N) (hk : keepP L (q, nm) = true) (hq : (q, nm) ∉ K) (j : Nat) (hj : j ≤ N.length)
    (h1 : ∀ i (hi : i < N.length), j ≤ i → ltD q N[i]) (h2 : 0 < j → ¬ ltD q (N.getD (j - 1) ByteArray.empty)) : PrefOf L nm (K ++ [(q, nm)]) (N.take j ++ [q] ++ N.drop j) := by
  have hd : ∀ x ∈ N.drop j, ltD q x := fun x hx => by
    obtain ⟨i, hi, rfl⟩ := List.mem_iff_getElem.1 hx
    rw [List.getElem_drop]
    exact h1 _ _ (by omega)
  have ht : ∀ x ∈ N.take j, ltD x q := fun x hx => by
    obtain ⟨i, hi, rfl⟩ := List.mem_iff_getElem.1 hx
    rw [List.length_take] at hi
    rw [List.getElem_take]
    have h3 := h2 (by omega)
    rw [getD_lt _ (by omega)] at h3
    have h4 : ltD (N[j - 1]'(by omega)) q := Classical.byContradiction fun h4 => hq (by
      rw [ltD_tri h3 h4]
      exact ((h.2 _).1 (List.getElem_mem _)).1)
    by_cases e : i = j - 1
    · subst e; exact h4
    · exact ltD_trans (List.pairwise_iff_getElem.1 h.1 i (j - 1) (by omega) (by omega) (by omega)) h4
  refine ⟨?_, fun p => ?_⟩
  · have hp := h.1
    rw [← List.take_append_drop j N] at hp
    obtain ⟨p1, p2, p3⟩ := List.pairwise_append.1 hp
    rw [List.append_assoc]
    refine List.pairwise_append.2 ⟨p1, List.pairwise_cons.2 ⟨hd, p2⟩, fun a ha b hb => ?_⟩
    rcases List.mem_cons.1 hb with rfl | hb
    · exact ht a ha
    · exact p3 a ha b hb
  · have hm : p ∈ N ↔ p ∈ N.take j ∨ p ∈ N.drop j := by rw [← List.mem_append, List.take_append_drop]
    rw [List.append_assoc, List.mem_append, List.cons_append, List.nil_append, List.mem_cons, List.mem_append, List.mem_singleton]
    constructor
    · rintro (a | rfl | a)
      · have := (h.2 p).1 (hm.2 (Or.inl a)); exact ⟨Or.inl this.1, this.2⟩
      · exact ⟨Or.inr rfl, hk⟩
      · have := (h.2 p).1 (hm.2 (Or.inr a)); exact ⟨Or.inl this.1, this.2⟩
    · rintro ⟨a | a, b⟩
      · rcases hm.1 ((h.2 p).2 ⟨a, b⟩) with c | c
        · exact Or.inl c
        · exact Or.inr (Or.inr c)
      · exact Or.inr (Or.inl (congrArg Prod.fst a))

/-- What the specification asks of a prefix. -/
theorem keepP_best {l : List Zn} (hc : checkZ l = 0) {p nm : ByteArray} (hne : nm ≠ ByteArray.empty) : keepP (prs l) (p, nm) = !sameS (bestP (p.extract 0 (p.size - 1)) (prs l)).1 nm := by
  have hz : (p.extract 0 (p.size - 1)).size = p.size - 1 := by rw [ByteArray.size_extract]; omega
  have e : longP (prs l) p (p.size - 1) = ((bestP (p.extract 0 (p.size - 1)) (prs l)).1, !(bestP (p.extract 0 (p.size - 1)) (prs l)).1.toList.isEmpty) := by
    rw [← longP_best _ _ (ok_keys hc) (ok_val hc), hz, longP_take _ _ _ _ (Nat.le_refl _)]
  unfold keepP
  rw [e]
  generalize (bestP (p.extract 0 (p.size - 1)) (prs l)).1 = b
  cases h : sameS b nm with
  | false => simp [h]
  | true =>
    have := (sameS_iff _ _).1 h
    subst this
    have hb : b.toList.isEmpty = false := by
      rw [Lib.toList_data]
      cases h5 : b.data.toList with
      | nil => exact absurd (ByteArray.ext (Array.toList_inj.1 h5) : b = ByteArray.empty) hne
      | cons a r => rfl
    rw [hb]; rfl

/-- A prefix does not stand among those ahead of it. -/
theorem pr_fresh {l : List Zn} (hc : checkZ l = 0) (i : Nat) (hi : i < l.length) (k : Nat) (hk : k < l[i].2.length) (nm : ByteArray) : (l[i].2[k], nm) ∉ prs (l.take i) ++ (l[i].2.take k).map fun p => (p, l[i].1) := by
  intro h
  have hn := (checkZ_ok hc).2.2.1
  have e : l = l.take i ++ (l[i] :: l.drop (i + 1)) := by rw [← List.drop_eq_getElem_cons hi, List.take_append_drop]
  have e2 : l[i].2 = l[i].2.take k ++ (l[i].2[k] :: l[i].2.drop (k + 1)) := by rw [← List.drop_eq_getElem_cons hk, List.take_append_drop]
  have hA : allPr l = (allPr (l.take i) ++ l[i].2.take k) ++ (l[i].2[k] :: (l[i].2.drop (k + 1) ++ allPr (l.drop (i + 1)))) := by
    have h1 : allPr l = allPr (l.take i) ++ (l[i].2 ++ allPr (l.drop (i + 1))) := by
      have := congrArg allPr e
      rw [this, allPr_append]
      rfl
    rw [h1]
    have h2 : l[i].2 ++ allPr (l.drop (i + 1)) = l[i].2.take k ++ (l[i].2[k] :: (l[i].2.drop (k + 1) ++ allPr (l.drop (i + 1)))) := by
      conv => lhs; rw [e2]
      rw [List.append_assoc]
      rfl
    rw [h2, List.append_assoc]
  rw [hA] at hn
  refine (List.nodup_append.1 hn).2.2 l[i].2[k] ?_ l[i].2[k] (by simp) rfl
  rcases List.mem_append.1 h with h | h
  · rw [List.mem_append]; exact Or.inl (by rw [← prs_keys]; exact List.mem_map.2 ⟨_, h, rfl⟩)
  · obtain ⟨p, hp, e3⟩ := List.mem_map.1 h
    rw [List.mem_append]
    have := congrArg Prod.fst e3
    simp only at this
    exact Or.inr (this ▸ hp)

theorem append_strs {w : World} {ops : Array Oper} {rest : List Oper} {o : Oper} {a : Act} {Q : Exit → Act → World → Prop} (hgd : o.guard = none) (s x : Operand)
    (ho : o.op = .call { callee := .builtin .append, args := #[s, x], argTypes := #[53, 53] })
    (base : Nat) (hbase : base ≤ w.heap.size) (v vx : Value) (L X : List ByteArray) (hs : a.eval s = v) (hx : a.eval x = vx) (hown : w.ownsRow base 9 1 v L.length (L.map Value.string)) (hX : StrsAt w vx X) (hlen : L.length + X.length ≤ 10000)
    (h : ∀ R : List ByteArray, RowKit.Hid (R = L ++ X) → ∀ v' w', w'.ownsRow base 9 1 v' R.length (R.map Value.string) → Below base w w' → wpList Try.prog ops Q rest (a.put o.dst v') w') : wpList Try.prog ops Q (o :: rest) a w := by
  obtain ⟨i0, hi, hz0, hz1, hz2⟩ := info_parts Try.stringInfo
  obtain ⟨av, cap, rfl, hlc, hm, hX⟩ := hX
  cases av with
  | none =>
    obtain rfl := hm.2 rfl
    obtain rfl : X = [] := by
      cases X with
      | nil => rfl
      | cons p r => obtain ⟨b, o, e, -⟩ := hX (by simp); cases e
    refine wpList_append_own_none hgd s x _ ho base 9 i0 1 Try.underlying53 hi v L.length _ hs hown hx (h L (Lib.hid (List.append_nil _).symm) v w hown (Below.refl _ _))
  | some ad =>
    refine wpList_append_own _ hgd s x _ ho base 9 i0 _ 1 16 Try.underlying53 hi hz0 hz1 hz2 rfl (by decide) v L.length _ hs hown ad X.length cap (X.map Value.string) hx (by rw [List.length_map, Nat.mul_one]) ?_ ?_ (by unfold maxLen; omega) (by omega) hbase ?_
    · intro j u hj
      have hjl : j < X.length := by
        have := (List.getElem?_eq_some_iff.1 hj).1
        simpa using this
      obtain ⟨b, o, e, -, hx2⟩ := hX (by rintro rfl; cases hjl)
      cases e
      obtain ⟨c0, -⟩ := hx2 j hjl
      rw [show (⟨b, o, none⟩ : Addr).add j = ⟨b, o + j, none⟩ by unfold Addr.add; split <;> simp_all]
      rw [Nat.mul_one] at c0
      rw [c0, ← hj]
      simp [hjl]
    · intro u hu
      obtain ⟨p, -, rfl⟩ := List.mem_map.1 hu
      rfl
    · intro v' w' h1 h2 _
      refine h _ (Lib.hid rfl) v' w' ?_ ((Below.refl base w).grown h2 hbase (fun g hg => (ownsRow_block hown g hg).1))
      rw [List.length_append, List.map_append]
      exact h1

theorem addr_add (g j : Nat) : (⟨g, 0, none⟩ : Addr).add j = ⟨g, j, none⟩ := by unfold Addr.add; split <;> simp_all
theorem strs_take_own {w : World} {base c : Nat} {a : Option Addr} {N : List ByteArray} (h : w.ownsRow base 9 1 (.slice a N.length c) N.length (N.map Value.string)) (hz : ∀ s ∈ N, s.size ≤ maxLen) (j : Nat) (hj : j ≤ N.length) : StrsAt w (.slice a j c) (N.take j) := by
  obtain ⟨av, cap, e, hl, hm, hx⟩ := strsAt_own h hz
  cases e
  have hlt : (N.take j).length = j := by rw [List.length_take]; omega
  refine ⟨a, c, by rw [hlt], by omega, hm, fun hne => ?_⟩
  have hN : N ≠ [] := by rintro rfl; simp at hne
  obtain ⟨b, o, rfl, hB, hx⟩ := hx hN
  refine ⟨b, o, rfl, hB, fun i hi => ?_⟩
  rw [List.getElem_take]
  exact hx i (by omega)
theorem strs_drop_own {w : World} {base c : Nat} {a : Option Addr} {N : List ByteArray} (h : w.ownsRow base 9 1 (.slice a N.length c) N.length (N.map Value.string)) (hz : ∀ s ∈ N, s.size ≤ maxLen) (j : Nat) (hj : j ≤ N.length) :
    StrsAt w (.slice (if c = j then a else a.map (·.add j)) (N.length - j) (c - j)) (N.drop j) := by
  obtain ⟨av, cap, e, hl, hm, hx⟩ := strsAt_own h hz
  cases e
  have hlt : (N.drop j).length = N.length - j := List.length_drop
  by_cases hc : c = j
  · rw [if_pos hc]
    have hN : N.drop j = [] := List.drop_eq_nil_of_le (by omega)
    refine ⟨a, c - j, by rw [hlt], by omega, ⟨by have := hm.1; omega, fun e => by have := hm.2 e; omega⟩, fun hne => absurd hN hne⟩
  · rw [if_neg hc]
    cases a with
    | none => have := hm.2 rfl; omega
    | some ad =>
      refine ⟨some (ad.add j), c - j, by rw [hlt]; rfl, by omega, ⟨by have := hm.1; omega, fun e => by cases e⟩, fun hne => ?_⟩
      have hN : N ≠ [] := by rintro rfl; simp at hne
      obtain ⟨b, o, e, hB, hx2⟩ := hx hN
      cases e
      refine ⟨b, o + j, by unfold Addr.add; split <;> simp_all, hB, fun i hi => ?_⟩
      rw [List.getElem_drop]
      have := hx2 (j + i) (by omega)
      rw [Nat.mul_one] at this ⊢
      rw [Nat.add_assoc]
      exact this
end Go.Proofs.Ytcfmndhjmlbcoaa
