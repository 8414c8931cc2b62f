/-
  The plain law of minimal lists of zones: canonical lists, what a minimal list is, that it finds as its list, that there is but one.
-/
import Derived.Test.YtcfmndhjmlbcoaaZoneW
import Derived.Sort.Walk0
namespace Go.Proofs.Ytcfmndhjmlbcoaa
open Go.RowKit Go.Sort

/-- Texts in order. -/
def ltT (a b : ByteArray) : Prop := bytesT a < bytesT b
/-- Numbers in order: the shorter ones first. -/
def ltD (a b : ByteArray) : Prop := a.size < b.size ∨ (a.size = b.size ∧ ltT a b)

theorem bytesT_inj {a b : ByteArray} (h : bytesT a = bytesT b) : a = b := by rw [← textT_bytesT a, ← textT_bytesT b, h]
theorem ltT_irr (a : ByteArray) : ¬ ltT a a := List.lt_irrefl _
theorem ltT_trans {a b c : ByteArray} (h : ltT a b) (g : ltT b c) : ltT a c := List.lt_trans h g
theorem ltT_asymm {a b : ByteArray} (h : ltT a b) : ¬ ltT b a := fun g => ltT_irr _ (ltT_trans h g)
theorem ltT_tri {a b : ByteArray} (h : ¬ ltT a b) (g : ¬ ltT b a) : a = b := bytesT_inj (List.le_antisymm (List.not_lt.1 g) (List.not_lt.1 h))
theorem ltD_irr (a : ByteArray) : ¬ ltD a a := by
  rintro (h | ⟨-, h⟩)
  · omega
  · exact ltT_irr _ h
theorem ltD_trans {a b c : ByteArray} (h : ltD a b) (g : ltD b c) : ltD a c := by
  rcases h with h | ⟨h1, h2⟩ <;> rcases g with g | ⟨g1, g2⟩
  · exact Or.inl (by omega)
  · exact Or.inl (by omega)
  · exact Or.inl (by omega)
  · exact Or.inr ⟨by omega, ltT_trans h2 g2⟩
theorem ltD_asymm {a b : ByteArray} (h : ltD a b) : ¬ ltD b a := fun g => ltD_irr _ (ltD_trans h g)
theorem ltD_tri {a b : ByteArray} (h : ¬ ltD a b) (g : ¬ ltD b a) : a = b := by
  have h1 : ¬ a.size < b.size := fun e => h (Or.inl e)
  have h2 : ¬ b.size < a.size := fun e => g (Or.inl e)
  exact ltT_tri (fun e => h (Or.inr ⟨by omega, e⟩)) (fun e => g (Or.inr ⟨by omega, e⟩))

theorem pw_ext {α : Type} {r : α → α → Prop} (irr : ∀ a, ¬ r a a) (asy : ∀ a b, r a b → ¬ r b a) : ∀ (l m : List α), l.Pairwise r → m.Pairwise r → (∀ x, x ∈ l ↔ x ∈ m) → l = m
  | [], [], _, _, _ => rfl
  | [], y :: m, _, _, h => absurd ((h y).2 (by simp)) (by simp)
  | x :: l, [], _, _, h => absurd ((h x).1 (by simp)) (by simp)
  | x :: l, y :: m, hl, hm, h => by
    obtain ⟨l1, l2⟩ := List.pairwise_cons.1 hl
    obtain ⟨m1, m2⟩ := List.pairwise_cons.1 hm
    have e : x = y := Classical.byContradiction fun ne => by
      have hx : x ∈ m := (List.mem_cons.1 ((h x).1 (by simp))).resolve_left ne
      have hy : y ∈ l := (List.mem_cons.1 ((h y).2 (by simp))).resolve_left fun e => ne e.symm
      exact asy _ _ (l1 y hy) (m1 x hx)
    subst e
    rw [pw_ext irr asy l m l2 m2 fun z => ⟨fun hz => (List.mem_cons.1 ((h z).1 (List.mem_cons_of_mem _ hz))).resolve_left fun e => irr x (e ▸ l1 z hz),
      fun hz => (List.mem_cons.1 ((h z).2 (List.mem_cons_of_mem _ hz))).resolve_left fun e => irr x (e ▸ m1 z hz)⟩]

theorem pw_nodup {α : Type} {r : α → α → Prop} (irr : ∀ a, ¬ r a a) {l : List α} (h : l.Pairwise r) : l.Nodup :=
  List.Pairwise.imp (fun {a b} (hab : r a b) (e : a = b) => by subst e; exact irr _ hab) h
theorem nodup_key {α β : Type} (f : α → β) : ∀ {l : List α}, (l.map f).Nodup → ∀ {x y : α}, x ∈ l → y ∈ l → f x = f y → x = y
  | [], _, _, _, h, _, _ => by cases h
  | a :: l, hn, x, y, hx, hy, e => by
    rw [List.map_cons, List.nodup_cons] at hn
    rcases List.mem_cons.1 hx with e1 | kx <;> rcases List.mem_cons.1 hy with e2 | ky
    · rw [e1, e2]
    · subst e1
      exact absurd (List.mem_map.2 ⟨y, ky, e.symm⟩ : f x ∈ l.map f) hn.1
    · subst e2
      exact absurd (List.mem_map.2 ⟨x, kx, e⟩ : f y ∈ l.map f) hn.1
    · exact nodup_key f hn.2 kx ky e
theorem nodup_len {α : Type} [DecidableEq α] : ∀ {l m : List α}, l.Nodup → (∀ x ∈ l, x ∈ m) → l.length ≤ m.length
  | [], _, _, _ => Nat.zero_le _
  | a :: l, m, hn, h => by
    rw [List.nodup_cons] at hn
    have ha := h a (by simp)
    have h2 : l.length ≤ (m.erase a).length := nodup_len hn.2 fun x hx => (List.mem_erase_of_ne fun e => hn.1 (by rw [← e]; exact hx)).2 (h x (by simp [hx]))
    rw [List.length_erase_of_mem ha] at h2
    have := List.length_pos_of_mem ha
    simp only [List.length_cons]
    omega

/-- A canonical list of zones. -/
def Canon (m : List Zn) : Prop := m.Pairwise (fun z y => ltT z.1 y.1) ∧ ∀ z ∈ m, z.2 ≠ [] ∧ z.2.Pairwise ltD
theorem mem_prs {l : List Zn} {p nm : ByteArray} : (p, nm) ∈ prs l ↔ ∃ z ∈ l, p ∈ z.2 ∧ nm = z.1 := by
  constructor
  · exact prs_mem
  · rintro ⟨z, hz, hp, rfl⟩
    exact List.mem_flatMap.2 ⟨z, hz, List.mem_map.2 ⟨p, hp, rfl⟩⟩
theorem canon_name {m : List Zn} (h : Canon m) : (m.map (·.1)).Nodup := pw_nodup ltT_irr (List.pairwise_map.2 h.1)
theorem canon_sub {a b : List Zn} (ha : Canon a) (hb : Canon b) (h : ∀ x, x ∈ prs a ↔ x ∈ prs b) (z : Zn) (hz : z ∈ a) : z ∈ b := by
  obtain ⟨z1, z2⟩ := ha.2 z hz
  obtain ⟨p, hp⟩ := List.exists_mem_of_ne_nil _ z1
  obtain ⟨y, hy, hpy, hn⟩ := mem_prs.1 ((h (p, z.1)).1 (mem_prs.2 ⟨z, hz, hp, rfl⟩))
  have e : z.2 = y.2 := pw_ext ltD_irr (fun _ _ => ltD_asymm) _ _ z2 (hb.2 y hy).2 fun q => by
    constructor
    · intro hq
      obtain ⟨x, hx, hqx, hn2⟩ := mem_prs.1 ((h (q, z.1)).1 (mem_prs.2 ⟨z, hz, hq, rfl⟩))
      rwa [nodup_key (·.1) (canon_name hb) hy hx (hn.symm.trans hn2)]
    · intro hq
      obtain ⟨x, hx, hqx, hn2⟩ := mem_prs.1 ((h (q, y.1)).2 (mem_prs.2 ⟨y, hy, hq, rfl⟩))
      rwa [nodup_key (·.1) (canon_name ha) hz hx (hn.trans hn2)]
  have : z = y := Prod.ext hn e
  rw [this]; exact hy
theorem canon_ext {a b : List Zn} (ha : Canon a) (hb : Canon b) (h : ∀ x, x ∈ prs a ↔ x ∈ prs b) : a = b :=
  pw_ext (r := fun z y : Zn => ltT z.1 y.1) (fun _ => ltT_irr _) (fun _ _ => ltT_asymm) _ _ ha.1 hb.1 fun z => ⟨canon_sub ha hb h z, canon_sub hb ha (fun x => (h x).symm) z⟩

/-- What a minimal list keeps. -/
def keepP (L : List (ByteArray × ByteArray)) (x : ByteArray × ByteArray) : Bool := !((longP L x.1 (x.1.size - 1)).2 && sameS (longP L x.1 (x.1.size - 1)).1 x.2)
/-- The minimal list of zones. -/
def MinOf (l M : List Zn) : Prop := if checkZ l ≠ 0 then M = [] else Canon M ∧ ∀ x, x ∈ prs M ↔ x ∈ prs l ∧ keepP (prs l) x = true
theorem MinOf.one {l M N : List Zn} (h : MinOf l M) (g : MinOf l N) : M = N := by
  unfold MinOf at h g
  by_cases hc : checkZ l ≠ 0
  · rw [if_pos hc] at h g; rw [h, g]
  · rw [if_neg hc] at h g
    exact canon_ext h.1 g.1 fun x => (h.2 x).trans (g.2 x).symm

theorem take_take (s : ByteArray) {k n : Nat} (h : k ≤ n) : (s.extract 0 n).extract 0 k = s.extract 0 k := by
  apply ByteArray.ext
  simp only [ByteArray.data_extract, Array.extract_extract]
  congr 1
  omega
theorem take_all (s : ByteArray) : s.extract 0 s.size = s := by
  apply ByteArray.ext
  rw [ByteArray.data_extract]
  exact Array.extract_eq_self_of_le (Nat.le_refl _)
theorem longP_take (L : List (ByteArray × ByteArray)) (s : ByteArray) (n : Nat) : ∀ k, k ≤ n → longP L (s.extract 0 n) k = longP L s k
  | 0, _ => rfl
  | k + 1, h => by
    unfold longP
    rw [take_take s h, longP_take L s n k (by omega)]
theorem key_mem {L : List (ByteArray × ByteArray)} {q : ByteArray} : L.any (fun x => sameS x.1 q) = true ↔ ∃ nm, (q, nm) ∈ L := by
  rw [List.any_eq_true]
  constructor
  · rintro ⟨x, hx, e⟩
    have := (sameS_iff _ _).1 e
    exact ⟨x.2, by rw [← this]; exact hx⟩
  · rintro ⟨nm, h⟩
    exact ⟨_, h, (sameS_iff _ _).2 rfl⟩
theorem longP_hit {L : List (ByteArray × ByteArray)} (hn : (L.map (·.1)).Nodup) {s q nm : ByteArray} {n : Nat} (e : s.extract 0 (n + 1) = q) (h : (q, nm) ∈ L) : longP L s (n + 1) = (nm, true) := by
  unfold longP
  rw [e, if_pos (key_mem.2 ⟨nm, h⟩), valP_at L hn _ h]
theorem longP_miss {L : List (ByteArray × ByteArray)} {s q : ByteArray} {n : Nat} (e : s.extract 0 (n + 1) = q) (h : ∀ nm, (q, nm) ∉ L) : longP L s (n + 1) = longP L s n := by
  rw [longP, e, if_neg fun k => by obtain ⟨nm, hm⟩ := key_mem.1 k; exact h nm hm]

theorem keepP_iff (L : List (ByteArray × ByteArray)) (p nm : ByteArray) : keepP L (p, nm) = true ↔ longP L p (p.size - 1) ≠ (nm, true) := by
  unfold keepP
  generalize longP L p (p.size - 1) = r
  obtain ⟨a, b⟩ := r
  cases b <;> simp [Prod.ext_iff] <;> rw [← Bool.not_eq_true, sameS_iff]
/-- What is kept depends on the zones that are found alone. -/
theorem char_prs {L : List (ByteArray × ByteArray)} (hn : (L.map (·.1)).Nodup) (hs : ∀ x ∈ L, 0 < x.1.size) (p nm : ByteArray) :
    ((p, nm) ∈ L ∧ keepP L (p, nm) = true) ↔ 0 < p.size ∧ longP L p p.size = (nm, true) ∧ longP L p (p.size - 1) ≠ (nm, true) := by
  rw [keepP_iff]
  by_cases h0 : 0 < p.size
  · obtain ⟨n, hp⟩ : ∃ n, p.size = n + 1 := ⟨p.size - 1, by omega⟩
    have e : p.extract 0 (n + 1) = p := by rw [← hp, take_all]
    rw [hp, Nat.add_sub_cancel]
    constructor
    · rintro ⟨h1, h2⟩
      exact ⟨by omega, longP_hit hn e h1, h2⟩
    · rintro ⟨-, h1, h2⟩
      refine ⟨?_, h2⟩
      by_cases hk : ∃ m, (p, m) ∈ L
      · obtain ⟨m, hm⟩ := hk
        rw [longP_hit hn e hm] at h1
        have := congrArg Prod.fst h1
        simp only at this
        rw [← this]; exact hm
      · rw [longP_miss e fun m hm => hk ⟨m, hm⟩] at h1
        exact absurd h1 h2
  · constructor
    · rintro ⟨h1, -⟩; exact absurd (hs _ h1) h0
    · rintro ⟨h1, -⟩; exact absurd h1 h0

theorem ok_keys {l : List Zn} (h : checkZ l = 0) : ((prs l).map (·.1)).Nodup := by rw [prs_keys]; exact (checkZ_ok h).2.2.1
theorem num_pos {s : ByteArray} (h : isNum s = true) : 0 < s.size := by
  unfold isNum at h
  rw [Bool.and_eq_true, decide_eq_true_eq] at h
  omega
theorem ok_pos {l : List Zn} (h : checkZ l = 0) : ∀ x ∈ prs l, 0 < x.1.size := fun x hx => by
  obtain ⟨z, hz, hp, -⟩ := prs_mem hx
  exact num_pos (((checkZ_ok h).2.1 z hz).2.2.2 _ hp)
theorem ok_val {l : List Zn} (h : checkZ l = 0) : ∀ x ∈ prs l, 0 < x.2.size := fun x hx => by
  obtain ⟨z, hz, -, e⟩ := prs_mem hx
  rw [e]
  exact isName_pos ((checkZ_ok h).2.1 z hz).1
theorem MinOf.canon {l M : List Zn} (h : MinOf l M) (hc : checkZ l = 0) : Canon M ∧ ∀ x, x ∈ prs M ↔ x ∈ prs l ∧ keepP (prs l) x = true := by
  unfold MinOf at h
  rwa [if_neg (not_not_intro hc)] at h
theorem MinOf.keys {l M : List Zn} (h : MinOf l M) (hc : checkZ l = 0) : (allPr M).Nodup := by
  obtain ⟨h1, h2⟩ := h.canon hc
  unfold allPr
  refine List.pairwise_flatMap.2 ⟨fun z hz => pw_nodup ltD_irr (h1.2 z hz).2, h1.1.imp_of_mem fun {z y} hz hy hlt p hp q hq e => ?_⟩
  subst e
  have a1 := ((h2 (p, z.1)).1 (mem_prs.2 ⟨z, hz, hp, rfl⟩)).1
  have a2 := ((h2 (p, y.1)).1 (mem_prs.2 ⟨y, hy, hq, rfl⟩)).1
  have := nodup_key (·.1) (ok_keys hc) a1 a2 rfl
  have := congrArg Prod.snd this
  simp only at this
  rw [this] at hlt
  exact ltT_irr _ hlt
/-- A minimal list finds as its list does. -/
theorem MinOf.longP {l M : List Zn} (h : MinOf l M) (hc : checkZ l = 0) (s : ByteArray) : ∀ n, n ≤ s.size → longP (prs M) s n = longP (prs l) s n
  | 0, _ => rfl
  | n + 1, hs => by
    have ih := h.longP hc s n (by omega)
    have hk := h.keys hc
    rw [← prs_keys] at hk
    obtain ⟨h1, h2⟩ := h.canon hc
    obtain ⟨q, hq⟩ : ∃ q, s.extract 0 (n + 1) = q := ⟨_, rfl⟩
    have hz : q.size = n + 1 := by rw [← hq, ByteArray.size_extract]; omega
    by_cases hm : ∃ nm, (q, nm) ∈ prs M
    · obtain ⟨nm, hm⟩ := hm
      rw [longP_hit hk hq hm, longP_hit (ok_keys hc) hq ((h2 _).1 hm).1]
    · rw [longP_miss hq fun nm hh => hm ⟨nm, hh⟩, ih]
      by_cases hl : ∃ nm, (q, nm) ∈ prs l
      · obtain ⟨nm, hl⟩ := hl
        rw [longP_hit (ok_keys hc) hq hl]
        have hnk : ¬ keepP (prs l) (q, nm) = true := fun e => hm ⟨nm, (h2 _).2 ⟨hl, e⟩⟩
        rw [keepP_iff, Decidable.not_not, hz, Nat.add_sub_cancel, ← hq, longP_take _ _ _ _ (Nat.le_succ _)] at hnk
        exact hnk
      · rw [longP_miss hq fun nm hh => hl ⟨nm, hh⟩]
end Go.Proofs.Ytcfmndhjmlbcoaa
