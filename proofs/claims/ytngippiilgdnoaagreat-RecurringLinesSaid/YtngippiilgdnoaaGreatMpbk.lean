/-
  The products that an account ever had, plainly: strictly ascending lists with given members are one.
-/
import Derived.Test.YtngippiilgdnoaaGreatMpav
import Derived.Test.YtngippiilgdnoaaGreatMpbj
namespace Go.Proofs.YtngippiilgdnoaaGreat

section
variable {α : Type} {r : α → α → Prop}
/-- Strictly ascending lists with the same members are one. -/
theorem ord_one (hi : ∀ x, ¬ r x x) (ht : ∀ x y z, r x y → r y z → r x z) : ∀ l m : List α, l.Pairwise r → m.Pairwise r → (∀ x, x ∈ l ↔ x ∈ m) → l = m
  | [], [], _, _, _ => rfl
  | [], y :: q, _, _, h => absurd ((h y).2 (by simp)) (by simp)
  | x :: p, [], _, _, h => absurd ((h x).1 (by simp)) (by simp)
  | x :: p, y :: q, hl, hm, h => by
    have hl1 := List.pairwise_cons.1 hl
    have hm1 := List.pairwise_cons.1 hm
    have hxy : x = y := by
      rcases List.mem_cons.1 ((h x).1 (by simp)) with e | hx
      · exact e
      · rcases List.mem_cons.1 ((h y).2 (by simp)) with e | hy
        · exact e.symm
        · exact absurd (ht _ _ _ (hl1.1 y hy) (hm1.1 x hx)) (hi x)
    subst hxy
    rw [ord_one hi ht p q hl1.2 hm1.2 fun z => ⟨fun hz => ?_, fun hz => ?_⟩]
    · rcases List.mem_cons.1 ((h z).1 (List.mem_cons_of_mem _ hz)) with e | hz2
      · subst e; exact absurd (hl1.1 z hz) (hi z)
      · exact hz2
    · rcases List.mem_cons.1 ((h z).2 (List.mem_cons_of_mem _ hz)) with e | hz2
      · subst e; exact absurd (hm1.1 z hz) (hi z)
      · exact hz2
/-- Where one more stands. -/
def PlaceO (r : α → α → Prop) (O : List α) (x : α) (k : Nat) : Prop := k ≤ O.length ∧ (∀ j (hj : j < O.length), k ≤ j → r x O[j]) ∧ ∀ j (hj : j < O.length), j + 1 = k → ¬ r x O[j]
theorem place_ex (O : List α) (x : α) : ∀ m, m ≤ O.length → (∀ j (hj : j < O.length), m ≤ j → r x O[j]) → ∃ k, PlaceO r O x k
  | 0, hm, h => ⟨0, hm, h, fun j _ e => by omega⟩
  | m + 1, hm, h => by
    by_cases hx : r x O[m]
    · exact place_ex O x m (by omega) fun j hj hmj => by
        rcases Nat.lt_or_ge m j with h1 | h1
        · exact h j hj h1
        · have : j = m := by omega
          subst this; exact hx
    · exact ⟨m + 1, hm, h, fun j hj e => by
        have : j = m := by omega
        subst this; exact hx⟩
theorem ord_ins (ht : ∀ x y z, r x y → r y z → r x z) (hto : ∀ x y, ¬ r x y → x ≠ y → r y x) {O : List α} {x : α} {k : Nat} (hO : O.Pairwise r) (hx : x ∉ O) (hp : PlaceO r O x k) :
    (O.take k ++ [x] ++ O.drop k).Pairwise r ∧ ∀ y, y ∈ O.take k ++ [x] ++ O.drop k ↔ (y ∈ O ∨ y = x) := by
  obtain ⟨hk, hb, ha⟩ := hp
  have hcut := List.take_append_drop k O
  have hO2 := hO
  rw [← hcut] at hO2
  have hsp := List.pairwise_append.1 hO2
  have hbef : ∀ y ∈ O.take k, r y x := fun y hy => by
    obtain ⟨j, hj, rfl⟩ := List.mem_take_iff_getElem.1 hy
    have hjl : j < O.length := by omega
    have hl : k - 1 < O.length := by omega
    have h1 : r O[k - 1] x := hto _ _ (ha (k - 1) hl (by omega)) (fun e => hx (e ▸ List.getElem_mem hl))
    rcases Nat.lt_or_ge j (k - 1) with h | h
    · exact ht _ _ _ (List.pairwise_iff_getElem.1 hO j (k - 1) hjl hl h) h1
    · have : j = k - 1 := by omega
      subst this; exact h1
  have haft : ∀ y ∈ O.drop k, r x y := fun y hy => by
    obtain ⟨j, hj, rfl⟩ := List.mem_iff_getElem.1 hy
    rw [List.length_drop] at hj
    rw [List.getElem_drop]
    exact hb (k + j) (by omega) (by omega)
  refine ⟨?_, fun y => ?_⟩
  · refine List.pairwise_append.2 ⟨List.pairwise_append.2 ⟨hsp.1, List.pairwise_singleton _ _, fun a ha1 b hb1 => ?_⟩, hsp.2.1, fun a ha1 b hb1 => ?_⟩
    · rw [List.mem_singleton] at hb1
      subst hb1; exact hbef a ha1
    · rcases List.mem_append.1 ha1 with h | h
      · exact hsp.2.2 a h b hb1
      · rw [List.mem_singleton] at h
        subst h; exact haft b hb1
  · rw [List.mem_append, List.mem_append, List.mem_singleton]
    have : y ∈ O ↔ y ∈ O.take k ∨ y ∈ O.drop k := by rw [← List.mem_append, hcut]
    rw [this]
    constructor
    · rintro ((h | h) | h)
      · exact Or.inl (Or.inl h)
      · exact Or.inr h
      · exact Or.inl (Or.inr h)
    · rintro ((h | h) | h)
      · exact Or.inl (Or.inl h)
      · exact Or.inr h
      · exact Or.inl (Or.inr h)
end
theorem ltS_tot {a b : ByteArray} (h : ¬ ltS a b = true) (hne : a ≠ b) : ltS b a = true := by
  rw [ltS_iff] at h ⊢
  refine Classical.byContradiction fun h2 => hne ?_
  have e := List.le_antisymm (List.not_lt.1 h2) (List.not_lt.1 h)
  exact ByteArray.ext (Array.toList_inj.1 e)
theorem ltI_tot {a b : Int} (h : ¬ a < b) (hne : a ≠ b) : b < a := by omega

/-- A subscription and a product. -/
abbrev Had := Int × ByteArray
def hadLt (x y : Had) : Prop := x.1 < y.1 ∨ (x.1 = y.1 ∧ ltS x.2 y.2 = true)
theorem hadLt_irr (x : Had) : ¬ hadLt x x := by
  rintro (h | ⟨-, h⟩)
  · omega
  · exact ltS_irrefl _ h
theorem hadLt_trans (x y z : Had) (h : hadLt x y) (g : hadLt y z) : hadLt x z := by
  rcases h with h | ⟨h, h2⟩ <;> rcases g with g | ⟨g, g2⟩
  · exact Or.inl (by omega)
  · exact Or.inl (by omega)
  · exact Or.inl (by omega)
  · exact Or.inr ⟨h.trans g, ltS_trans h2 g2⟩
theorem hadLt_tot (x y : Had) (h : ¬ hadLt x y) (hne : x ≠ y) : hadLt y x := by
  unfold hadLt at *
  by_cases h1 : y.1 < x.1
  · exact Or.inl h1
  · by_cases h2 : x.1 = y.1
    · refine Or.inr ⟨h2.symm, ltS_tot (fun e => h (Or.inr ⟨h2, e⟩)) fun e => hne (Prod.ext h2 e)⟩
    · exact absurd (Or.inl (by omega)) h

structure SubsOk (l : List Ev) (a : Int) (O : List Int) : Prop where
  srt : O.Pairwise (· < ·)
  mem : ∀ x, x ∈ O ↔ ∃ e ∈ l, e.kd = 3 ∧ e.ac = a ∧ e.sb = x
structure ProdsOk (l : List Ev) (s : Int) (N : List ByteArray) : Prop where
  srt : N.Pairwise (fun a b => ltS a b = true)
  mem : ∀ x, x ∈ N ↔ ∃ e ∈ l, e.kd = 8 ∧ e.sb = s ∧ e.nm = x
structure HadOk (l : List Ev) (a : Int) (H : List Had) : Prop where
  srt : H.Pairwise hadLt
  mem : ∀ h, h ∈ H ↔ ∃ e ∈ l, e.kd = 8 ∧ (∃ f ∈ l, f.kd = 3 ∧ f.ac = a ∧ f.sb = e.sb) ∧ (e.sb, e.nm) = h
theorem ProdsOk.one {l : List Ev} {s : Int} {N M : List ByteArray} (h : ProdsOk l s N) (g : ProdsOk l s M) : N = M :=
  ord_one (r := fun a b => ltS a b = true) (fun x => ltS_irrefl x) (fun _ _ _ h g => ltS_trans h g) _ _ h.srt g.srt fun x => (h.mem x).trans (g.mem x).symm
theorem HadOk.one {l : List Ev} {a : Int} {N M : List Had} (h : HadOk l a N) (g : HadOk l a M) : N = M :=
  ord_one hadLt_irr hadLt_trans _ _ h.srt g.srt fun x => (h.mem x).trans (g.mem x).symm
/-- One event more, for the products of a subscription. -/
theorem ProdsOk.skip {l : List Ev} {s : Int} {N : List ByteArray} (h : ProdsOk l s N) (e : Ev) (hs : ¬ (e.kd = 8 ∧ e.sb = s) ∨ e.nm ∈ N) : ProdsOk (l ++ [e]) s N :=
  ⟨h.srt, fun x => by
    rw [h.mem x]
    constructor
    · rintro ⟨f, hf, q⟩; exact ⟨f, by simp [hf], q⟩
    · rintro ⟨f, hf, q1, q2, q3⟩
      rcases List.mem_append.1 hf with hf | hf
      · exact ⟨f, hf, q1, q2, q3⟩
      · rw [List.mem_singleton] at hf
        subst hf
        rcases hs with hs | hs
        · exact absurd ⟨q1, q2⟩ hs
        · exact (h.mem x).1 (q3 ▸ hs)⟩
theorem ProdsOk.ins {l : List Ev} {s : Int} {N : List ByteArray} (h : ProdsOk l s N) (e : Ev) (h1 : e.kd = 8) (h2 : e.sb = s) (hn : e.nm ∉ N) {k : Nat} (hp : PlaceO (fun a b => ltS a b = true) N e.nm k) : ProdsOk (l ++ [e]) s (N.take k ++ [e.nm] ++ N.drop k) := by
  obtain ⟨q1, q2⟩ := ord_ins (r := fun a b => ltS a b = true) (fun _ _ _ h g => ltS_trans h g) (fun _ _ => ltS_tot) h.srt hn hp
  refine ⟨q1, fun x => ?_⟩
  rw [q2, h.mem x]
  constructor
  · rintro (⟨f, hf, q⟩ | rfl)
    · exact ⟨f, by simp [hf], q⟩
    · exact ⟨e, by simp, h1, h2, rfl⟩
  · rintro ⟨f, hf, q⟩
    rcases List.mem_append.1 hf with hf | hf
    · exact Or.inl ⟨f, hf, q⟩
    · rw [List.mem_singleton] at hf
      subst hf
      exact Or.inr q.2.2.symm
theorem SubsOk.skip {l : List Ev} {a : Int} {O : List Int} (h : SubsOk l a O) (e : Ev) (hs : ¬ (e.kd = 3 ∧ e.ac = a)) : SubsOk (l ++ [e]) a O :=
  ⟨h.srt, fun x => by
    rw [h.mem x]
    constructor
    · rintro ⟨f, hf, q⟩; exact ⟨f, by simp [hf], q⟩
    · rintro ⟨f, hf, q1, q2, q3⟩
      rcases List.mem_append.1 hf with hf | hf
      · exact ⟨f, hf, q1, q2, q3⟩
      · rw [List.mem_singleton] at hf
        subst hf
        exact absurd ⟨q1, q2⟩ hs⟩
theorem SubsOk.ins {l : List Ev} {a : Int} {O : List Int} (h : SubsOk l a O) (e : Ev) (h1 : e.kd = 3) (h2 : e.ac = a) (hn : e.sb ∉ O) {k : Nat} (hp : PlaceO (· < ·) O e.sb k) : SubsOk (l ++ [e]) a (O.take k ++ [e.sb] ++ O.drop k) := by
  obtain ⟨q1, q2⟩ := ord_ins (r := fun a b : Int => a < b) (fun _ _ _ h g => Int.lt_trans h g) (fun _ _ => ltI_tot) h.srt hn hp
  refine ⟨q1, fun x => ?_⟩
  rw [q2, h.mem x]
  constructor
  · rintro (⟨f, hf, q⟩ | rfl)
    · exact ⟨f, by simp [hf], q⟩
    · exact ⟨e, by simp, h1, h2, rfl⟩
  · rintro ⟨f, hf, q⟩
    rcases List.mem_append.1 hf with hf | hf
    · exact Or.inl ⟨f, hf, q⟩
    · rw [List.mem_singleton] at hf
      subst hf
      exact Or.inr q.2.2.symm
theorem prods_ex (s : Int) (l : List Ev) : ∀ k, k ≤ l.length → ∃ N, ProdsOk (l.take k) s N ∧ N.length ≤ k
  | 0, _ => ⟨[], ⟨List.Pairwise.nil, fun x => by simp⟩, Nat.le_refl _⟩
  | k + 1, hk => by
    obtain ⟨N, hN, hNl⟩ := prods_ex s l k (by omega)
    rw [List.take_succ_eq_append_getElem (by omega)]
    by_cases h1 : (l[k]).kd = 8 ∧ (l[k]).sb = s
    · by_cases h2 : (l[k]).nm ∈ N
      · exact ⟨N, hN.skip _ (Or.inr h2), by omega⟩
      · obtain ⟨j, hj⟩ := place_ex (r := fun a b => ltS a b = true) N (l[k]).nm N.length (Nat.le_refl _) (fun j hj h => by omega)
        exact ⟨_, hN.ins _ h1.1 h1.2 h2 hj, by
          have := hj.1
          simp only [List.length_append, List.length_take, List.length_drop, List.length_singleton]
          omega⟩
    · exact ⟨N, hN.skip _ (Or.inl h1), by omega⟩
theorem prods_all (s : Int) (l : List Ev) : ∃ N, ProdsOk l s N ∧ N.length ≤ l.length := by
  have h := prods_ex s l l.length (Nat.le_refl _)
  rwa [List.take_of_length_le (Nat.le_refl _)] at h
/-- The products that a subscription ever had. -/
noncomputable def prodsL (l : List Ev) (s : Int) : List ByteArray := Classical.choose (prods_all s l)
theorem prodsL_ok (l : List Ev) (s : Int) : ProdsOk l s (prodsL l s) := (Classical.choose_spec (prods_all s l)).1
theorem prodsL_len (l : List Ev) (s : Int) : (prodsL l s).length ≤ l.length := (Classical.choose_spec (prods_all s l)).2
theorem had_flat {l : List Ev} {a : Int} {O : List Int} (hO : SubsOk l a O) : HadOk l a (O.flatMap fun s => (prodsL l s).map fun n => (s, n)) := by
  refine ⟨List.pairwise_flatMap.2 ⟨fun s _ => List.pairwise_map.2 ((prodsL_ok l s).srt.imp fun h => Or.inr ⟨rfl, h⟩), hO.srt.imp fun {s t} h x hx y hy => ?_⟩, fun h => ?_⟩
  · obtain ⟨n, -, rfl⟩ := List.mem_map.1 hx
    obtain ⟨m, -, rfl⟩ := List.mem_map.1 hy
    exact Or.inl h
  · rw [List.mem_flatMap]
    constructor
    · rintro ⟨s, hs, hx⟩
      obtain ⟨n, hn, rfl⟩ := List.mem_map.1 hx
      obtain ⟨e, he, q1, q2, q3⟩ := ((prodsL_ok l s).mem n).1 hn
      obtain ⟨f, hf, p1, p2, p3⟩ := (hO.mem s).1 hs
      exact ⟨e, he, q1, ⟨f, hf, p1, p2, p3.trans q2.symm⟩, by rw [q2, q3]⟩
    · rintro ⟨e, he, q1, ⟨f, hf, p1, p2, p3⟩, rfl⟩
      exact ⟨e.sb, (hO.mem _).2 ⟨f, hf, p1, p2, p3⟩, List.mem_map.2 ⟨e.nm, ((prodsL_ok l _).mem _).2 ⟨e, he, q1, rfl, rfl⟩, rfl⟩⟩

/-- A list without what repeats what stands before it, up to an index. -/
def cmpC (L : List Had) : Nat → List Had
  | 0 => []
  | j + 1 => if h : j < L.length then if 0 < j ∧ L[j - 1]? = some L[j] then cmpC L j else cmpC L j ++ [L[j]] else cmpC L j
theorem cmpC_eq {L : List Had} {j : Nat} (h : j < L.length) (h1 : 0 < j) (he : L[j - 1]? = some L[j]) : cmpC L (j + 1) = cmpC L j := by
  rw [cmpC, dif_pos h, if_pos ⟨h1, he⟩]
theorem cmpC_ne {L : List Had} {j : Nat} (h : j < L.length) (he : ¬ (0 < j ∧ L[j - 1]? = some L[j])) : cmpC L (j + 1) = cmpC L j ++ [L[j]] := by
  rw [cmpC, dif_pos h, if_neg he]
theorem cmpC_len (L : List Had) : ∀ j, (cmpC L j).length ≤ j
  | 0 => by simp [cmpC]
  | j + 1 => by
    have := cmpC_len L j
    rw [cmpC]
    split
    · split
      · omega
      · rw [List.length_append, List.length_singleton]; omega
    · omega
theorem cmpC_law {L : List Had} (hL : L.Pairwise fun x y => ¬ hadLt y x) : ∀ j, j ≤ L.length → (cmpC L j).Pairwise hadLt ∧ ∀ x, x ∈ cmpC L j ↔ x ∈ L.take j
  | 0, _ => ⟨List.Pairwise.nil, fun x => by simp [cmpC]⟩
  | j + 1, hj => by
    obtain ⟨h1, h2⟩ := cmpC_law hL j (by omega)
    have hlt : j < L.length := hj
    have hp := List.pairwise_iff_getElem.1 hL
    rw [List.take_succ_eq_append_getElem hlt]
    by_cases he : 0 < j ∧ L[j - 1]? = some L[j]
    · rw [cmpC_eq hlt he.1 he.2]
      refine ⟨h1, fun x => ?_⟩
      rw [h2, List.mem_append, List.mem_singleton]
      refine ⟨Or.inl, fun h => ?_⟩
      rcases h with h | h
      · exact h
      · subst h
        have hj1 : j - 1 < L.length := by omega
        have e := he.2
        rw [List.getElem?_eq_getElem hj1] at e
        rw [← Option.some.inj e]
        exact List.mem_take_iff_getElem.2 ⟨j - 1, by omega, rfl⟩
    · rw [cmpC_ne hlt he]
      refine ⟨List.pairwise_append.2 ⟨h1, List.pairwise_singleton _ _, fun y hy z hz => ?_⟩, fun x => by rw [List.mem_append, List.mem_append, h2]⟩
      rw [List.mem_singleton] at hz
      subst hz
      obtain ⟨i, hi, rfl⟩ := List.mem_take_iff_getElem.1 ((h2 y).1 hy)
      have hij : i < j := by omega
      have hj1 : j - 1 < L.length := by omega
      have hlast : hadLt L[j - 1] L[j] := hadLt_tot _ _ (hp (j - 1) j hj1 hlt (by omega)) fun e => he ⟨by omega, by rw [List.getElem?_eq_getElem hj1, e]⟩
      rcases Nat.lt_or_ge i (j - 1) with h | h
      · refine hadLt_tot _ _ (hp i j (by omega) hlt hij) fun e => ?_
        rw [e] at hlast
        exact hp i (j - 1) (by omega) hj1 h hlast
      · have : i = j - 1 := by omega
        subst this; exact hlast
/-- The products of an account, as they stand in the events. -/
def hadsP (l : List Ev) (a : Int) (k : Nat) : List Had := ((l.take k).filter fun e => decide (e.kd = 8) && l.any fun x => decide (x.kd = 3) && decide (x.sb = e.sb) && decide (x.ac = a)).map fun e => (e.sb, e.nm)
theorem hadsP_succ (l : List Ev) (a : Int) (k : Nat) (h : k < l.length) : hadsP l a (k + 1) = hadsP l a k ++ if (decide ((l[k]).kd = 8) && l.any fun x => decide (x.kd = 3) && decide (x.sb = (l[k]).sb) && decide (x.ac = a)) = true then [((l[k]).sb, (l[k]).nm)] else [] := by
  unfold hadsP
  rw [List.take_succ_eq_append_getElem h, List.filter_append, List.map_append]
  congr 1
  rw [List.filter_cons, List.filter_nil]
  split <;> rfl
theorem hadsP_len (l : List Ev) (a : Int) (k : Nat) : (hadsP l a k).length ≤ l.length := by
  unfold hadsP
  rw [List.length_map]
  exact Nat.le_trans (List.length_filter_le _ _) (by rw [List.length_take]; omega)
theorem had_comp {l : List Ev} {a : Int} {S : List Had} (hp : S.Perm (hadsP l a l.length)) (hs : S.Pairwise fun x y => ¬ hadLt y x) : HadOk l a (cmpC S S.length) := by
  obtain ⟨h1, h2⟩ := cmpC_law hs S.length (Nat.le_refl _)
  refine ⟨h1, fun h => ?_⟩
  rw [h2, List.take_of_length_le (Nat.le_refl _), hp.mem_iff]
  unfold hadsP
  rw [List.take_of_length_le (Nat.le_refl _), List.mem_map]
  constructor
  · rintro ⟨e, he, rfl⟩
    obtain ⟨he, hq⟩ := List.mem_filter.1 he
    rw [Bool.and_eq_true, decide_eq_true_eq, List.any_eq_true] at hq
    obtain ⟨q1, f, hf, q2⟩ := hq
    simp only [Bool.and_eq_true, decide_eq_true_eq] at q2
    exact ⟨e, he, q1, ⟨f, hf, q2.1.1, q2.2, q2.1.2⟩, rfl⟩
  · rintro ⟨e, he, q1, ⟨f, hf, p1, p2, p3⟩, rfl⟩
    refine ⟨e, List.mem_filter.2 ⟨he, ?_⟩, rfl⟩
    rw [Bool.and_eq_true, decide_eq_true_eq, List.any_eq_true]
    exact ⟨q1, f, hf, by simp [p1, p2, p3]⟩

/-- A subscription that is in the book stays there. -/
theorem subIx_keep {b : Bk} {last : Int} {e : Ev} (hok : OkEv b last e) (m : Int) (h : 0 ≤ subIx b m) : 0 ≤ subIx (applyB b e) m := by
  have hk1 := hok.k1
  have hk2 := hok.k2
  by_cases c1 : e.kd = 1 ∨ e.kd = 2 ∨ 14 ≤ e.kd
  · obtain ⟨q1, -⟩ := apply_keep (b := b) c1
    unfold subIx at h ⊢
    rw [q1]; exact h
  · by_cases c2 : e.kd = 3
    · obtain ⟨q1, -⟩ := apply_add (b := b) c2
      unfold subIx at h ⊢
      rw [q1, ixOf_append _ h]; exact h
    · obtain ⟨q1, -⟩ := apply_other (b := b) (e := e) (by omega) (by omega)
      unfold subIx at h ⊢
      rw [q1, ixOf_modify (fun a => by rw [changedS_id]) _ _]; exact h
theorem sub_there {l : List Ev} (hr : OkRun l) {i : Nat} (hi : i < l.length) (h3 : (l[i]).kd = 3) : ∀ k, i < k → k ≤ l.length → 0 ≤ subIx (bookOf (l.take k)) (l[i]).sb
  | 0, h, _ => by omega
  | k + 1, hik, hk => by
    have hlt : k < l.length := hk
    rw [bookOf_snoc l k hlt]
    by_cases h : i < k
    · exact subIx_keep (hr k hlt) _ (sub_there hr hi h3 k h (by omega))
    · have : i = k := by omega
      subst this
      obtain ⟨q1, -⟩ := apply_add (b := bookOf (l.take i)) h3
      have hadd := (hr i hi).add h3
      unfold subIx at hadd ⊢
      rw [q1, ixOf_snoc_no hadd]
      simp
theorem adds_one {l : List Ev} (hr : OkRun l) {a : Int} {k : Nat} (hk : k < l.length) (h3 : (l[k]).kd = 3) {O : List Int} (hO : SubsOk (l.take k) a O) : (l[k]).sb ∉ O := by
  intro hm
  obtain ⟨e, he, q1, -, q3⟩ := (hO.mem _).1 hm
  obtain ⟨i, hi, rfl⟩ := List.mem_take_iff_getElem.1 he
  have h1 := sub_there hr (show i < l.length by omega) q1 k (by omega) (by omega)
  rw [q3] at h1
  have := (hr k hk).add h3
  omega
end Go.Proofs.YtngippiilgdnoaaGreat
