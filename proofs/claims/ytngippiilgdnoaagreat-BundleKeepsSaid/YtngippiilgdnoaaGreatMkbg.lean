/-
  Buckets plainly: what precedes what, what is carried over, where a bucket stands, and the fold that makes them.
-/
import Derived.Test.YtngippiilgdnoaaGreatMkaq
import Derived.Test.YtngippiilgdnoaaGreatMkbe
set_option maxRecDepth 100000
set_option maxHeartbeats 25600000
namespace Go.Proofs.YtngippiilgdnoaaGreat
section
variable {α : Type} {r : α → α → Prop}
theorem ord_one (hi : ∀ x, ¬ r x x) (ht : ∀ x y z, r x y → r y z → r x z) : ∀ l m : List α, l.Pairwise r → m.Pairwise r → (∀ x, x ∈ l ↔ x ∈ m) → l = m
 | [], [], _, _, _ => rfl
 | [], y :: q, _, _, h => absurd ((h y).2 (by simp)) (by simp)
 | x :: p, [], _, _, h => absurd ((h x).1 (by simp)) (by simp)
 | x :: p, y :: q, hl, hm, h => by
   have hl1 := List.pairwise_cons.1 hl
   have hm1 := List.pairwise_cons.1 hm
   have hxy : x = y := by
    rcases List.mem_cons.1 ((h x).1 (by simp)) with e | hx
    · exact e
    rcases List.mem_cons.1 ((h y).2 (by simp)) with e | hy
    · exact e.symm
    exact absurd (ht _ _ _ (hl1.1 y hy) (hm1.1 x hx)) (hi x)
   subst hxy
   rw [ord_one hi ht p q hl1.2 hm1.2 fun z => ⟨fun hz => ?_, fun hz => ?_⟩]
   · rcases List.mem_cons.1 ((h z).1 (List.mem_cons_of_mem _ hz)) with e | hz2
     · subst e; exact absurd (hl1.1 z hz) (hi z)
     exact hz2
   rcases List.mem_cons.1 ((h z).2 (List.mem_cons_of_mem _ hz)) with e | hz2
   · subst e; exact absurd (hm1.1 z hz) (hi z)
   exact hz2
def PlaceO (r : α → α → Prop) (O : List α) (x : α) (k : Nat) : Prop := k ≤ O.length ∧ (∀ j (hj : j < O.length), k ≤ j → r x O[j]) ∧ ∀ j (hj : j < O.length), j + 1 = k → ¬ r x O[j]
theorem ord_ins (ht : ∀ x y z, r x y → r y z → r x z) (hto : ∀ x y, ¬ r x y → x ≠ y → r y x) {O : List α} {x : α} {k : Nat} (hO : O.Pairwise r) (hx : x ∉ O) (hp : PlaceO r O x k) :
 (O.take k ++ [x] ++ O.drop k).Pairwise r ∧ ∀ y, y ∈ O.take k ++ [x] ++ O.drop k ↔ (y ∈ O ∨ y = x) := by
 obtain ⟨hk, hb, ha⟩ := hp
 have hcut := List.take_append_drop k O
 have hO2 := hO
 rw [← hcut] at hO2
 have hsp := List.pairwise_append.1 hO2
 have hbef : ∀ y ∈ O.take k, r y x := fun y hy => by
  obtain ⟨j, hj, rfl⟩ := List.mem_take_iff_getElem.1 hy
  have hjl : j < O.length := by omega
  have hl : k - 1 < O.length := by omega
  have h1 : r O[k - 1] x := hto _ _ (ha (k - 1) hl (by omega)) (fun e => hx (e ▸ List.getElem_mem hl))
  rcases Nat.lt_or_ge j (k - 1) with h | h
  · exact ht _ _ _ (List.pairwise_iff_getElem.1 hO j (k - 1) hjl hl h) h1
  have : j = k - 1 := by omega
  subst this; exact h1
 have haft : ∀ y ∈ O.drop k, r x y := fun y hy => by
  obtain ⟨j, hj, rfl⟩ := List.mem_iff_getElem.1 hy
  rw [List.length_drop] at hj
  rw [List.getElem_drop]
  exact hb (k + j) (by omega) (by omega)
 refine ⟨?_, fun y => ?_⟩
 · refine List.pairwise_append.2 ⟨List.pairwise_append.2 ⟨hsp.1, List.pairwise_singleton _ _, fun a ha1 b hb1 => ?_⟩, hsp.2.1, fun a ha1 b hb1 => ?_⟩
   · rw [List.mem_singleton] at hb1
     subst hb1; exact hbef a ha1
   rcases List.mem_append.1 ha1 with h | h
   · exact hsp.2.2 a h b hb1
   rw [List.mem_singleton] at h
   subst h; exact haft b hb1
 rw [List.mem_append, List.mem_append, List.mem_singleton]
 have : y ∈ O ↔ y ∈ O.take k ∨ y ∈ O.drop k := by rw [← List.mem_append, hcut]
 rw [this]
 constructor
 iterate 2
  · rintro ((h | h) | h)
    · exact Or.inl (Or.inl h)
    · exact Or.inr h
    exact Or.inl (Or.inr h)
end
theorem ltS_tot {a b : ByteArray} (h : ¬ ltS a b = true) (hne : a ≠ b) : ltS b a = true := by
 rw [ltS_iff] at h ⊢
 refine Classical.byContradiction fun h2 => hne ?_
 have e := List.le_antisymm (List.not_lt.1 h2) (List.not_lt.1 h)
 exact ByteArray.ext (Array.toList_inj.1 e)
theorem ltI_tot {a b : Int} (h : ¬ a < b) (hne : a ≠ b) : b < a := by omega
abbrev Had := Int × ByteArray
def hadLt (x y : Had) : Prop := x.1 < y.1 ∨ (x.1 = y.1 ∧ ltS x.2 y.2 = true)
theorem hadLt_irr (x : Had) : ¬ hadLt x x := by
 rintro (h | ⟨-, h⟩)
 · omega
 exact ltS_irrefl _ h
theorem hadLt_trans (x y z : Had) (h : hadLt x y) (g : hadLt y z) : hadLt x z := by
 rcases h with h | ⟨h, h2⟩ <;> rcases g with g | ⟨g, g2⟩
 iterate 3
  · exact Or.inl (by omega)
 · exact Or.inr ⟨h.trans g, ltS_trans h2 g2⟩
theorem hadLt_tot (x y : Had) (h : ¬ hadLt x y) (hne : x ≠ y) : hadLt y x := by
 unfold hadLt at *
 by_cases h1 : y.1 < x.1
 · exact Or.inl h1
 by_cases h2 : x.1 = y.1
 · refine Or.inr ⟨h2.symm, ltS_tot (fun e => h (Or.inr ⟨h2, e⟩)) fun e => hne (Prod.ext h2 e)⟩
 exact absurd (Or.inl (by omega)) h
structure SubsOk (l : List Ev) (a : Int) (O : List Int) : Prop where
 srt : O.Pairwise (· < ·)
 mem : ∀ x, x ∈ O ↔ ∃ e ∈ l, e.kd = 3 ∧ e.ac = a ∧ e.sb = x
structure ProdsOk (l : List Ev) (s : Int) (N : List ByteArray) : Prop where
 srt : N.Pairwise (fun a b => ltS a b = true)
 mem : ∀ x, x ∈ N ↔ ∃ e ∈ l, e.kd = 8 ∧ e.sb = s ∧ e.nm = x
structure HadOk (l : List Ev) (a : Int) (H : List Had) : Prop where
 srt : H.Pairwise hadLt
 mem : ∀ h, h ∈ H ↔ ∃ e ∈ l, e.kd = 8 ∧ (∃ f ∈ l, f.kd = 3 ∧ f.ac = a ∧ f.sb = e.sb) ∧ (e.sb, e.nm) = h
theorem ProdsOk.one {l : List Ev} {s : Int} {N M : List ByteArray} (h : ProdsOk l s N) (g : ProdsOk l s M) : N = M :=
 ord_one (r := fun a b => ltS a b = true) (fun x => ltS_irrefl x) (fun _ _ _ h g => ltS_trans h g) _ _ h.srt g.srt fun x => (h.mem x).trans (g.mem x).symm
theorem HadOk.one {l : List Ev} {a : Int} {N M : List Had} (h : HadOk l a N) (g : HadOk l a M) : N = M :=
 ord_one hadLt_irr hadLt_trans _ _ h.srt g.srt fun x => (h.mem x).trans (g.mem x).symm
theorem ProdsOk.skip {l : List Ev} {s : Int} {N : List ByteArray} (h : ProdsOk l s N) (e : Ev) (hs : ¬ (e.kd = 8 ∧ e.sb = s) ∨ e.nm ∈ N) : ProdsOk (l ++ [e]) s N :=
 ⟨h.srt, fun x => by
  rw [h.mem x]
  constructor
  · rintro ⟨f, hf, q⟩; exact ⟨f, by simp [hf], q⟩
  rintro ⟨f, hf, q1, q2, q3⟩
  rcases List.mem_append.1 hf with hf | hf
  · exact ⟨f, hf, q1, q2, q3⟩
  rw [List.mem_singleton] at hf
  subst hf
  rcases hs with hs | hs
  · exact absurd ⟨q1, q2⟩ hs
  exact (h.mem x).1 (q3 ▸ hs)⟩
theorem ProdsOk.ins {l : List Ev} {s : Int} {N : List ByteArray} (h : ProdsOk l s N) (e : Ev) (h1 : e.kd = 8) (h2 : e.sb = s) (hn : e.nm ∉ N) {k : Nat} (hp : PlaceO (fun a b => ltS a b = true) N e.nm k) : ProdsOk (l ++ [e]) s (N.take k ++ [e.nm] ++ N.drop k) := by
 obtain ⟨q1, q2⟩ := ord_ins (r := fun a b => ltS a b = true) (fun _ _ _ h g => ltS_trans h g) (fun _ _ => ltS_tot) h.srt hn hp
 refine ⟨q1, fun x => ?_⟩
 rw [q2, h.mem x]
 constructor
 · rintro (⟨f, hf, q⟩ | rfl)
   · exact ⟨f, by simp [hf], q⟩
   exact ⟨e, by simp, h1, h2, rfl⟩
 rintro ⟨f, hf, q⟩
 rcases List.mem_append.1 hf with hf | hf
 · exact Or.inl ⟨f, hf, q⟩
 rw [List.mem_singleton] at hf
 subst hf
 exact Or.inr q.2.2.symm
theorem SubsOk.skip {l : List Ev} {a : Int} {O : List Int} (h : SubsOk l a O) (e : Ev) (hs : ¬ (e.kd = 3 ∧ e.ac = a)) : SubsOk (l ++ [e]) a O :=
 ⟨h.srt, fun x => by
  rw [h.mem x]
  constructor
  · rintro ⟨f, hf, q⟩; exact ⟨f, by simp [hf], q⟩
  rintro ⟨f, hf, q1, q2, q3⟩
  rcases List.mem_append.1 hf with hf | hf
  · exact ⟨f, hf, q1, q2, q3⟩
  rw [List.mem_singleton] at hf
  subst hf
  exact absurd ⟨q1, q2⟩ hs⟩
theorem SubsOk.ins {l : List Ev} {a : Int} {O : List Int} (h : SubsOk l a O) (e : Ev) (h1 : e.kd = 3) (h2 : e.ac = a) (hn : e.sb ∉ O) {k : Nat} (hp : PlaceO (· < ·) O e.sb k) : SubsOk (l ++ [e]) a (O.take k ++ [e.sb] ++ O.drop k) := by
 obtain ⟨q1, q2⟩ := ord_ins (r := fun a b : Int => a < b) (fun _ _ _ h g => Int.lt_trans h g) (fun _ _ => ltI_tot) h.srt hn hp
 refine ⟨q1, fun x => ?_⟩
 rw [q2, h.mem x]
 constructor
 · rintro (⟨f, hf, q⟩ | rfl)
   · exact ⟨f, by simp [hf], q⟩
   exact ⟨e, by simp, h1, h2, rfl⟩
 rintro ⟨f, hf, q⟩
 rcases List.mem_append.1 hf with hf | hf
 · exact Or.inl ⟨f, hf, q⟩
 rw [List.mem_singleton] at hf
 subst hf
 exact Or.inr q.2.2.symm
theorem subIx_keep {b : Bk} {last : Int} {e : Ev} (hok : OkEv b last e) (m : Int) (h : 0 ≤ subIx b m) : 0 ≤ subIx (applyB b e) m := by
 have hk1 := hok.k1
 have hk2 := hok.k2
 by_cases c1 : e.kd = 1 ∨ e.kd = 2 ∨ 14 ≤ e.kd
 · obtain ⟨q1, -⟩ := apply_keep (b := b) c1
   unfold subIx at h ⊢
   rw [q1]; exact h
 by_cases c2 : e.kd = 3
 · obtain ⟨q1, -⟩ := apply_add (b := b) c2
   unfold subIx at h ⊢
   rw [q1, ixOf_append _ h]; exact h
 obtain ⟨q1, -⟩ := apply_other (b := b) (e := e) (by omega) (by omega)
 unfold subIx at h ⊢
 rw [q1, ixOf_modify (fun a => by rw [changedS_id]) _ _]; exact h
end Go.Proofs.YtngippiilgdnoaaGreat
namespace Go.Proofs.YtngippiilgdnoaaGreat
open Go.RowKit
structure Bu where
 ac : Int
 sb : Int
 pr : ByteArray
 ix : Int
 kd : Int
 zs : List ByteArray
 f : Int
 t : Int
 un : Int
 lf : Int
 pt : Int
 sh : Bool
def precB (a b : Bu) : Bool := decide (a.sb = b.sb) && sameS a.pr b.pr && decide (a.ix = b.ix) && decide (a.kd = b.kd) && decide (a.t = b.f)
def sameId (a b : Bu) : Bool := decide (a.sb = b.sb) && sameS a.pr b.pr && decide (a.ix = b.ix) && decide (a.f = b.f)
def earlB (a b : Bu) : Bool :=
 if a.ac ≠ b.ac then decide (a.ac < b.ac) else if a.sb ≠ b.sb then decide (a.sb < b.sb) else if sameS a.pr b.pr = false then ltS a.pr b.pr else if a.ix ≠ b.ix then decide (a.ix < b.ix) else decide (a.f < b.f)
def rollN (o : Bu) (r : Int) : Int := max 0 (min o.lf r)
def addN (b : Bu) (n : Int) : Bu := { b with un := wrap64 (b.un + n), lf := wrap64 (b.lf + n) }
def carryB (o b : Bu) (r : Int) : Bu := if precB o b = true then addN b (rollN o r) else b
def kT {α : Type} (p : α → Bool) (l : List α) : Nat := (l.takeWhile p).length
def insT {α : Type} (p : α → Bool) (x : α) (l : List α) : List α := l.take (kT p l) ++ [x] ++ l.drop (kT p l)
theorem kT_le {α : Type} (p : α → Bool) (l : List α) : kT p l ≤ l.length := List.Sublist.length_le (List.takeWhile_sublist _)
theorem kT_at {α : Type} {p : α → Bool} {l : List α} {k : Nat} (hk : k < l.length) (h : ∀ j (hj : j < k), p (l[j]) = true) (hn : p l[k] = false) : kT p l = k := by
 unfold kT
 have e : l = l.take k ++ (l[k] :: l.drop (k + 1)) := by rw [← List.drop_eq_getElem_cons hk, List.take_append_drop]
 have h2 : (l.takeWhile p) = ((l.take k ++ (l[k] :: l.drop (k + 1))).takeWhile p) := congrArg _ e
 rw [h2, List.takeWhile_append_of_pos, List.takeWhile_cons_of_neg (by simp [hn]), List.append_nil, List.length_take]
 · omega
 intro x hx
 obtain ⟨j, hj, rfl⟩ := List.mem_take_iff_getElem.1 hx
 exact h j (by omega)
theorem kT_all {α : Type} {p : α → Bool} {l : List α} (h : ∀ j (hj : j < l.length), p l[j] = true) : kT p l = l.length := by
 unfold kT
 have h2 : ((l ++ []).takeWhile p) = l ++ ([] : List α).takeWhile p := List.takeWhile_append_of_pos (by
  intro x hx
  obtain ⟨j, hj, rfl⟩ := List.mem_iff_getElem.1 hx
  exact h j hj)
 rw [List.append_nil, List.takeWhile_nil, List.append_nil] at h2
 rw [h2]
theorem kT_before {α : Type} (p : α → Bool) : ∀ (l : List α) (j : Nat) (hj : j < l.length), j < kT p l → p l[j] = true
 | [], j, hj, _ => by cases hj
 | x :: r, j, hj, h => by
   unfold kT at h
   rw [List.takeWhile_cons] at h
   split at h
   · rename_i hx
     cases j with
     | zero => exact hx
     | succ j => exact kT_before p r j (by simpa using hj) (by simpa [kT] using h)
   simp at h
theorem kT_stop {α : Type} (p : α → Bool) : ∀ (l : List α) (h : kT p l < l.length), p l[kT p l] = false
 | [], h => by cases h
 | x :: r, h => by
   by_cases hx : p x = true
   · have e : kT p (x :: r) = kT p r + 1 := by unfold kT; rw [List.takeWhile_cons, if_pos hx, List.length_cons]
     simp only [e, List.getElem_cons_succ]
     exact kT_stop p r (by rw [e] at h; simpa using h)
   have e : kT p (x :: r) = 0 := by unfold kT; rw [List.takeWhile_cons, if_neg hx]; rfl
   simp only [e, List.getElem_cons_zero]
   simpa using hx
theorem insT_len {α : Type} (p : α → Bool) (x : α) (l : List α) : (insT p x l).length = l.length + 1 := by
 have := kT_le p l
 unfold insT
 simp only [List.length_append, List.length_take, List.length_drop, List.length_singleton]
 omega
theorem insT_mem {α : Type} {p : α → Bool} {x y : α} {l : List α} : y ∈ insT p x l ↔ y ∈ l ∨ y = x := by
 unfold insT
 rw [List.mem_append, List.mem_append, List.mem_singleton]
 have : y ∈ l ↔ y ∈ l.take (kT p l) ∨ y ∈ l.drop (kT p l) := by rw [← List.mem_append, List.take_append_drop]
 rw [this]
 constructor
 · rintro ((h | h) | h)
   · exact Or.inl (Or.inl h)
   · exact Or.inr h
   exact Or.inl (Or.inr h)
 rintro ((h | h) | h)
 · exact Or.inl (Or.inl h)
 · exact Or.inr h
 exact Or.inl (Or.inr h)
def insB (b : Bu) (L : List Bu) : List Bu := insT (fun x => earlB x b) b L
def existsB (L : List Bu) (b : Bu) : Bool := L.any fun x => sameId x b
def bornB (L : List Bu) (g : Bu × Int) : Bu := match L.find? (fun x => precB x g.1) with
 | some o => carryB o g.1 g.2
 | none => g.1
def createB (L : List Bu) (g : Bu × Int) : List Bu := if existsB L g.1 = true then L else insB (bornB L g) L
def foldG (G : List (Bu × Int)) (S : List Bu) : List Bu := G.foldl createB S
structure OrdB (L : List Bu) : Prop where
 srt : L.Pairwise fun a b => earlB a b = true
 one : L.Pairwise fun a b => sameId a b = false
theorem sameS_refl (a : ByteArray) : sameS a a = true := (sameS_iff a a).2 rfl
theorem sameS_no {a b : ByteArray} : sameS a b = false ↔ a ≠ b := by
 rw [← Bool.not_eq_true, sameS_iff]
theorem sameId_iff {a b : Bu} : sameId a b = true ↔ a.sb = b.sb ∧ a.pr = b.pr ∧ a.ix = b.ix ∧ a.f = b.f := by
 unfold sameId
 simp only [Bool.and_eq_true, decide_eq_true_eq, sameS_iff, and_assoc]
def Earl (a b : Bu) : Prop := a.ac < b.ac ∨ a.ac = b.ac ∧ (a.sb < b.sb ∨ a.sb = b.sb ∧ (ltS a.pr b.pr = true ∧ a.pr ≠ b.pr ∨ a.pr = b.pr ∧ (a.ix < b.ix ∨ a.ix = b.ix ∧ a.f < b.f)))
theorem earlB_iff {a b : Bu} : earlB a b = true ↔ Earl a b := by
 unfold earlB Earl
 by_cases h1 : a.ac = b.ac
 · rw [if_neg (by simpa using h1)]
   by_cases h2 : a.sb = b.sb
   · rw [if_neg (by simpa using h2)]
     by_cases h3 : a.pr = b.pr
     · have h3s : ¬ sameS a.pr b.pr = false := by rw [(sameS_iff _ _).2 h3]; decide
       rw [if_neg h3s]
       by_cases h4 : a.ix = b.ix
       · rw [if_neg (by simpa using h4), decide_eq_true_eq]
         simp [h1, h2, h3, h4]
       rw [if_pos (by simpa using h4), decide_eq_true_eq]
       simp [h1, h2, h3, h4]
     rw [if_pos (sameS_no.2 h3)]
     simp [h1, h2, h3]
   rw [if_pos (by simpa using h2), decide_eq_true_eq]
   simp [h1, h2]
 rw [if_pos (by simpa using h1), decide_eq_true_eq]
 simp [h1]
theorem Earl.irr (a : Bu) : ¬ Earl a a := by
 unfold Earl
 rintro (h | ⟨-, h | ⟨-, ⟨-, h⟩ | ⟨-, h | ⟨-, h⟩⟩⟩⟩)
 iterate 2
  · omega
 · exact h rfl
 iterate 2
  · omega
theorem Earl.trans (a b c : Bu) (h : Earl a b) (g : Earl b c) : Earl a c := by
 unfold Earl at *
 rcases h with h | ⟨e1, h⟩
 · rcases g with g | ⟨e2, -⟩
   iterate 2
    · exact Or.inl (by omega)
 rcases g with g | ⟨e2, g⟩
 · exact Or.inl (by omega)
 refine Or.inr ⟨e1.trans e2, ?_⟩
 rcases h with h | ⟨f1, h⟩
 · rcases g with g | ⟨f2, -⟩
   iterate 2
    · exact Or.inl (by omega)
 rcases g with g | ⟨f2, g⟩
 · exact Or.inl (by omega)
 refine Or.inr ⟨f1.trans f2, ?_⟩
 rcases h with ⟨h, h'⟩ | ⟨g1, h⟩
 · rcases g with ⟨g, g'⟩ | ⟨g2, -⟩
   · exact Or.inl ⟨ltS_trans h g, fun e => ltS_irrefl b.pr (ltS_trans (e ▸ g : ltS b.pr a.pr = true) h)⟩
   exact Or.inl ⟨g2 ▸ h, g2 ▸ h'⟩
 rcases g with ⟨g, g'⟩ | ⟨g2, g⟩
 · exact Or.inl ⟨by rw [g1]; exact g, by rw [g1]; exact g'⟩
 refine Or.inr ⟨g1.trans g2, ?_⟩
 rcases h with h | ⟨i1, h⟩ <;> rcases g with g | ⟨i2, g⟩
 iterate 3
  · exact Or.inl (by omega)
 · exact Or.inr ⟨by omega, by omega⟩
theorem Earl.tot {a b : Bu} (hne : sameId a b = false) (h : ¬ Earl a b) : Earl b a := by
 unfold Earl at *
 by_cases h1 : b.ac < a.ac
 · exact Or.inl h1
 by_cases e1 : a.ac = b.ac
 · refine Or.inr ⟨e1.symm, ?_⟩
   by_cases h2 : b.sb < a.sb
   · exact Or.inl h2
   by_cases e2 : a.sb = b.sb
   · refine Or.inr ⟨e2.symm, ?_⟩
     by_cases e3 : a.pr = b.pr
     · refine Or.inr ⟨e3.symm, ?_⟩
       by_cases h4 : b.ix < a.ix
       · exact Or.inl h4
       by_cases e4 : a.ix = b.ix
       · refine Or.inr ⟨e4.symm, ?_⟩
         by_cases h5 : b.f < a.f
         · exact h5
         by_cases e5 : a.f = b.f
         · rw [sameId_iff.2 ⟨e2, e3, e4, e5⟩] at hne; cases hne
         exact absurd (Or.inr ⟨e1, Or.inr ⟨e2, Or.inr ⟨e3, Or.inr ⟨e4, by omega⟩⟩⟩⟩) h
       exact absurd (Or.inr ⟨e1, Or.inr ⟨e2, Or.inr ⟨e3, Or.inl (by omega)⟩⟩⟩) h
     refine Or.inl ⟨ltS_tot (fun hl => h (Or.inr ⟨e1, Or.inr ⟨e2, Or.inl ⟨hl, e3⟩⟩⟩)) e3, fun e => e3 e.symm⟩
   exact absurd (Or.inr ⟨e1, Or.inl (by omega)⟩) h
 exact absurd (Or.inl (by omega)) h
theorem sameId_symm (a b : Bu) : sameId a b = sameId b a := by
 cases h : sameId a b <;> cases g : sameId b a <;> first | rfl | skip
 · obtain ⟨h1, h2, h3, h4⟩ := sameId_iff.1 g
   rw [sameId_iff.2 ⟨h1.symm, h2.symm, h3.symm, h4.symm⟩] at h; cases h
 obtain ⟨h1, h2, h3, h4⟩ := sameId_iff.1 h
 rw [sameId_iff.2 ⟨h1.symm, h2.symm, h3.symm, h4.symm⟩] at g; cases g
structure AlikeB (a b : Bu) : Prop where
 ac : a.ac = b.ac
 sb : a.sb = b.sb
 pr : a.pr = b.pr
 ix : a.ix = b.ix
 kd : a.kd = b.kd
 zs : a.zs = b.zs
 f : a.f = b.f
 t : a.t = b.t
 pt : a.pt = b.pt
 sh : a.sh = b.sh
theorem AlikeB.refl (a : Bu) : AlikeB a a := ⟨rfl, rfl, rfl, rfl, rfl, rfl, rfl, rfl, rfl, rfl⟩
theorem carryB_alike (o b : Bu) (r : Int) : AlikeB (carryB o b r) b := by
 unfold carryB addN; split <;> exact ⟨rfl, rfl, rfl, rfl, rfl, rfl, rfl, rfl, rfl, rfl⟩
theorem bornB_alike (L : List Bu) (g : Bu × Int) : AlikeB (bornB L g) g.1 := by
 unfold bornB
 split
 · exact carryB_alike _ _ _
 exact AlikeB.refl _
theorem AlikeB.id1 {a b : Bu} (h : AlikeB a b) (c : Bu) : sameId a c = sameId b c := by unfold sameId; rw [h.sb, h.pr, h.ix, h.f]
theorem AlikeB.id2 {a b : Bu} (h : AlikeB a b) (c : Bu) : sameId c a = sameId c b := by unfold sameId; rw [h.sb, h.pr, h.ix, h.f]
theorem AlikeB.prec1 {a b : Bu} (h : AlikeB a b) (c : Bu) : precB a c = precB b c := by unfold precB; rw [h.sb, h.pr, h.ix, h.kd, h.t]
theorem OrdB.earl {L : List Bu} (h : OrdB L) : L.Pairwise Earl := h.srt.imp fun h => earlB_iff.1 h
theorem insB_ord {b : Bu} {L : List Bu} (h : OrdB L) (hn : existsB L b = false) : OrdB (insB b L) := by
 have hno : ∀ x ∈ L, sameId x b = false := fun x hx => by
  have := List.any_eq_false.1 hn x hx
  simpa using this
 have hE := h.earl
 have hcut := List.take_append_drop (kT (fun x => earlB x b) L) L
 have hsp := hE
 rw [← hcut] at hsp
 have hsp := List.pairwise_append.1 hsp
 have hsq := h.one
 rw [← hcut] at hsq
 have hsq := List.pairwise_append.1 hsq
 have hkl := kT_le (fun x => earlB x b) L
 have hbef : ∀ y ∈ L.take (kT (fun x => earlB x b) L), Earl y b := fun y hy => by
  obtain ⟨j, hj, rfl⟩ := List.mem_take_iff_getElem.1 hy
  exact earlB_iff.1 (kT_before (fun x => earlB x b) L j (by omega) (by omega))
 have haft : ∀ y ∈ L.drop (kT (fun x => earlB x b) L), Earl b y := fun y hy => by
  obtain ⟨j, hj, rfl⟩ := List.mem_iff_getElem.1 hy
  rw [List.length_drop] at hj
  have h0 := kT_stop (fun x => earlB x b) L (by omega)
  have h1 : Earl b L[kT (fun x => earlB x b) L] := Earl.tot (hno _ (List.getElem_mem _)) (fun he => by rw [earlB_iff.2 he] at h0; cases h0)
  rw [List.getElem_drop]
  rcases Nat.eq_zero_or_pos j with rfl | hp
  · exact h1
  exact Earl.trans _ _ _ h1 (List.pairwise_iff_getElem.1 hE _ _ (by omega) (by omega) (by omega))
 refine ⟨?_, ?_⟩
 · have : (insB b L).Pairwise Earl := List.pairwise_append.2 ⟨List.pairwise_append.2 ⟨hsp.1, List.pairwise_singleton _ _, fun a ha1 c hc1 => ?_⟩, hsp.2.1, fun a ha1 c hc1 => ?_⟩
   · exact this.imp fun h => earlB_iff.2 h
   · rw [List.mem_singleton] at hc1
     subst hc1; exact hbef a ha1
   rcases List.mem_append.1 ha1 with h | h
   · exact hsp.2.2 a h c hc1
   rw [List.mem_singleton] at h
   subst h; exact haft c hc1
 refine List.pairwise_append.2 ⟨List.pairwise_append.2 ⟨hsq.1, List.pairwise_singleton _ _, fun a ha1 c hc1 => ?_⟩, hsq.2.1, fun a ha1 c hc1 => ?_⟩
 · rw [List.mem_singleton] at hc1
   subst hc1; exact hno a (List.mem_of_mem_take ha1)
 rcases List.mem_append.1 ha1 with h | h
 · exact hsq.2.2 a h c hc1
 rw [List.mem_singleton] at h
 subst h; rw [sameId_symm]; exact hno c (List.mem_of_mem_drop hc1)
theorem insB_mem {b x : Bu} {L : List Bu} : x ∈ insB b L ↔ x ∈ L ∨ x = b := insT_mem
theorem existsB_alike {a b : Bu} (h : AlikeB a b) (L : List Bu) : existsB L a = existsB L b := by
 unfold existsB
 congr 1
 funext x
 exact h.id2 x
theorem existsB_iff {L : List Bu} {b : Bu} : existsB L b = true ↔ ∃ x ∈ L, sameId x b = true := by unfold existsB; rw [List.any_eq_true]
theorem existsB_ins {L : List Bu} {b c : Bu} : existsB (insB b L) c = (existsB L c || sameId b c) := by
 rw [Bool.eq_iff_iff, Bool.or_eq_true, existsB_iff, existsB_iff]
 constructor
 · rintro ⟨x, hx, h⟩
   rcases insB_mem.1 hx with hx | rfl
   · exact Or.inl ⟨x, hx, h⟩
   exact Or.inr h
 rintro (⟨x, hx, h⟩ | h)
 · exact ⟨x, insB_mem.2 (Or.inl hx), h⟩
 exact ⟨b, insB_mem.2 (Or.inr rfl), h⟩
theorem createB_ord {L : List Bu} (h : OrdB L) (g : Bu × Int) : OrdB (createB L g) := by
 unfold createB
 split
 · exact h
 rename_i hn
 exact insB_ord h (by rw [existsB_alike (bornB_alike L g)]; simpa using hn)
theorem foldG_ord : ∀ (G : List (Bu × Int)) {L : List Bu}, OrdB L → OrdB (foldG G L)
 | [], _, h => h
 | g :: G, _, h => foldG_ord G (createB_ord h g)
theorem createB_mono {L : List Bu} {g : Bu × Int} {x : Bu} (h : x ∈ L) : x ∈ createB L g := by
 unfold createB
 split
 · exact h
 exact insB_mem.2 (Or.inl h)
theorem foldG_mono : ∀ (G : List (Bu × Int)) {L : List Bu} {x : Bu}, x ∈ L → x ∈ foldG G L
 | [], _, _, h => h
 | _ :: G, _, _, h => foldG_mono G (createB_mono h)
theorem existsB_mono {L M : List Bu} (h : ∀ x ∈ L, x ∈ M) {b : Bu} (hb : existsB L b = true) : existsB M b = true := by
 obtain ⟨x, hx, h1⟩ := existsB_iff.1 hb
 exact existsB_iff.2 ⟨x, h x hx, h1⟩
theorem sameId_refl (a : Bu) : sameId a a = true := sameId_iff.2 ⟨rfl, rfl, rfl, rfl⟩
theorem createB_has (L : List Bu) (g : Bu × Int) : existsB (createB L g) g.1 = true := by
 unfold createB
 split
 · assumption
 rw [existsB_ins, (bornB_alike L g).id1, sameId_refl, Bool.or_true]
theorem foldG_has : ∀ (G : List (Bu × Int)) {L : List Bu} {g : Bu × Int}, g ∈ G → existsB (foldG G L) g.1 = true
 | g :: G, L, x, h => by
   rcases List.mem_cons.1 h with e | h
   · rw [e]; exact existsB_mono (fun y hy => foldG_mono G hy) (createB_has L g)
   exact foldG_has G h
theorem foldG_idle : ∀ (G : List (Bu × Int)) {L : List Bu}, (∀ g ∈ G, existsB L g.1 = true) → foldG G L = L
 | [], _, _ => rfl
 | g :: G, L, h => by
   show foldG G (createB L g) = L
   have e : createB L g = L := by unfold createB; rw [if_pos (h g List.mem_cons_self)]
   rw [e]
   exact foldG_idle G fun x hx => h x (List.mem_cons_of_mem _ hx)
theorem foldG_append (G H : List (Bu × Int)) (L : List Bu) : foldG (G ++ H) L = foldG H (foldG G L) := List.foldl_append
theorem find_ins {p : Bu → Bool} {b : Bu} {L : List Bu} (h : p b = false) : (insB b L).find? p = L.find? p := by
 unfold insB insT
 rw [List.append_assoc, List.find?_append, List.singleton_append, List.find?_cons_of_neg (by simpa using h), ← List.find?_append, List.take_append_drop]
theorem bornB_ins {b : Bu} {L : List Bu} {g : Bu × Int} (h : precB b g.1 = false) : bornB (insB b L) g = bornB L g := by
 unfold bornB
 rw [find_ins (p := fun x => precB x g.1) h]
theorem bornB_create {L : List Bu} {g h : Bu × Int} (hp : precB g.1 h.1 = false) : bornB (createB L g) h = bornB L h := by
 unfold createB
 split
 · rfl
 exact bornB_ins (by rw [(bornB_alike L g).prec1]; exact hp)
theorem ordB_one {L M : List Bu} (h : OrdB L) (g : OrdB M) (hm : ∀ x, x ∈ L ↔ x ∈ M) : L = M := ord_one Earl.irr Earl.trans L M h.earl g.earl hm
theorem createB_mem {L : List Bu} {g : Bu × Int} {x : Bu} : x ∈ createB L g ↔ x ∈ L ∨ (existsB L g.1 = false ∧ x = bornB L g) := by
 unfold createB
 split
 · rename_i hq; rw [hq]; simp
 rename_i hq; rw [insB_mem]; simp [hq]
theorem createB_comm {L : List Bu} (hL : OrdB L) {g h : Bu × Int} (hi : sameId g.1 h.1 = false) (h1 : precB g.1 h.1 = false) (h2 : precB h.1 g.1 = false) : createB (createB L g) h = createB (createB L h) g := by
 have q1 : bornB (createB L g) h = bornB L h := bornB_create h1
 have q2 : bornB (createB L h) g = bornB L g := bornB_create h2
 have ex : ∀ {a b : Bu × Int}, sameId a.1 b.1 = false → existsB (createB L a) b.1 = existsB L b.1 := fun {a b} hi => by
  unfold createB
  split
  · rfl
  rw [existsB_ins, (bornB_alike L a).id1, hi, Bool.or_false]
 have e1 := ex hi
 have e2 := ex (by rw [sameId_symm]; exact hi : sameId h.1 g.1 = false)
 refine ordB_one (createB_ord (createB_ord hL g) h) (createB_ord (createB_ord hL h) g) fun x => ?_
 rw [createB_mem, createB_mem, createB_mem, createB_mem, e1, e2, q1, q2, or_right_comm]
structure GrantsOk (G : List (Bu × Int)) : Prop where
 one : G.Pairwise fun a b => sameId a.1 b.1 = false
 fwd : G.Pairwise fun a b => precB b.1 a.1 = false
theorem foldG_slide {h : Bu × Int} : ∀ (A : List (Bu × Int)) {L : List Bu}, OrdB L → (∀ a ∈ A, sameId h.1 a.1 = false ∧ precB h.1 a.1 = false ∧ precB a.1 h.1 = false) → foldG A (createB L h) = createB (foldG A L) h
 | [], _, _, _ => rfl
 | a :: A, L, hL, hA => by
   obtain ⟨q1, q2, q3⟩ := hA a List.mem_cons_self
   show foldG A (createB (createB L h) a) = createB (foldG A (createB L a)) h
   rw [createB_comm hL q1 q2 q3]
   exact foldG_slide A (createB_ord hL a) fun x hx => hA x (List.mem_cons_of_mem _ hx)
theorem foldG_part (P : Bu × Int → Bool) : ∀ (G : List (Bu × Int)) {L : List Bu}, OrdB L → GrantsOk G → (∀ a ∈ G, ∀ b ∈ G, precB a.1 b.1 = true → P b = true → P a = true) → foldG (G.filter fun g => !P g) (foldG (G.filter P) L) = foldG G L
 | [], _, _, _, _ => rfl
 | g :: G, L, hL, hG, hP => by
   have g1 := List.pairwise_cons.1 hG.one
   have g2 := List.pairwise_cons.1 hG.fwd
   have ih := fun {M : List Bu} (hM : OrdB M) => foldG_part P G hM ⟨g1.2, g2.2⟩ fun a ha b hb => hP a (List.mem_cons_of_mem _ ha) b (List.mem_cons_of_mem _ hb)
   by_cases hp : P g = true
   · rw [List.filter_cons_of_pos hp, List.filter_cons_of_neg (by simp [hp])]
     exact ih (createB_ord hL g)
   rw [List.filter_cons_of_neg hp, List.filter_cons_of_pos (by simp [hp])]
   show foldG (G.filter fun g => !P g) (createB (foldG (G.filter P) L) g) = foldG G (createB L g)
   rw [← ih (createB_ord hL g), ← foldG_slide _ hL]
   intro a ha
   obtain ⟨ha, hpa⟩ := List.mem_filter.1 ha
   refine ⟨g1.1 a ha, ?_, g2.1 a ha⟩
   rw [← Bool.not_eq_true]
   intro hpr
   exact hp (hP g List.mem_cons_self a (List.mem_cons_of_mem _ ha) hpr hpa)
theorem foldG_two {P : Bu × Int → Bool} {G : List (Bu × Int)} {L : List Bu} (hL : OrdB L) (hG : GrantsOk G) (hP : ∀ a ∈ G, ∀ b ∈ G, precB a.1 b.1 = true → P b = true → P a = true) : foldG G (foldG (G.filter P) L) = foldG G L := by
 have hM := foldG_ord (G.filter P) hL
 rw [← foldG_part P G hM hG hP, foldG_idle (G.filter P) (fun g hg => foldG_has _ hg)]
 exact foldG_part P G hL hG hP
theorem foldG_from : ∀ (G : List (Bu × Int)) {L : List Bu} {x : Bu}, x ∈ foldG G L → x ∈ L ∨ ∃ M g, g ∈ G ∧ x = bornB M g ∧ existsB L g.1 = false
 | [], _, _, h => Or.inl h
 | g :: G, L, x, h => by
   rcases foldG_from G h with h1 | ⟨M, y, hy, e, hn⟩
   · unfold createB at h1
     split at h1
     · exact Or.inl h1
     rename_i hq
     rcases insB_mem.1 h1 with h2 | rfl
     · exact Or.inl h2
     exact Or.inr ⟨L, g, List.mem_cons_self, rfl, by simpa using hq⟩
   refine Or.inr ⟨M, y, List.mem_cons_of_mem _ hy, e, ?_⟩
   rw [← Bool.not_eq_true] at hn ⊢
   exact fun hq => hn (existsB_mono (fun z hz => createB_mono hz) hq)
end Go.Proofs.YtngippiilgdnoaaGreat
