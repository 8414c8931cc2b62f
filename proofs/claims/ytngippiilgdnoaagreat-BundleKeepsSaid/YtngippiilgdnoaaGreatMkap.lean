/-
  What accepted events say of accounts: each is opened once and closed once; the cycle of an instant, plainly.
-/
import Derived.Test.YtngippiilgdnoaaGreatMkab
import Derived.Test.YtngippiilgdnoaaGreatMkad
set_option maxRecDepth 100000
set_option maxHeartbeats 25600000
namespace Go.Proofs.YtngippiilgdnoaaGreat
def isOpen (n : Int) (e : Ev) : Bool := decide (e.kd = 1) && decide (e.ac = n)
def isClose (n : Int) (e : Ev) : Bool := decide (e.kd = 2) && decide (e.ac = n)
theorem isOpen_iff {n : Int} {e : Ev} : isOpen n e = true ↔ e.kd = 1 ∧ e.ac = n := by unfold isOpen; rw [Bool.and_eq_true, decide_eq_true_eq, decide_eq_true_eq]
def openE (l : List Ev) (n : Int) : Option Ev := l.find? (isOpen n)
def closeT (l : List Ev) (n : Int) : Int := match l.find? (isClose n) with | some e => e.tm | none => 12622780800
theorem ixOf_map {α : Type} (p : α → Bool) (l : List α) : ixOf p l = ixOf id (l.map p) := by
 unfold ixOf
 rw [List.any_map, List.findIdx_map]
 rfl
theorem ixOf_append {α : Type} {p : α → Bool} {l : List α} (r : List α) (h : 0 ≤ ixOf p l) : ixOf p (l ++ r) = ixOf p l := by
 obtain ⟨k, hk, e, hp, hn⟩ := ixOf_yes h
 rw [e]
 refine ixOf_hit (k := k) (by rw [List.length_append]; omega) ?_ ?_
 · rw [List.take_append_of_le_length (by omega)]; exact hn
 rw [List.getElem_append_left hk]; exact hp
theorem ixOf_modify {α : Type} {p : α → Bool} {f : α → α} (hf : ∀ a, p (f a) = p a) (l : List α) (k : Nat) : ixOf p (l.modify k f) = ixOf p l := by
 rw [ixOf_map, ixOf_map p l]
 congr 1
 apply List.ext_getElem
 · simp
 intro i h1 h2
 rw [List.getElem_map, List.getElem_map, List.getElem_modify]
 split
 · exact hf _
 rfl
def ClosedB (b : Bk) (n : Int) : Prop := ∃ k, ∃ h : k < b.accs.length, accIx b n = k ∧ (b.accs[k]).clo = true
theorem accs_keep {b : Bk} {e : Ev} (h1 : e.kd ≠ 1) (h2 : e.kd ≠ 2) : (applyB b e).accs = b.accs := by
 unfold applyB
 rw [if_neg h1, if_neg h2]
 split
 · rfl
 split <;> rfl
theorem accs_open {b : Bk} {e : Ev} (h : e.kd = 1) : (applyB b e).accs = b.accs ++ [⟨e.ac, e.tm, e.vl, sameS e.nm prepaidT, false⟩] := by
 unfold applyB
 rw [if_pos h]
theorem accs_close {b : Bk} {e : Ev} (h : e.kd = 2) : (applyB b e).accs = b.accs.modify (accIx b e.ac).toNat fun a => { a with clo := true } := by
 unfold applyB
 rw [if_neg (by omega), if_pos h]
theorem known_keep {b : Bk} {e : Ev} {n : Int} (h : 0 ≤ accIx b n) : accIx (applyB b e) n = accIx b n := by
 unfold accIx at *
 by_cases h1 : e.kd = 1
 · rw [accs_open h1]; exact ixOf_append _ h
 by_cases h2 : e.kd = 2
 · rw [accs_close h2]; exact ixOf_modify (p := fun a : Ac => decide (a.id = n)) (f := fun a : Ac => { a with clo := true }) (fun _ => rfl) _ _
 rw [accs_keep h1 h2]
theorem known_new {b : Bk} {e : Ev} (h : e.kd = 1) : 0 ≤ accIx (applyB b e) e.ac := by
 unfold accIx
 rw [accs_open h]
 rcases ixOf_cases (fun a : Ac => decide (a.id = e.ac)) (b.accs ++ [⟨e.ac, e.tm, e.vl, sameS e.nm prepaidT, false⟩]) with ⟨-, h1⟩ | ⟨k, _, e1, -⟩
 · rw [List.any_append] at h1
   simp at h1
 rw [e1]; exact Int.natCast_nonneg _
theorem known_run {l : List Ev} : ∀ k : Nat, k ≤ l.length → ∀ j (hj : j < l.length), j < k → (l[j]).kd = 1 → 0 ≤ accIx (bookOf (l.take k)) (l[j]).ac
 | 0, _, j, _, h, _ => absurd h (by omega)
 | k + 1, hk, j, hj, h, hkd => by
   rw [bookOf_snoc l k (by omega)]
   by_cases hjk : j = k
   · subst hjk; exact known_new hkd
   have h2 := known_run k (by omega) j hj (by omega) hkd
   rw [known_keep h2]; exact h2
theorem closed_keep {b : Bk} {e : Ev} {n : Int} (h : ClosedB b n) : ClosedB (applyB b e) n := by
 obtain ⟨k, hk, e1, e2⟩ := h
 have hix := known_keep (b := b) (e := e) (n := n) (by rw [e1]; exact Int.natCast_nonneg _)
 by_cases h1 : e.kd = 1
 · refine ⟨k, by rw [accs_open h1, List.length_append]; omega, hix.trans e1, ?_⟩
   have := accs_open (b := b) h1
   simp only [this]
   rw [List.getElem_append_left hk]; exact e2
 by_cases h2 : e.kd = 2
 · have := accs_close (b := b) h2
   refine ⟨k, by rw [this, List.length_modify]; exact hk, hix.trans e1, ?_⟩
   simp only [this]
   rw [List.getElem_modify]
   split
   · rfl
   exact e2
 have := accs_keep (b := b) h1 h2
 refine ⟨k, by rw [this]; exact hk, hix.trans e1, ?_⟩
 simp only [this]
 exact e2
theorem closed_new {b : Bk} {e : Ev} (h : e.kd = 2) (hk : ∃ k, ∃ h : k < b.accs.length, accIx b e.ac = k ∧ (b.accs[k]).clo = false) : ClosedB (applyB b e) e.ac := by
 obtain ⟨k, hk, e1, -⟩ := hk
 have hix := known_keep (b := b) (e := e) (n := e.ac) (by rw [e1]; exact Int.natCast_nonneg _)
 have := accs_close (b := b) h
 refine ⟨k, by rw [this, List.length_modify]; exact hk, hix.trans e1, ?_⟩
 simp only [this]
 rw [List.getElem_modify, if_pos (by rw [e1]; simp)]
theorem closed_run {l : List Ev} (hr : OkRun l) : ∀ k : Nat, k ≤ l.length → ∀ j (hj : j < l.length), j < k → (l[j]).kd = 2 → ClosedB (bookOf (l.take k)) (l[j]).ac
 | 0, _, j, _, h, _ => absurd h (by omega)
 | k + 1, hk, j, hj, h, hkd => by
   rw [bookOf_snoc l k (by omega)]
   by_cases hjk : j = k
   · subst hjk
     exact closed_new hkd ((hr j hj).acc (by rw [hkd]; rfl) (by rw [hkd]; decide))
   exact closed_keep (closed_run hr k (by omega) j hj (by omega) hkd)
structure CycOk (l : List Ev) : Prop where
 op : ∀ i (h : i < l.length), (l[i]).kd = 1 → 0 ≤ (l[i]).tm ∧ (l[i]).tm < 12622780800 ∧ 1 ≤ (l[i]).vl ∧ (l[i]).vl ≤ 28
 o1 : ∀ i j (hi : i < l.length) (hj : j < l.length), (l[i]).kd = 1 → (l[j]).kd = 1 → (l[i]).ac = (l[j]).ac → i = j
 cl : ∀ i (h : i < l.length), (l[i]).kd = 2 → 0 ≤ (l[i]).tm ∧ (l[i]).tm < 12622780800
 c1 : ∀ i j (hi : i < l.length) (hj : j < l.length), (l[i]).kd = 2 → (l[j]).kd = 2 → (l[i]).ac = (l[j]).ac → i = j
theorem cycOk {l : List Ev} (hr : OkRun l) : CycOk l := by
 have o1 : ∀ i j (hi : i < l.length) (hj : j < l.length), (l[i]).kd = 1 → (l[j]).kd = 1 → (l[i]).ac = (l[j]).ac → ¬ i < j := fun i j hi hj h1 h2 he hlt => by
  have g1 := known_run j (by omega) i hi hlt h1
  have g2 := (hr j hj).opn h2
  rw [he] at g1
  omega
 have c1 : ∀ i j (hi : i < l.length) (hj : j < l.length), (l[i]).kd = 2 → (l[j]).kd = 2 → (l[i]).ac = (l[j]).ac → ¬ i < j := fun i j hi hj h1 h2 he hlt => by
  obtain ⟨k, hk, g1, g2⟩ := closed_run hr j (by omega) i hi hlt h1
  obtain ⟨k', hk', g3, g4⟩ := (hr j hj).acc (by rw [h2]; rfl) (by rw [h2]; decide)
  rw [he] at g1
  have : k = k' := by omega
  subst this
  rw [g2] at g4
  cases g4
 refine ⟨fun i h hk => ?_, fun i j hi hj h1 h2 he => ?_, fun i h hk => ⟨(hr i h).t0, (hr i h).t1⟩, fun i j hi hj h1 h2 he => ?_⟩
 · obtain ⟨v1, v2⟩ := (hr i h).v1 hk
   exact ⟨(hr i h).t0, (hr i h).t1, v1, v2⟩
 · have := o1 i j hi hj h1 h2 he
   have := o1 j i hj hi h2 h1 he.symm
   omega
 have := c1 i j hi hj h1 h2 he
 have := c1 j i hj hi h2 h1 he.symm
 omega
theorem openE_some {l : List Ev} {n : Int} {e : Ev} (h : openE l n = some e) : e ∈ l ∧ e.kd = 1 ∧ e.ac = n := ⟨List.mem_of_find?_eq_some h, isOpen_iff.1 (List.find?_some h)⟩
theorem open_bd {l : List Ev} (h : CycOk l) {e : Ev} (he : e ∈ l) (hk : e.kd = 1) : 0 ≤ e.tm ∧ e.tm < 12622780800 ∧ 1 ≤ e.vl ∧ e.vl ≤ 28 := by
 obtain ⟨i, hi, rfl⟩ := List.mem_iff_getElem.1 he
 exact h.op i hi hk
def meetsL (f t : Int) (c : Int × Int) : Bool := decide (max f c.1 < min t c.2)
end Go.Proofs.YtngippiilgdnoaaGreat
