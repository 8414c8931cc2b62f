/-
  The walk of the reference's Valid of numbers.
-/
import Derived.Test.YtngippiilgdnoaaMcaa
import Derived.Handy
import Derived.Lib.Bytealg
set_option maxRecDepth 100000
set_option maxHeartbeats 25600000
namespace Go.Proofs.Ytngippiilgdnoaa
open Go.RowKit
end Go.Proofs.Ytngippiilgdnoaa
namespace Go.Proofs.Ytngippiilgdnoaa
open Go.RowKit
def sameS (a b : ByteArray) : Bool := a.toList == b.toList
theorem sameS_iff (a b : ByteArray) : sameS a b = true ↔ a = b := by
 unfold sameS
 rw [beq_iff_eq]
 constructor
 · intro h
   rw [Lib.toList_data, Lib.toList_data] at h
   exact ByteArray.ext (Array.ext' h)
 rintro rfl; rfl
end Go.Proofs.Ytngippiilgdnoaa
namespace Go.Proofs.Ytngippiilgdnoaa
structure Ev where
 tm : Int
 kd : Int
 ac : Int
 sb : Int
 nu : ByteArray
 nm : ByteArray
 vl : Int
instance evInh : Inhabited Ev := ⟨⟨0, 0, 0, 0, ByteArray.empty, ByteArray.empty, 0⟩⟩
structure Ac where
 id : Int
 si : Int
 an : Int
 pre : Bool
 clo : Bool
structure Sb where
 id : Int
 ac : Int
 si : Int
 plan : ByteArray
 nus : List ByteArray
 prs : List ByteArray
 su : Bool
 fa : Bool
instance sbInh : Inhabited Sb := ⟨⟨0, 0, 0, ByteArray.empty, [], [], false, false⟩⟩
structure Bk where
 accs : List Ac
 subs : List Sb
 ended : List Int
def ixOf {α : Type} (p : α → Bool) (l : List α) : Int := if l.any p = true then (l.findIdx p : Int) else -1
theorem any_take {α : Type} {l : List α} {p : α → Bool} {k : Nat} (hk : k < l.length) (h : (l.take k).any p = false) (hp : p l[k] = false) : (l.take (k + 1)).any p = false := by
 rw [List.take_succ_eq_append_getElem hk, List.any_append, h]
 simp [hp]
theorem any_hit {α : Type} {l : List α} {p : α → Bool} {k : Nat} (hk : k < l.length) (hp : p l[k] = true) : l.any p = true := List.any_eq_true.2 ⟨_, List.getElem_mem hk, hp⟩
theorem any_end {α : Type} {l : List α} {p : α → Bool} {k : Nat} (hk : l.length ≤ k) (h : (l.take k).any p = false) : l.any p = false := by rwa [List.take_of_length_le hk] at h
theorem ixOf_hit {α : Type} {l : List α} {p : α → Bool} {k : Nat} (hk : k < l.length) (h : (l.take k).any p = false) (hp : p l[k] = true) : ixOf p l = k := by
 unfold ixOf
 rw [if_pos (any_hit hk hp)]
 have h1 : l.findIdx p = k := by
  rw [List.findIdx_eq hk]
  refine ⟨hp, fun j hj => ?_⟩
  have := List.any_eq_false.1 h l[j] (by
   rw [List.mem_take_iff_getElem]
   exact ⟨j, by omega, rfl⟩)
  simpa using this
 rw [h1]
theorem ixOf_cases {α : Type} (p : α → Bool) (l : List α) : (ixOf p l = -1 ∧ l.any p = false) ∨ ∃ k, ∃ h : k < l.length, ixOf p l = k ∧ p l[k] = true ∧ (l.take k).any p = false := by
 unfold ixOf
 by_cases h : l.any p = true
 · rw [if_pos h]
   have h1 : l.findIdx p < l.length := List.findIdx_lt_length.2 (List.any_eq_true.1 h)
   refine Or.inr ⟨_, h1, rfl, List.findIdx_getElem (w := h1), ?_⟩
   rw [List.any_eq_false]
   intro x hx
   obtain ⟨j, hj, rfl⟩ := List.mem_take_iff_getElem.1 hx
   have := List.not_of_lt_findIdx (p := p) (xs := l) (i := j) (by omega)
   simpa using this
 rw [if_neg h]
 exact Or.inl ⟨rfl, by simpa using h⟩
theorem ixOf_yes {α : Type} {p : α → Bool} {l : List α} (h : 0 ≤ ixOf p l) : ∃ k, ∃ h : k < l.length, ixOf p l = k ∧ p l[k] = true ∧ (l.take k).any p = false := by
 rcases ixOf_cases p l with ⟨h1, -⟩ | h1
 · omega
 exact h1
def kW (l : List ByteArray) (s : ByteArray) : Nat := (l.takeWhile fun x => Op.bytesLess x.toList s.toList).length
def withT (l : List ByteArray) (s : ByteArray) : List ByteArray := l.take (kW l s) ++ [s] ++ l.drop (kW l s)
def withoutT (l : List ByteArray) (s : ByteArray) : List ByteArray := l.filter fun x => !sameS x s
theorem kW_le (l : List ByteArray) (s : ByteArray) : kW l s ≤ l.length := List.Sublist.length_le (List.takeWhile_sublist _)
theorem withT_len (l : List ByteArray) (s : ByteArray) : (withT l s).length = l.length + 1 := by
 have := kW_le l s
 unfold withT
 simp only [List.length_append, List.length_take, List.length_drop, List.length_singleton]
 omega
theorem withoutT_len (l : List ByteArray) (s : ByteArray) : (withoutT l s).length ≤ l.length := List.length_filter_le _ _
theorem kW_at {l : List ByteArray} {s : ByteArray} {k : Nat} (hk : k < l.length) (h : ∀ j (hj : j < k), Op.bytesLess l[j].toList s.toList = true) (hn : Op.bytesLess l[k].toList s.toList = false) : kW l s = k := by
 unfold kW
 have e : l = l.take k ++ (l[k] :: l.drop (k + 1)) := by rw [← List.drop_eq_getElem_cons hk, List.take_append_drop]
 have h2 : (l.takeWhile fun x => Op.bytesLess x.toList s.toList) = ((l.take k ++ (l[k] :: l.drop (k + 1))).takeWhile fun x => Op.bytesLess x.toList s.toList) := congrArg _ e
 rw [h2, List.takeWhile_append_of_pos, List.takeWhile_cons_of_neg (by simp [hn]), List.append_nil, List.length_take]
 · omega
 intro x hx
 obtain ⟨j, hj, rfl⟩ := List.mem_take_iff_getElem.1 hx
 exact h j (by omega)
theorem kW_all {l : List ByteArray} {s : ByteArray} (h : ∀ j (hj : j < l.length), Op.bytesLess l[j].toList s.toList = true) : kW l s = l.length := by
 unfold kW
 have h2 : ((l ++ []).takeWhile fun x => Op.bytesLess x.toList s.toList) = l ++ ([] : List ByteArray).takeWhile fun x => Op.bytesLess x.toList s.toList := List.takeWhile_append_of_pos (by
  intro x hx
  obtain ⟨j, hj, rfl⟩ := List.mem_iff_getElem.1 hx
  exact h j hj)
 rw [List.append_nil, List.takeWhile_nil, List.append_nil] at h2
 rw [h2]
def changedS (s : Sb) (e : Ev) : Sb :=
 if e.kd = 4 then { s with nus := [], prs := [] }
 else if e.kd = 5 then { s with nus := withT s.nus e.nu }
 else if e.kd = 6 then { s with nus := withoutT s.nus e.nu }
 else if e.kd = 7 then { s with plan := e.nm }
 else if e.kd = 8 then { s with prs := withT s.prs e.nm }
 else if e.kd = 9 then { s with prs := withoutT s.prs e.nm }
 else if e.kd = 10 then { s with su := true }
 else if e.kd = 11 then { s with su := false }
 else if e.kd = 12 then { s with fa := true }
 else if e.kd = 13 then { s with fa := false }
 else s
def prepaidT : ByteArray := ⟨#[112, 114, 101, 112, 97, 105, 100]⟩
def accIx (b : Bk) (n : Int) : Int := ixOf (fun a => decide (a.id = n)) b.accs
def subIx (b : Bk) (n : Int) : Int := ixOf (fun s => decide (s.id = n)) b.subs
def endedB (b : Bk) (n : Int) : Bool := b.ended.any fun m => decide (m = n)
def applyB (b : Bk) (e : Ev) : Bk :=
 if e.kd = 1 then { b with accs := b.accs ++ [⟨e.ac, e.tm, e.vl, sameS e.nm prepaidT, false⟩] }
 else if e.kd = 2 then { b with accs := b.accs.modify (accIx b e.ac).toNat fun a => { a with clo := true } }
 else if e.kd = 3 then { b with subs := b.subs ++ [⟨e.sb, e.ac, e.tm, e.nm, [], [], false, false⟩] }
 else if 14 ≤ e.kd then b
 else { b with subs := b.subs.modify (subIx b e.sb).toNat fun s => changedS s e, ended := if e.kd = 4 then b.ended ++ [e.sb] else b.ended }
def usesA (k : Int) : Bool := decide (k = 1) || decide (k = 2) || decide (k = 3) || decide (k = 14) || decide (k = 15)
def usesS (k : Int) : Bool := !(decide (k = 1) || decide (k = 2) || decide (k = 14) || decide (k = 15))
structure OkEv (b : Bk) (last : Int) (e : Ev) : Prop where
 k1 : 1 ≤ e.kd
 k2 : e.kd ≤ 15
 t0 : 0 ≤ e.tm
 t1 : e.tm < 12622780800
 t2 : last ≤ e.tm
 a1 : usesA e.kd = true → 1 ≤ e.ac ∧ e.ac ≤ 9999
 a0 : usesA e.kd = false → e.ac = 0
 s1 : usesS e.kd = true → 1 ≤ e.sb ∧ e.sb ≤ 9999
 s0 : usesS e.kd = false → e.sb = 0
 v1 : e.kd = 1 → 1 ≤ e.vl ∧ e.vl ≤ 28
 opn : e.kd = 1 → accIx b e.ac < 0
 acc : usesA e.kd = true → e.kd ≠ 1 → ∃ k, ∃ h : k < b.accs.length, accIx b e.ac = k ∧ (b.accs[k]).clo = false
 add : e.kd = 3 → subIx b e.sb < 0
 sub : usesA e.kd = false → 0 ≤ subIx b e.sb ∧ endedB b e.sb = false
def bookOf (l : List Ev) : Bk := l.foldl applyB ⟨[], [], []⟩
theorem bookOf_snoc (l : List Ev) (k : Nat) (h : k < l.length) : bookOf (l.take (k + 1)) = applyB (bookOf (l.take k)) l[k] := by
 unfold bookOf
 rw [List.take_succ_eq_append_getElem h, List.foldl_append]
 rfl
def lastOfE (l : List Ev) (k : Nat) : Int := match k with | 0 => 0 | k + 1 => (l.getD k default).tm
def OkRun (l : List Ev) : Prop := ∀ i (h : i < l.length), OkEv (bookOf (l.take i)) (lastOfE l i) l[i]
structure Small (b : Bk) (n : Nat) : Prop where
 a : b.accs.length ≤ n
 s : b.subs.length ≤ n
 e : b.ended.length ≤ n
 nu : ∀ s ∈ b.subs, s.nus.length ≤ n
 pr : ∀ s ∈ b.subs, s.prs.length ≤ n
theorem Small.mono {b : Bk} {n m : Nat} (h : Small b n) (hm : n ≤ m) : Small b m :=
 ⟨Nat.le_trans h.a hm, Nat.le_trans h.s hm, Nat.le_trans h.e hm, fun s hs => Nat.le_trans (h.nu s hs) hm, fun s hs => Nat.le_trans (h.pr s hs) hm⟩
theorem mem_modify {α : Type} {f : α → α} {l : List α} {i : Nat} {x : α} (h : x ∈ l.modify i f) : x ∈ l ∨ ∃ y ∈ l, x = f y := by
 obtain ⟨j, hj, rfl⟩ := List.mem_iff_getElem.1 h
 rw [List.length_modify] at hj
 rw [List.getElem_modify]
 split
 · exact Or.inr ⟨_, List.getElem_mem hj, rfl⟩
 exact Or.inl (List.getElem_mem hj)
theorem changedS_len (s : Sb) (e : Ev) (n : Nat) (h1 : s.nus.length ≤ n) (h2 : s.prs.length ≤ n) : (changedS s e).nus.length ≤ n + 1 ∧ (changedS s e).prs.length ≤ n + 1 := by
 have a1 := withT_len s.nus e.nu
 have a2 := withoutT_len s.nus e.nu
 have a3 := withT_len s.prs e.nm
 have a4 := withoutT_len s.prs e.nm
 unfold changedS
 repeat' split
 all_goals ((try dsimp only); refine ⟨?_, ?_⟩ <;> (first | omega | (simp; done)))
theorem Small.apply {b : Bk} {n : Nat} (h : Small b n) (e : Ev) : Small (applyB b e) (n + 1) := by
 obtain ⟨h1, h2, h3, h4, h5⟩ := h
 unfold applyB
 split
 · exact ⟨by simp; omega, by simp; omega, by simp; omega, fun s hs => Nat.le_succ_of_le (h4 s hs), fun s hs => Nat.le_succ_of_le (h5 s hs)⟩
 split
 · exact ⟨by simp; omega, by simp; omega, by simp; omega, fun s hs => Nat.le_succ_of_le (h4 s hs), fun s hs => Nat.le_succ_of_le (h5 s hs)⟩
 split
 · refine ⟨by simp; omega, by simp; omega, by simp; omega, fun s hs => ?_, fun s hs => ?_⟩
   · rcases List.mem_append.1 hs with hs | hs
     · exact Nat.le_succ_of_le (h4 s hs)
     rw [List.mem_singleton] at hs; subst hs; exact Nat.zero_le _
   rcases List.mem_append.1 hs with hs | hs
   · exact Nat.le_succ_of_le (h5 s hs)
   rw [List.mem_singleton] at hs; subst hs; exact Nat.zero_le _
 split
 · exact ⟨Nat.le_succ_of_le h1, Nat.le_succ_of_le h2, Nat.le_succ_of_le h3, fun s hs => Nat.le_succ_of_le (h4 s hs), fun s hs => Nat.le_succ_of_le (h5 s hs)⟩
 refine ⟨Nat.le_succ_of_le h1, by simp; omega, ?_, fun s hs => ?_, fun s hs => ?_⟩
 · show (if e.kd = 4 then b.ended ++ [e.sb] else b.ended).length ≤ _
   split
   · simp; omega
   omega
 · rcases mem_modify hs with hs | ⟨y, hy, rfl⟩
   · exact Nat.le_succ_of_le (h4 s hs)
   exact (changedS_len y e n (h4 y hy) (h5 y hy)).1
 rcases mem_modify hs with hs | ⟨y, hy, rfl⟩
 · exact Nat.le_succ_of_le (h5 s hs)
 exact (changedS_len y e n (h4 y hy) (h5 y hy)).2
open Go.RowKit
end Go.Proofs.Ytngippiilgdnoaa
namespace Go.Proofs.Ytngippiilgdnoaa
open Go.RowKit
structure Bd where
 kd : Int
 zs : List ByteArray
 un : Int
 ro : Int
 pr : Int
 sh : Bool
structure Pd where
 nm : ByteArray
 fm : Int
 fe : Int
 ct : ByteArray
 pro : Bool
 bs : List Bd
def ltS (a b : ByteArray) : Bool := Op.bytesLess a.toList b.toList
def eqS (a b : ByteArray) : Bool := a.toList == b.toList
def Bd.ok (b : Bd) : Prop := 1 ≤ b.un ∧ b.un ≤ 1099511627776 ∧ 0 ≤ b.ro ∧ b.ro ≤ 1099511627776 ∧ 0 ≤ b.pr ∧ b.pr ≤ 99
instance decBdOk (b : Bd) : Decidable b.ok := by unfold Bd.ok; infer_instance
end Go.Proofs.Ytngippiilgdnoaa
namespace Go.Proofs.Ytngippiilgdnoaa
open Go.RowKit
open Go.RowKit
end Go.Proofs.Ytngippiilgdnoaa
