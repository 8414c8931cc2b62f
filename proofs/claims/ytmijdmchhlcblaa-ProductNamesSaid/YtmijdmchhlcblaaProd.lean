/-
  Products and bundles: the plain law of their first errors.
-/
import Derived.Test.YtmijdmchhlcblaaName
namespace Go.Proofs.Ytmijdmchhlcblaa
open Go.RowKit

structure Bd where
  kd : Int
  zs : List ByteArray
  un : Int
  ro : Int
  pr : Int
  sh : Bool

structure Pd where
  nm : ByteArray
  fm : Int
  fe : Int
  ct : ByteArray
  pro : Bool
  bs : List Bd

/-- The order of texts. -/
def ltS (a b : ByteArray) : Bool := Op.bytesLess a.toList b.toList

def eqS (a b : ByteArray) : Bool := a.toList == b.toList

def ascUpto (l : List ByteArray) (n : Nat) : Bool := (List.range n).all fun i => ltS (l.getD i ByteArray.empty) (l.getD (i + 1) ByteArray.empty)
/-- Is a list of texts ascending? -/
def ascS (l : List ByteArray) : Bool := ascUpto l (l.length - 1)

theorem getD_lt {α : Type} (l : List α) (i : Nat) (d : α) (h : i < l.length) : l.getD i d = l[i] := by simp [List.getD, h]

theorem ascUpto_succ (l : List ByteArray) (k : Nat) (hk : 1 ≤ k) (h : k < l.length) : ascUpto l k = (ascUpto l (k - 1) && ltS l[k - 1] l[k]) := by
  obtain ⟨j, rfl⟩ : ∃ j, k = j + 1 := ⟨k - 1, by omega⟩
  unfold ascUpto
  rw [List.range_succ, List.all_append]
  simp only [List.all_cons, List.all_nil, Bool.and_true, Nat.add_sub_cancel]
  rw [getD_lt _ _ _ (by omega), getD_lt _ _ _ h]

theorem ascUpto_false (l : List ByteArray) (k : Nat) (hk : 1 ≤ k) (h : k < l.length) (hf : ltS l[k - 1] l[k] = false) : ascS l = false := by
  unfold ascS ascUpto
  rw [List.all_eq_false]
  refine ⟨k - 1, by simp; omega, ?_⟩
  have e : k - 1 + 1 = k := by omega
  rw [e, getD_lt _ _ _ (by omega), getD_lt _ _ _ h, hf]
  decide

theorem filter_all {α : Type} (p : α → Bool) (l : List α) : l.all p = true → (l.filter p).length = l.length := by
  intro h
  rw [List.filter_eq_self.2 (fun a ha => (List.all_eq_true.1 h) a ha)]
theorem filter_less {α : Type} (p : α → Bool) (l : List α) : l.all p = false → (l.filter p).length < l.length := by
  intro h
  rcases Nat.lt_or_ge (l.filter p).length l.length with hl | hl
  · exact hl
  · exfalso
    have e : (l.filter p).length = l.length := Nat.le_antisymm (List.length_filter_le _ _) hl
    have := List.length_filter_eq_length_iff.1 e
    rw [List.all_eq_true.2 this] at h
    cases h

/-- The numbers of a bundle are in range. -/
def Bd.ok (b : Bd) : Prop := 1 ≤ b.un ∧ b.un ≤ 1099511627776 ∧ 0 ≤ b.ro ∧ b.ro ≤ 1099511627776 ∧ 0 ≤ b.pr ∧ b.pr ≤ 99
instance (b : Bd) : Decidable b.ok := by unfold Bd.ok; infer_instance

/-- The first error of zones. -/
def zonesE (l : List ByteArray) : Int := if 64 < l.length then 5 else if l.all isName = false then 8 else if ascS l = false then 9 else 0
/-- The first error of a bundle. -/
def bundleE (b : Bd) : Int := if b.kd < 1 ∨ 4 < b.kd then 7 else if zonesE b.zs ≠ 0 then zonesE b.zs else if ¬ b.ok then 6 else 0

/-- The first error of bundles. -/
def bundlesE : List Bd → Int
  | [] => 0
  | b :: r => if bundleE b ≠ 0 then bundleE b else bundlesE r

/-- The first error of a product. -/
def prodE (p : Pd) : Int :=
  if isName p.nm = false then 8 else if p.fm < 0 ∨ 12622780800 ≤ p.fm then 15 else if p.fe < 0 ∨ 1125899906842624 < p.fe then 6 else if isName p.ct = false then 8
  else if 64 < p.bs.length then 5 else bundlesE p.bs

/-- Is a version not behind another? -/
def nextBad (a b : Pd) : Bool := (!(ltS a.nm b.nm) && !(eqS a.nm b.nm)) || (eqS a.nm b.nm && decide (b.fm ≤ a.fm))

/-- The first error of products behind one. -/
def prodsE : Option Pd → List Pd → Int
  | _, [] => 0
  | q, p :: r => if prodE p ≠ 0 then prodE p else if (match q with | some a => nextBad a p | none => false) then 9 else prodsE (some p) r
end Go.Proofs.Ytmijdmchhlcblaa
