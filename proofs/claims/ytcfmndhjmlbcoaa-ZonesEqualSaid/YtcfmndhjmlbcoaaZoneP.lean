/-
  Zones: the plain law of their first errors.
-/
import Derived.Test.YtcfmndhjmlbcoaaBandP
namespace Go.Proofs.Ytcfmndhjmlbcoaa
open Go.RowKit

/-- A zone: its name, its prefixes. -/
abbrev Zn := ByteArray × List ByteArray

def isDig (c : UInt8) : Bool := decide (48 ≤ (c.toNat : Int) ∧ (c.toNat : Int) ≤ 57)
/-- Is a text a number? -/
def isNum (s : ByteArray) : Bool := decide (1 ≤ s.size ∧ s.size ≤ 15) && s.data.toList.all isDig

theorem dig_take (s : ByteArray) (k : Nat) (h : k < s.size) : (s.data.toList.take (k + 1)).all isDig = ((s.data.toList.take k).all isDig && isDig s[k]) := by
  rw [List.take_succ_eq_append_getElem (by simpa using h), List.all_append]
  simp only [List.all_cons, List.all_nil, Bool.and_true]
  rfl
theorem dig_false (s : ByteArray) (k : Nat) (h : k < s.size) (hs : isDig s[k] = false) : s.data.toList.all isDig = false := by
  rw [List.all_eq_false]
  exact ⟨s[k], by have : s[k] = s.data.toList[k]'(by simpa using h) := rfl; rw [this]; exact List.getElem_mem _, by rw [hs]; decide⟩

/-- The first error of prefixes behind others. -/
def prefsE : List ByteArray → List ByteArray → Int
  | _, [] => 0
  | seen, p :: r => if isNum p = false then 12 else if seen.any (fun x => sameS x p) = true then 10 else prefsE (seen ++ [p]) r
/-- All prefixes of zones. -/
def allPr (l : List Zn) : List ByteArray := l.flatMap (·.2)
/-- The first error of a zone behind others. -/
def zoneE (pre : List Zn) (z : Zn) : Int :=
  if isName z.1 = false then 8 else if pre.any (fun x => sameS x.1 z.1) = true then 10 else if z.2.length = 0 then 8 else if 64 < z.2.length then 5 else prefsE (allPr pre) z.2
def zonesE6 : List Zn → List Zn → Int
  | _, [] => 0
  | pre, z :: r => if zoneE pre z ≠ 0 then zoneE pre z else zonesE6 (pre ++ [z]) r
/-- The first error of a list of zones. -/
def checkZ (l : List Zn) : Int := if 64 < l.length then 5 else zonesE6 [] l

theorem zonesE6_step (l : List Zn) (k : Nat) (h : k < l.length) : zonesE6 (l.take k) (l.drop k) =
    if zoneE (l.take k) l[k] ≠ 0 then zoneE (l.take k) l[k] else zonesE6 (l.take (k + 1)) (l.drop (k + 1)) := by
  rw [List.drop_eq_getElem_cons h, List.take_succ_eq_append_getElem h, zonesE6]
theorem zonesE6_end (l : List Zn) (k : Nat) (h : l.length ≤ k) : zonesE6 (l.take k) (l.drop k) = 0 := by
  rw [List.drop_eq_nil_of_le h]; rfl
theorem prefsE_step (seen l : List ByteArray) (k : Nat) (h : k < l.length) : prefsE (seen ++ l.take k) (l.drop k) =
    if isNum l[k] = false then 12 else if (seen ++ l.take k).any (fun x => sameS x l[k]) = true then 10 else prefsE (seen ++ l.take (k + 1)) (l.drop (k + 1)) := by
  rw [List.drop_eq_getElem_cons h, List.take_succ_eq_append_getElem h, prefsE, List.append_assoc]
theorem prefsE_end (seen l : List ByteArray) (k : Nat) (h : l.length ≤ k) : prefsE (seen ++ l.take k) (l.drop k) = 0 := by
  rw [List.drop_eq_nil_of_le h]; rfl
theorem allPr_take (l : List Zn) (k : Nat) (h : k < l.length) : allPr (l.take (k + 1)) = allPr (l.take k) ++ l[k].2 := by
  unfold allPr
  rw [List.take_succ_eq_append_getElem h, List.flatMap_append]
  simp
end Go.Proofs.Ytcfmndhjmlbcoaa
