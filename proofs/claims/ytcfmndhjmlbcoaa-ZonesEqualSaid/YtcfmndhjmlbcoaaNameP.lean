/-
  Names: the plain law.
-/
import Derived.Test.YtcfmndhjmlbcoaaBase
import Derived.Handy
import Derived.Lib.Bytealg
namespace Go.Proofs.Ytcfmndhjmlbcoaa
open Go.RowKit

def isLow (c : UInt8) : Bool := decide (97 ≤ (c.toNat : Int) ∧ (c.toNat : Int) ≤ 122)
def isSign (c : UInt8) : Bool := isLow c || decide (48 ≤ (c.toNat : Int) ∧ (c.toNat : Int) ≤ 57) || decide ((c.toNat : Int) = 45)

/-- Is a text a name? -/
def isName (s : ByteArray) : Bool := decide (0 < s.size ∧ s.size ≤ 24) && isLow (s.data.toList.headD 0) && s.data.toList.all isSign

theorem all_take_snoc (s : ByteArray) (k : Nat) (h : k < s.size) : (s.data.toList.take (k + 1)).all isSign = ((s.data.toList.take k).all isSign && isSign s[k]) := by
  rw [List.take_succ_eq_append_getElem (by simpa using h), List.all_append]
  simp only [List.all_cons, List.all_nil, Bool.and_true]
  rfl
theorem all_false (s : ByteArray) (k : Nat) (h : k < s.size) (hs : isSign s[k] = false) : s.data.toList.all isSign = false := by
  rw [List.all_eq_false]
  exact ⟨s[k], by have : s[k] = s.data.toList[k]'(by simpa using h) := rfl; rw [this]; exact List.getElem_mem _, by rw [hs]; decide⟩
theorem headD_get (l : List UInt8) (h : 0 < l.length) : l.headD 0 = l[0] := by
  cases l with
  | nil => cases h
  | cons a r => rfl
theorem head_eq (s : ByteArray) (h : 0 < s.size) : s.data.toList.headD 0 = s[0] := headD_get s.data.toList (by simpa using h)
theorem not_empty (s : ByteArray) (h : 0 < s.size) : s.toList.isEmpty = false := by
  rw [Lib.toList_data]
  cases hl : s.data.toList with
  | nil => exfalso; have : s.data.toList.length = s.size := by simp
           rw [hl] at this; simp at this; omega
  | cons a t => rfl

theorem sign_false {c : UInt8} (h : isSign c = false) : ((c.toNat : Int) < 97 ∨ 122 < (c.toNat : Int)) ∧ ((c.toNat : Int) < 48 ∨ 57 < (c.toNat : Int)) ∧ ((c.toNat : Int) != 45) = true := by
  unfold isSign isLow at h
  simp only [Bool.or_eq_false_iff, decide_eq_false_iff_not] at h
  obtain ⟨⟨h1, h2⟩, h3⟩ := h
  exact ⟨by omega, by omega, by rw [bne_iff_ne]; exact h3⟩
theorem sign_true {c : UInt8} (h : isSign c = true) : (97 ≤ (c.toNat : Int) ∧ (c.toNat : Int) ≤ 122) ∨ (((c.toNat : Int) < 97 ∨ 122 < (c.toNat : Int)) ∧ 48 ≤ (c.toNat : Int) ∧ (c.toNat : Int) ≤ 57) ∨ (((c.toNat : Int) < 97 ∨ 122 < (c.toNat : Int)) ∧ ((c.toNat : Int) < 48 ∨ 57 < (c.toNat : Int)) ∧ ((c.toNat : Int) != 45) = false) := by
  unfold isSign isLow at h
  simp only [Bool.or_eq_true, decide_eq_true_eq] at h
  rw [bne_eq_false_iff_eq]
  omega
theorem low_sign {c : UInt8} (h : isLow c = true) : isSign c = true := by unfold isSign; rw [h]; rfl

end Go.Proofs.Ytcfmndhjmlbcoaa
