/-
  The walks of product.name and of the reference's Name, and of amount.Valid.
-/
import Derived.Test.YtmijdmchhlcblaaWithin
import Derived.Handy
import Derived.Lib.Bytealg
namespace Go.Proofs.Ytmijdmchhlcblaa
open Go.RowKit

def isLow (c : UInt8) : Bool := decide (97 ≤ (c.toNat : Int) ∧ (c.toNat : Int) ≤ 122)
def isSign (c : UInt8) : Bool := isLow c || decide (48 ≤ (c.toNat : Int) ∧ (c.toNat : Int) ≤ 57) || decide ((c.toNat : Int) = 45)

/-- Is a text a name? -/
def isName (s : ByteArray) : Bool := decide (0 < s.size ∧ s.size ≤ 24) && isLow (s.data.toList.headD 0) && s.data.toList.all isSign

theorem all_take_snoc (s : ByteArray) (k : Nat) (h : k < s.size) : (s.data.toList.take (k + 1)).all isSign = ((s.data.toList.take k).all isSign && isSign s[k]) := by
  rw [List.take_succ_eq_append_getElem (by simpa using h), List.all_append]
  simp only [List.all_cons, List.all_nil, Bool.and_true]
  rfl
theorem all_false (s : ByteArray) (k : Nat) (h : k < s.size) (hs : isSign s[k] = false) : s.data.toList.all isSign = false := by
  rw [List.all_eq_false]
  exact ⟨s[k], by have : s[k] = s.data.toList[k]'(by simpa using h) := rfl; rw [this]; exact List.getElem_mem _, by rw [hs]; decide⟩
theorem headD_get (l : List UInt8) (h : 0 < l.length) : l.headD 0 = l[0] := by
  cases l with
  | nil => cases h
  | cons a r => rfl
theorem head_eq (s : ByteArray) (h : 0 < s.size) : s.data.toList.headD 0 = s[0] := headD_get s.data.toList (by simpa using h)
theorem not_empty (s : ByteArray) (h : 0 < s.size) : s.toList.isEmpty = false := by
  rw [Lib.toList_data]
  cases hl : s.data.toList with
  | nil => exfalso; have : s.data.toList.length = s.size := by simp
           rw [hl] at this; simp at this; omega
  | cons a t => rfl

theorem sign_false {c : UInt8} (h : isSign c = false) : ((c.toNat : Int) < 97 ∨ 122 < (c.toNat : Int)) ∧ ((c.toNat : Int) < 48 ∨ 57 < (c.toNat : Int)) ∧ ((c.toNat : Int) != 45) = true := by
  unfold isSign isLow at h
  simp only [Bool.or_eq_false_iff, decide_eq_false_iff_not] at h
  obtain ⟨⟨h1, h2⟩, h3⟩ := h
  exact ⟨by omega, by omega, by rw [bne_iff_ne]; exact h3⟩
theorem sign_true {c : UInt8} (h : isSign c = true) : (97 ≤ (c.toNat : Int) ∧ (c.toNat : Int) ≤ 122) ∨ (((c.toNat : Int) < 97 ∨ 122 < (c.toNat : Int)) ∧ 48 ≤ (c.toNat : Int) ∧ (c.toNat : Int) ≤ 57) ∨ (((c.toNat : Int) < 97 ∨ 122 < (c.toNat : Int)) ∧ ((c.toNat : Int) < 48 ∨ 57 < (c.toNat : Int)) ∧ ((c.toNat : Int) != 45) = false) := by
  unfold isSign isLow at h
  simp only [Bool.or_eq_true, decide_eq_true_eq] at h
  rw [bne_eq_false_iff_eq]
  omega
theorem low_sign {c : UInt8} (h : isLow c = true) : isSign c = true := by unfold isSign; rw [h]; rfl

set_option maxHeartbeats 1600000 in
theorem name_calls (s : ByteArray) (w : World) (hs : s.size ≤ maxLen) : Calls Try.prog 64 #[.string s] w fun e w' => e = .returned (.bool (isName s)) ∧ w = w' := by
  unfold maxLen at hs
  by_cases h0 : 0 < s.size
  · have hne := not_empty s h0
    by_cases h24 : s.size ≤ 24
    · have hd := head_eq s h0
      cases hl : isLow s[0] with
      | false =>
        have H := Lib.hid (show isName s = false by unfold isName; rw [hd, hl]; simp)
        have hc : (s[0].toNat : Int) < 97 ∨ (97 ≤ (s[0].toNat : Int) ∧ 122 < (s[0].toNat : Int)) := by
          have := of_decide_eq_false hl; omega
        clear hl hd
        rcases hc with hc | hc
        all_goals
          go_enter Try.func64, Try.ntmps64
          go_wp2
          go_ret
          exact ⟨ret_bool H.out.symm, rfl⟩
      | true =>
        have H := Lib.hid (show isName s = s.data.toList.all isSign by unfold isName; rw [hd, hl, decide_eq_true ⟨h0, h24⟩]; rfl)
        obtain ⟨l1, l2⟩ := of_decide_eq_true hl
        have H1 := Lib.hid (show (s.data.toList.take 1).all isSign = true by rw [all_take_snoc s 0 h0, low_sign hl]; rfl)
        clear hl hd
        go_enter Try.func64, Try.ntmps64
        go_wp2
        go_loop [3] (fun i => ∃ k : Nat, 1 ≤ k ∧ k ≤ s.size ∧ i = .int .i64 k ∧ (s.data.toList.take k).all isSign = true) (fun i => s.size - (intOf i).toNat)
        case atStart => exact ⟨1, Nat.le_refl _, by omega, rfl, H1.out⟩
        case round =>
          obtain ⟨k, hk0, hk, rfl, ha⟩ := hrel
          have Ha := Lib.hid ha
          clear ha
          by_cases hlt : k < s.size
          · have hlt' : (k : Int) < (s.size : Int) := by omega
            cases hg : isSign s[k] with
            | false =>
              have HF := Lib.hid (all_false s k hlt hg)
              obtain ⟨e1, e2, e3⟩ := sign_false hg
              clear hg
              rcases e1 with e1 | e1 <;> rcases e2 with e2 | e2
              all_goals first | (exfalso; omega) | (go_wp2; go_ret; exact ⟨ret_bool (by rw [H.out, HF.out]), rfl⟩)
            | true =>
              have HT := Lib.hid (show (s.data.toList.take (k + 1)).all isSign = true by rw [all_take_snoc s k hlt, Ha.out, hg]; rfl)
              have hs3 := sign_true hg
              clear hg
              rcases hs3 with ⟨f1, f2⟩ | ⟨f1 | f1, f2, f3⟩ | ⟨f1 | f1, f2 | f2, f3⟩
              all_goals first | (exfalso; omega) | (go_wp2; exact ⟨⟨k + 1, by omega, by omega, by go_num, HT.out⟩, by simp [intOf]; omega⟩)
          · go_wp2
            go_ret
            exact ⟨ret_bool (by rw [H.out, ← Ha.out, List.take_of_length_le (by simp; omega)]), rfl⟩
    · have H := Lib.hid (show isName s = false by unfold isName; rw [decide_eq_false (by omega)]; rfl)
      go_enter Try.func64, Try.ntmps64
      go_wp2
      go_ret
      exact ⟨ret_bool H.out.symm, rfl⟩
  · have H := Lib.hid (show isName s = false by unfold isName; rw [decide_eq_false (by omega)]; rfl)
    have hz : s.size = 0 := by omega
    have hem : s.toList.isEmpty = true := by rw [Lib.toList_data, List.isEmpty_iff]; exact List.length_eq_zero_iff.1 (by simpa using hz)
    go_enter Try.func64, Try.ntmps64
    go_wp2
    go_ret
    exact ⟨ret_bool H.out.symm, rfl⟩

set_option maxHeartbeats 1600000 in
theorem rname_calls (s : ByteArray) (w : World) (hs : s.size ≤ maxLen) : Calls Try.prog 67 #[.string s] w fun e w' => e = .returned (.bool (isName s)) ∧ w = w' := by
  unfold maxLen at hs
  by_cases h0 : 0 < s.size
  · have hne := not_empty s h0
    by_cases h24 : s.size ≤ 24
    · have hd := head_eq s h0
      cases hl : isLow s[0] with
      | false =>
        have H := Lib.hid (show isName s = false by unfold isName; rw [hd, hl]; simp)
        have hc : (s[0].toNat : Int) < 97 ∨ (97 ≤ (s[0].toNat : Int) ∧ 122 < (s[0].toNat : Int)) := by
          have := of_decide_eq_false hl; omega
        clear hl hd
        rcases hc with hc | hc
        all_goals
          go_enter Try.func67, Try.ntmps67
          go_wp2
          go_ret
          exact ⟨ret_bool H.out.symm, rfl⟩
      | true =>
        have H := Lib.hid (show isName s = s.data.toList.all isSign by unfold isName; rw [hd, hl, decide_eq_true ⟨h0, h24⟩]; rfl)
        obtain ⟨l1, l2⟩ := of_decide_eq_true hl
        have H1 := Lib.hid (show (s.data.toList.take 0).all isSign = true by rw [List.take_zero]; rfl)
        clear hl hd
        go_enter Try.func67, Try.ntmps67
        go_wp2
        go_loop [3] (fun i => ∃ k : Nat, 0 ≤ k ∧ k ≤ s.size ∧ i = .int .i64 k ∧ (s.data.toList.take k).all isSign = true) (fun i => s.size - (intOf i).toNat)
        case atStart => exact ⟨0, Nat.le_refl _, by omega, rfl, H1.out⟩
        case round =>
          obtain ⟨k, hk0, hk, rfl, ha⟩ := hrel
          have Ha := Lib.hid ha
          clear ha
          by_cases hlt : k < s.size
          · have hlt' : (k : Int) < (s.size : Int) := by omega
            cases hg : isSign s[k] with
            | false =>
              have HF := Lib.hid (all_false s k hlt hg)
              obtain ⟨e1, e2, e3⟩ := sign_false hg
              clear hg
              rcases e1 with e1 | e1 <;> rcases e2 with e2 | e2
              all_goals first | (exfalso; omega) | (go_wp2; go_ret; exact ⟨ret_bool (by rw [H.out, HF.out]), rfl⟩)
            | true =>
              have HT := Lib.hid (show (s.data.toList.take (k + 1)).all isSign = true by rw [all_take_snoc s k hlt, Ha.out, hg]; rfl)
              have hs3 := sign_true hg
              clear hg
              rcases hs3 with ⟨f1, f2⟩ | ⟨f1 | f1, f2, f3⟩ | ⟨f1 | f1, f2 | f2, f3⟩
              all_goals first | (exfalso; omega) | (go_wp2; exact ⟨⟨k + 1, by omega, by omega, by go_num, HT.out⟩, by simp [intOf]; omega⟩)
          · go_wp2
            go_ret
            exact ⟨ret_bool (by rw [H.out, ← Ha.out, List.take_of_length_le (by simp; omega)]), rfl⟩
    · have H := Lib.hid (show isName s = false by unfold isName; rw [decide_eq_false (by omega)]; rfl)
      go_enter Try.func67, Try.ntmps67
      go_wp2
      go_ret
      exact ⟨ret_bool H.out.symm, rfl⟩
  · have H := Lib.hid (show isName s = false by unfold isName; rw [decide_eq_false (by omega)]; rfl)
    have hz : s.size = 0 := by omega
    have hem : s.toList.isEmpty = true := by rw [Lib.toList_data, List.isEmpty_iff]; exact List.length_eq_zero_iff.1 (by simpa using hz)
    go_enter Try.func67, Try.ntmps67
    go_wp2
    go_ret
    exact ⟨ret_bool H.out.symm, rfl⟩

set_option maxHeartbeats 400000 in
theorem valid_amount (n : Int) (w : World) : Calls Try.prog 65 #[.int .i64 n] w fun e w' => e = .returned (.bool (decide (-1125899906842624 ≤ n ∧ n ≤ 1125899906842624))) ∧ w = w' := by
  by_cases h0 : -1125899906842624 ≤ n
  · go_enter Try.func65, Try.ntmps65
    go_wp2
    go_ret
    exact ⟨ret_bool (by simp [h0]), rfl⟩
  · go_enter Try.func65, Try.ntmps65
    go_wp2
    go_ret
    exact ⟨ret_bool (by simp; omega), rfl⟩
end Go.Proofs.Ytmijdmchhlcblaa
