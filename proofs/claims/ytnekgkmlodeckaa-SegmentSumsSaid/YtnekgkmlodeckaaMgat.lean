/-
  The walks of the names of bands and zones.
-/
import Derived.Test.YtnekgkmlodeckaaMgab
import Derived.Test.YtnekgkmlodeckaaMgad
import Derived.Deep.QuietTactic
import Derived.BigQuiet
namespace Go.Proofs.Ytnekgkmlodeckaa
open Go.RowKit

theorem below_drewN5 {B : Nat} {a w : World} (h : Below B a w) (n : Nat) : Below B a (w.drewN n) := ⟨h.os, h.tape, h.output, h.size, h.block⟩
theorem name_of (s : ByteArray) (h0 : 0 < s.size) (hl : isLow s[0] = true) (ha : s.data.toList.all isSign = true) : isName s = decide (s.size ≤ 24) := by
  unfold isName
  rw [head_eq s h0, hl, ha]
  simp [h0]
theorem name_sign (s : ByteArray) (ha : s.data.toList.all isSign = false) : isName s = false := by unfold isName; rw [ha]; simp
theorem name_low (s : ByteArray) (h0 : 0 < s.size) (hl : isLow s[0] = false) : isName s = false := by unfold isName; rw [head_eq s h0, hl]; simp

set_option maxHeartbeats 1600000 in
theorem bname_calls (s : ByteArray) (w : World) (hs : s.size ≤ maxLen) : Calls Try.prog 62 #[.string s] w fun e w' => e = .returned (.bool (isName s)) ∧ w = w' := by
  unfold maxLen at hs
  have HS := Lib.hid (name_sign s)
  have HL := Lib.hid (name_low s)
  have HN := Lib.hid (name_of s)
  go_enter Try.func62, Try.ntmps62
  go_wp2
  go_loop [3, 4, 7] (fun _ _ i => ∃ k : Nat, k ≤ s.size ∧ i = .int .i64 k ∧ (∀ h : 0 < s.size, 1 ≤ k → isLow s[0] = true) ∧ (s.data.toList.take k).all isSign = true) (fun _ _ i => s.size - (intOf i).toNat)
  case atStart => exact ⟨0, Nat.zero_le _, rfl, fun _ h => by omega, rfl⟩
  case round =>
    obtain ⟨k, hk, rfl, hlo, ha⟩ := hrel
    have Hlo := Lib.hid hlo
    have Ha := Lib.hid ha
    clear hlo ha
    by_cases hlt : k < s.size
    · have hlt' : (k : Int) < (s.size : Int) := by omega
      by_cases hk0 : k = 0
      · subst hk0
        cases hl : isLow s[0] with
        | false =>
          have H := Lib.hid (HL.out hlt hl)
          have hc : (s[0].toNat : Int) < 97 ∨ (97 ≤ (s[0].toNat : Int) ∧ 122 < (s[0].toNat : Int)) := by
            have := of_decide_eq_false hl; omega
          clear hl
          rcases hc with hc | hc
          all_goals
            go_wp2
            go_ret
            exact ⟨ret_bool H.out.symm, rfl⟩
        | true =>
          have HT := Lib.hid (show (s.data.toList.take 1).all isSign = true by rw [all_take_snoc s 0 hlt, low_sign hl]; rfl)
          have Hl := Lib.hid hl
          obtain ⟨l1, l2⟩ := of_decide_eq_true hl
          clear hl
          go_wp2
          exact ⟨⟨1, by omega, rfl, fun _ _ => Hl.out, HT.out⟩, by simp [intOf]; omega⟩
      · have hkz : ((k : Int) == 0) = false := beq_eq_false_iff_ne.2 (by omega)
        have Hl0 := Lib.hid (Hlo.out (by omega) (by omega))
        cases hg : isSign s[k] with
        | false =>
          have HF := Lib.hid (HS.out (all_false s k hlt hg))
          obtain ⟨e1, e2, e3⟩ := sign_false hg
          clear hg
          rcases e1 with e1 | e1 <;> rcases e2 with e2 | e2
          all_goals first | (exfalso; omega) | (go_wp2; go_ret; exact ⟨ret_bool HF.out.symm, rfl⟩)
        | true =>
          have HT := Lib.hid (show (s.data.toList.take (k + 1)).all isSign = true by rw [all_take_snoc s k hlt, Ha.out, hg]; rfl)
          have hs3 := sign_true hg
          clear hg
          rcases hs3 with ⟨f1, f2⟩ | ⟨f1 | f1, f2, f3⟩ | ⟨f1 | f1, f2 | f2, f3⟩
          all_goals first | (exfalso; omega) | skip
          all_goals first
            | (go_wp2; exact ⟨⟨k + 1, by omega, by go_num, fun _ _ => Hl0.out, HT.out⟩, by simp [intOf]; omega⟩)
            | (have f4 : ((s[k].toNat : Int) != 45) = true := bne_iff_ne.2 (by omega)
               go_wp2; exact ⟨⟨k + 1, by omega, by go_num, fun _ _ => Hl0.out, HT.out⟩, by simp [intOf]; omega⟩)
    · have hke : k = s.size := by omega
      by_cases h0 : 0 < s.size
      · have H := Lib.hid (HN.out h0 (Hlo.out h0 (by omega)) (by rw [← Ha.out, List.take_of_length_le (by simp; omega)]))
        go_wp2
        go_ret
        exact ⟨ret_bool (by rw [H.out]; try (simp <;> omega)), rfl⟩
      · have H := Lib.hid (show isName s = false by unfold isName; rw [decide_eq_false (by omega)]; rfl)
        go_wp2
        go_ret
        exact ⟨ret_bool (by rw [H.out]; try (simp <;> omega)), rfl⟩

set_option maxHeartbeats 1600000 in
theorem zname_calls (s : ByteArray) (w : World) (hs : s.size ≤ maxLen) : Calls Try.prog 120 #[.string s] w fun e w' => e = .returned (.bool (isName s)) ∧ w = w' := by
  unfold maxLen at hs
  have HS := Lib.hid (name_sign s)
  have HL := Lib.hid (name_low s)
  have HN := Lib.hid (name_of s)
  go_enter Try.func120, Try.ntmps120
  go_wp2
  go_loop [3, 4, 7] (fun _ _ i => ∃ k : Nat, k ≤ s.size ∧ i = .int .i64 k ∧ (∀ h : 0 < s.size, 1 ≤ k → isLow s[0] = true) ∧ (s.data.toList.take k).all isSign = true) (fun _ _ i => s.size - (intOf i).toNat)
  case atStart => exact ⟨0, Nat.zero_le _, rfl, fun _ h => by omega, rfl⟩
  case round =>
    obtain ⟨k, hk, rfl, hlo, ha⟩ := hrel
    have Hlo := Lib.hid hlo
    have Ha := Lib.hid ha
    clear hlo ha
    by_cases hlt : k < s.size
    · have hlt' : (k : Int) < (s.size : Int) := by omega
      by_cases hk0 : k = 0
      · subst hk0
        cases hl : isLow s[0] with
        | false =>
          have H := Lib.hid (HL.out hlt hl)
          have hc : (s[0].toNat : Int) < 97 ∨ (97 ≤ (s[0].toNat : Int) ∧ 122 < (s[0].toNat : Int)) := by
            have := of_decide_eq_false hl; omega
          clear hl
          rcases hc with hc | hc
          all_goals
            go_wp2
            go_ret
            exact ⟨ret_bool H.out.symm, rfl⟩
        | true =>
          have HT := Lib.hid (show (s.data.toList.take 1).all isSign = true by rw [all_take_snoc s 0 hlt, low_sign hl]; rfl)
          have Hl := Lib.hid hl
          obtain ⟨l1, l2⟩ := of_decide_eq_true hl
          clear hl
          go_wp2
          exact ⟨⟨1, by omega, rfl, fun _ _ => Hl.out, HT.out⟩, by simp [intOf]; omega⟩
      · have hkz : ((k : Int) == 0) = false := beq_eq_false_iff_ne.2 (by omega)
        have Hl0 := Lib.hid (Hlo.out (by omega) (by omega))
        cases hg : isSign s[k] with
        | false =>
          have HF := Lib.hid (HS.out (all_false s k hlt hg))
          obtain ⟨e1, e2, e3⟩ := sign_false hg
          clear hg
          rcases e1 with e1 | e1 <;> rcases e2 with e2 | e2
          all_goals first | (exfalso; omega) | (go_wp2; go_ret; exact ⟨ret_bool HF.out.symm, rfl⟩)
        | true =>
          have HT := Lib.hid (show (s.data.toList.take (k + 1)).all isSign = true by rw [all_take_snoc s k hlt, Ha.out, hg]; rfl)
          have hs3 := sign_true hg
          clear hg
          rcases hs3 with ⟨f1, f2⟩ | ⟨f1 | f1, f2, f3⟩ | ⟨f1 | f1, f2 | f2, f3⟩
          all_goals first | (exfalso; omega) | skip
          all_goals first
            | (go_wp2; exact ⟨⟨k + 1, by omega, by go_num, fun _ _ => Hl0.out, HT.out⟩, by simp [intOf]; omega⟩)
            | (have f4 : ((s[k].toNat : Int) != 45) = true := bne_iff_ne.2 (by omega)
               go_wp2; exact ⟨⟨k + 1, by omega, by go_num, fun _ _ => Hl0.out, HT.out⟩, by simp [intOf]; omega⟩)
    · have hke : k = s.size := by omega
      by_cases h0 : 0 < s.size
      · have H := Lib.hid (HN.out h0 (Hlo.out h0 (by omega)) (by rw [← Ha.out, List.take_of_length_le (by simp; omega)]))
        go_wp2
        go_ret
        exact ⟨ret_bool (by rw [H.out]; try (simp <;> omega)), rfl⟩
      · have H := Lib.hid (show isName s = false by unfold isName; rw [decide_eq_false (by omega)]; rfl)
        go_wp2
        go_ret
        exact ⟨ret_bool (by rw [H.out]; try (simp <;> omega)), rfl⟩

def BoolTo (b : Bool) (w : World) (e : Ending) (w' : World) : Prop := e = .returned (.bool b) ∧ Below w.heap.size w w'

set_option maxRecDepth 100000 in
set_option maxHeartbeats 1600000 in
theorem r5name_calls (s : ByteArray) (w : World) (hs : s.size ≤ maxLen) : Calls Try.prog 91 #[.string s] w (BoolTo (isName s) w) := by
  unfold maxLen at hs
  by_cases h0 : 0 < s.size
  · have hne := not_empty s h0
    by_cases h24 : s.size ≤ 24
    · have hd := head_eq s h0
      cases hl : isLow s[0] with
      | false =>
        have H := Lib.hid (show isName s = false by unfold isName; rw [hd, hl]; simp)
        have hc : (s[0].toNat : Int) < 97 ∨ (97 ≤ (s[0].toNat : Int) ∧ 122 < (s[0].toNat : Int)) := by
          have := of_decide_eq_false hl; omega
        clear hl hd
        rcases hc with hc | hc
        all_goals
          go_enter Try.func91, Try.ntmps91
          go_wp2
          go_ret
          exact ⟨ret_bool H.out.symm, Below.refl _ _⟩
      | true =>
        have H := Lib.hid (show isName s = s.data.toList.all isSign by unfold isName; rw [hd, hl, decide_eq_true ⟨h0, h24⟩]; rfl)
        obtain ⟨l1, l2⟩ := of_decide_eq_true hl
        clear hl hd
        go_enter Try.func91, Try.ntmps91
        go_wp2
        go_loopw [3, 4, 5] (fun i _ _ wr => ∃ k : Nat, k ≤ s.size ∧ i = .int .i64 k ∧ (s.data.toList.take k).all isSign = true ∧ Below w.heap.size w wr) (fun i _ _ _ => s.size - (intOf i).toNat)
        case atStart => exact ⟨0, Nat.zero_le _, rfl, rfl, Below.refl _ _⟩
        case round =>
          obtain ⟨k, hk, rfl, ha, hb⟩ := hrel
          have Ha := Lib.hid ha
          clear ha
          by_cases hlt : k < s.size
          · have hlt' : (k : Int) < (s.size : Int) := by omega
            have hk0 : (0 : Int) ≤ (k : Int) := Int.natCast_nonneg _
            cases hg : isSign s[k] with
            | false =>
              have HF := Lib.hid (all_false s k hlt hg)
              obtain ⟨e1, e2, e3⟩ := sign_false hg
              clear hg
              rcases e1 with e1 | e1 <;> rcases e2 with e2 | e2
              all_goals first
                | (exfalso; omega)
                | skip
              all_goals
                first | have d1 := decide_eq_true (show 97 ≤ (s[k].toNat : Int) by omega) | have d1 := decide_eq_false (show ¬ 97 ≤ (s[k].toNat : Int) by omega)
                first | have d2 := decide_eq_true (show (s[k].toNat : Int) ≤ 122 by omega) | have d2 := decide_eq_false (show ¬ (s[k].toNat : Int) ≤ 122 by omega)
                first | have d3 := decide_eq_true (show 48 ≤ (s[k].toNat : Int) by omega) | have d3 := decide_eq_false (show ¬ 48 ≤ (s[k].toNat : Int) by omega)
                first | have d4 := decide_eq_true (show (s[k].toNat : Int) ≤ 57 by omega) | have d4 := decide_eq_false (show ¬ (s[k].toNat : Int) ≤ 57 by omega)
                go_upto_region 6 with (fail)
                go_big_quiet (fail)
                go_wp2
                go_ret
                exact ⟨ret_bool (by rw [H.out, HF.out]), below_drewN5 hb _⟩
            | true =>
              have HT := Lib.hid (show (s.data.toList.take (k + 1)).all isSign = true by rw [all_take_snoc s k hlt, Ha.out, hg]; rfl)
              have hs3 := sign_true hg
              clear hg
              rcases hs3 with ⟨f1, f2⟩ | ⟨f1 | f1, f2, f3⟩ | ⟨f1 | f1, f2 | f2, f3⟩
              all_goals first
                | (exfalso; omega)
                | skip
              all_goals
                first | have d1 := decide_eq_true (show 97 ≤ (s[k].toNat : Int) by omega) | have d1 := decide_eq_false (show ¬ 97 ≤ (s[k].toNat : Int) by omega)
                first | have d2 := decide_eq_true (show (s[k].toNat : Int) ≤ 122 by omega) | have d2 := decide_eq_false (show ¬ (s[k].toNat : Int) ≤ 122 by omega)
                first | have d3 := decide_eq_true (show 48 ≤ (s[k].toNat : Int) by omega) | have d3 := decide_eq_false (show ¬ 48 ≤ (s[k].toNat : Int) by omega)
                first | have d4 := decide_eq_true (show (s[k].toNat : Int) ≤ 57 by omega) | have d4 := decide_eq_false (show ¬ (s[k].toNat : Int) ≤ 57 by omega)
                go_upto_region 6 with (fail)
                go_big_quiet (fail)
                go_wp2
                exact ⟨⟨k + 1, by omega, by go_num, HT.out, below_drewN5 hb _⟩, by simp [intOf]; omega⟩
          · go_wp2
            go_ret
            exact ⟨ret_bool (by rw [H.out, ← Ha.out, List.take_of_length_le (by simp; omega)]), hb⟩
    · have H := Lib.hid (show isName s = false by unfold isName; rw [decide_eq_false (by omega)]; rfl)
      go_enter Try.func91, Try.ntmps91
      go_wp2
      go_ret
      exact ⟨ret_bool H.out.symm, Below.refl _ _⟩
  · have H := Lib.hid (show isName s = false by unfold isName; rw [decide_eq_false (by omega)]; rfl)
    have hz : s.size = 0 := by omega
    have hem : s.toList.isEmpty = true := by rw [Lib.toList_data, List.isEmpty_iff]; exact List.length_eq_zero_iff.1 (by simpa using hz)
    go_enter Try.func91, Try.ntmps91
    go_wp2
    go_ret
    exact ⟨ret_bool H.out.symm, Below.refl _ _⟩
end Go.Proofs.Ytnekgkmlodeckaa
