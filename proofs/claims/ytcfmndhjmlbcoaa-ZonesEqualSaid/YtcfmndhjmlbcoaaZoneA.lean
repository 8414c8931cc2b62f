/-
  Zones in memory; the walks of digits.Valid, the reference's Valid and HasPrefix.
-/
import Derived.Test.YtcfmndhjmlbcoaaZoneP
import Derived.Test.YtcfmndhjmlbcoaaBandC
namespace Go.Proofs.Ytcfmndhjmlbcoaa
open Go.RowKit

/-- A zone in two cells. -/
def ZnR (w : World) (b o : Nat) (x : Zn) : Prop := StrR w b o x.1 ∧ ∃ v, w.cell? ⟨b, o + 1, none⟩ = some v ∧ StrsAt w v x.2
theorem ZnR.stays : Stays ZnR := fun _ _ b _ _ hb hB ⟨h0, v, h1, hv⟩ =>
  ⟨StrR.stays _ _ _ _ _ hb hB h0, v, (hb.cell (p := ⟨b, _, none⟩) hB).trans h1, hv.below hb⟩
def ZnsAt (w : World) (v : Value) (l : List Zn) : Prop := SliceAt 2 ZnR w v l
theorem ZnsAt.below {w w' : World} {v : Value} {l : List Zn} (h : ZnsAt w v l) (hb : Below w.heap.size w w') : ZnsAt w' v l := SliceAt.below ZnR.stays h hb

theorem digit_calls (c : UInt8) (w : World) : Calls Try.prog 99 #[.int .u8 (c.toNat : Int)] w fun e w' => e = .returned (.bool (isDig c)) ∧ w = w' := by
  have HR := Lib.hid (show isDig c = (decide (48 ≤ (c.toNat : Int) ∧ (c.toNat : Int) ≤ 57)) from rfl)
  generalize (c.toNat : Int) = n at *
  by_cases h1 : 48 ≤ n
  · by_cases h2 : n ≤ 57
    · go_enter Try.func99, Try.ntmps99
      go_wp2
      go_ret
      exact ⟨ret_bool (by rw [HR.out]; simp [h1, h2]), rfl⟩
    · go_enter Try.func99, Try.ntmps99
      go_wp2
      go_ret
      exact ⟨ret_bool (by rw [HR.out]; simp [h1, h2]), rfl⟩
  · go_enter Try.func99, Try.ntmps99
    go_wp2
    go_ret
    exact ⟨ret_bool (by rw [HR.out]; exact (decide_eq_false (by omega)).symm), rfl⟩

theorem num_end (s : ByteArray) (h : s.data.toList.all isDig = true) : isNum s = decide (1 ≤ s.size ∧ s.size ≤ 15) := by unfold isNum; rw [h, Bool.and_true]
theorem num_bad (s : ByteArray) (h : s.data.toList.all isDig = false) : isNum s = false := by unfold isNum; rw [h, Bool.and_false]

set_option maxHeartbeats 1600000 in
theorem dvalid_calls (s : ByteArray) (w : World) (hs : s.size ≤ maxLen) : Calls Try.prog 64 #[.string s] w fun e w' => e = .returned (.bool (isNum s)) ∧ w = w' := by
  unfold maxLen at hs
  have HB := Lib.hid (num_bad s)
  have HE := Lib.hid (num_end s)
  go_enter Try.func64, Try.ntmps64
  go_wp2
  go_loop [3, 6] (fun _ i => ∃ k : Nat, k ≤ s.size ∧ i = .int .i64 k ∧ (s.data.toList.take k).all isDig = true) (fun _ i => s.size - (intOf i).toNat)
  case atStart => exact ⟨0, Nat.zero_le _, rfl, rfl⟩
  case round =>
    obtain ⟨k, hk, rfl, ha⟩ := hrel
    have Ha := Lib.hid ha
    clear ha
    by_cases hlt : k < s.size
    · have hlt' : (k : Int) < (s.size : Int) := by omega
      have HT := Lib.hid (dig_take s k hlt)
      have HF := Lib.hid (dig_false s k hlt)
      have Hd := Lib.hid (fun w1 => digit_calls s[k] w1)
      cases hg : isDig s[k] with
      | true =>
        rw [hg] at Hd
        have HT2 := Lib.hid (show (s.data.toList.take (k + 1)).all isDig = true by rw [HT.out, Ha.out, hg]; rfl)
        clear hg
        go_wp2_with fail
        refine (Hd.out w).mono ?_
        rintro e w1 ⟨rfl, rfl⟩
        go_wp2
        exact ⟨⟨k + 1, by omega, by go_num, HT2.out⟩, by simp [intOf]; omega⟩
      | false =>
        rw [hg] at Hd
        have HN := Lib.hid (HB.out (HF.out hg))
        clear hg
        go_wp2_with fail
        refine (Hd.out w).mono ?_
        rintro e w1 ⟨rfl, rfl⟩
        go_wp2
        go_ret
        exact ⟨ret_bool HN.out.symm, rfl⟩
    · have HN := Lib.hid (HE.out (by rw [← Ha.out, List.take_of_length_le (by simp; omega)]))
      by_cases h1 : 1 ≤ s.size
      · go_wp2
        go_ret
        exact ⟨ret_bool (by rw [HN.out]; exact decide_eq_decide.2 (by omega)), rfl⟩
      · go_wp2
        go_ret
        exact ⟨ret_bool (by rw [HN.out]; first | exact (decide_eq_false (by omega)).symm | exact decide_eq_decide.2 (by omega)), rfl⟩

set_option maxHeartbeats 1600000 in
theorem r2valid_calls (s : ByteArray) (w : World) (hs : s.size ≤ maxLen) : Calls Try.prog 42 #[.string s] w fun e w' => e = .returned (.bool (isNum s)) ∧ w = w' := by
  unfold maxLen at hs
  have HB := Lib.hid (num_bad s)
  have HE := Lib.hid (num_end s)
  go_enter Try.func42, Try.ntmps42
  go_wp2
  go_loop [3] (fun i => ∃ k : Nat, k ≤ s.size ∧ i = .int .i64 k ∧ (s.data.toList.take k).all isDig = true) (fun i => s.size - (intOf i).toNat)
  case atStart => exact ⟨0, Nat.zero_le _, rfl, rfl⟩
  case round =>
    obtain ⟨k, hk, rfl, ha⟩ := hrel
    have Ha := Lib.hid ha
    clear ha
    by_cases hlt : k < s.size
    · have hlt' : (k : Int) < (s.size : Int) := by omega
      have HT := Lib.hid (dig_take s k hlt)
      have HF := Lib.hid (dig_false s k hlt)
      cases hg : isDig s[k] with
      | true =>
        have hd : 48 ≤ (s[k].toNat : Int) ∧ (s[k].toNat : Int) ≤ 57 := of_decide_eq_true hg
        obtain ⟨d1, d2⟩ := hd
        have HT2 := Lib.hid (show (s.data.toList.take (k + 1)).all isDig = true by rw [HT.out, Ha.out, hg]; rfl)
        clear hg
        go_wp2
        exact ⟨⟨k + 1, by omega, by go_num, HT2.out⟩, by simp [intOf]; omega⟩
      | false =>
        have hd : ¬ (48 ≤ (s[k].toNat : Int) ∧ (s[k].toNat : Int) ≤ 57) := of_decide_eq_false hg
        have HN := Lib.hid (HB.out (HF.out hg))
        have hc : (s[k].toNat : Int) < 48 ∨ (48 ≤ (s[k].toNat : Int) ∧ 57 < (s[k].toNat : Int)) := by omega
        clear hg hd
        rcases hc with hc | ⟨h1, h2⟩
        all_goals
          go_wp2
          go_ret
          exact ⟨ret_bool HN.out.symm, rfl⟩
    · have HN := Lib.hid (HE.out (by rw [← Ha.out, List.take_of_length_le (by simp; omega)]))
      by_cases h1 : 1 ≤ s.size
      · go_wp2
        go_ret
        exact ⟨ret_bool (by rw [HN.out]; exact decide_eq_decide.2 (by omega)), rfl⟩
      · go_wp2
        go_ret
        exact ⟨ret_bool (by rw [HN.out]; first | exact (decide_eq_false (by omega)).symm | exact decide_eq_decide.2 (by omega)), rfl⟩
end Go.Proofs.Ytcfmndhjmlbcoaa
