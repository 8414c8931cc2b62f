/-
  The walk of the laws' few (zones): it ends in some truth.
-/
import Derived.Test.YtcfmndhjmlbcoaaZoneN
namespace Go.Proofs.Ytcfmndhjmlbcoaa
open Go.RowKit

def SomeBool (w : World) (e : Ending) (w' : World) : Prop := ∃ b, e = .returned (.bool b) ∧ w = w'

set_option maxRecDepth 100000 in
set_option maxHeartbeats 6400000 in
theorem zfew_calls (v : Value) (l : List Zn) (w : World) (h : ZnsAt w v l) :
    Calls Try.prog 28 #[v] w (SomeBool w) := by
  have hB := h
  obtain ⟨av, cap, rfl, hlc, hm, -⟩ := h
  have hm := hm.1
  unfold maxLen at hm
  go_enter Try.func28, Try.ntmps28
  go_wp2_with fail
  go_loop [3, 4] (fun n x => ∃ (i : Nat) (m : Int), i ≤ l.length ∧ x = .int .i64 i ∧ n = .int .i64 m) (fun _ x => l.length - (intOf x).toNat)
  case atStart => exact ⟨0, 0, Nat.zero_le _, rfl, rfl⟩
  case round =>
    obtain ⟨i, m, hi, rfl, rfl⟩ := hrel
    by_cases hlt : i < l.length
    · have hi0 : (0 : Int) ≤ (i : Int) := Int.natCast_nonneg _
      have hi1 : (i : Int) < (l.length : Int) := by omega
      by_cases h70 : (i : Int) ≤ 70
      · by_cases hm1 : m ≤ 150
        · obtain ⟨av2, cap2, e2, -, -, hx⟩ := id hB
          cases e2
          obtain ⟨b, o, rfl, hBb, hx⟩ := hx (by rintro rfl; cases hlt)
          obtain ⟨⟨c0, s0⟩, sv, c1, hsl⟩ := hx i hlt
          clear hx
          generalize l[i] = y at *
          obtain ⟨nm, ps⟩ := y
          dsimp only at c0 c1 hsl s0
          have hs0 := hsl
          obtain ⟨asv, cs, rfl, hsc, hms, -⟩ := hs0
          have hms := hms.1
          unfold maxLen at hms s0
          by_cases h100 : (100 : Int) < (nm.size : Int)
          · go_wp2
            go_ret
            exact ⟨_, rfl, rfl⟩
          · go_wp2_with fail
            go_loop [5] (fun x => ∃ k : Nat, k ≤ ps.length ∧ x = .int .i64 k) (fun x => ps.length - (intOf x).toNat)
            case atStart => exact ⟨0, Nat.zero_le _, rfl⟩
            case round =>
              obtain ⟨k, hk, rfl⟩ := hrel
              by_cases hkl : k < ps.length
              · have hk0 : (0 : Int) ≤ (k : Int) := Int.natCast_nonneg _
                have hk1 : (k : Int) < (ps.length : Int) := by omega
                by_cases hm2 : wrap64 (m + (ps.length : Int)) ≤ 150
                · obtain ⟨av4, cap4, e4, -, -, hy⟩ := id hsl
                  cases e4
                  obtain ⟨b4, o4, rfl, hB4, hy⟩ := hy (by rintro rfl; cases hkl)
                  obtain ⟨d0, ds⟩ := hy k hkl
                  rw [Nat.mul_one] at d0
                  clear hy
                  generalize ps[k] = q at *
                  unfold maxLen at ds
                  by_cases hq : (100 : Int) < (q.size : Int)
                  · go_wp2
                    go_ret
                    exact ⟨_, rfl, rfl⟩
                  · go_wp2
                    exact ⟨⟨k + 1, by omega, by go_num⟩, by simp [intOf]; omega⟩
                · go_wp2
                  exact ⟨⟨i + 1, _, by omega, by go_num, rfl⟩, by simp [intOf]; omega⟩
              · have hk1 : ¬ (k : Int) < (ps.length : Int) := by omega
                go_wp2
                exact ⟨⟨i + 1, _, by omega, by go_num, rfl⟩, by simp [intOf]; omega⟩
        · by_cases hl7 : (l.length : Int) ≤ 70
          · go_wp2
            go_ret
            exact ⟨_, rfl, rfl⟩
          · go_wp2
            go_ret
            exact ⟨_, rfl, rfl⟩
      · have hl7 : ¬ (l.length : Int) ≤ 70 := by omega
        go_wp2
        go_ret
        exact ⟨_, rfl, rfl⟩
    · have hi1 : ¬ (i : Int) < (l.length : Int) := by omega
      by_cases hl7 : (l.length : Int) ≤ 70
      · by_cases hmz : m ≤ 150
        · go_wp2
          go_ret
          exact ⟨_, rfl, rfl⟩
        · go_wp2
          go_ret
          exact ⟨_, rfl, rfl⟩
      · go_wp2
        go_ret
        exact ⟨_, rfl, rfl⟩
end Go.Proofs.Ytcfmndhjmlbcoaa
