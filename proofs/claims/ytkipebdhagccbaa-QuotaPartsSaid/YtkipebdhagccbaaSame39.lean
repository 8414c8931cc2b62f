/-
  Equal meters: the walk of the reference's Same where all is equal.
-/
import Derived.Test.YtkipebdhagccbaaMeterCost
import Derived.Test.YtkipebdhagccbaaClone
import Derived.BigRegion
import Derived.Deep.DeepCutAuto
namespace Go.Proofs.Ytkipebdhagccbaa
open Go.RowKit

set_option maxRecDepth 100000 in
set_option maxHeartbeats 3200000 in
theorem same39_calls (l : List St) (a s kd : Int) (z pl : ByteArray) (vr rk : Int) (rz rb : ByteArray) (st : Int) (fr pd : Int) (av av2 : Option Addr) (cap cap2 : Nat) (w : World) (h1 : StepsAt w (.slice av l.length cap) l) (h2 : StepsAt w (.slice av2 l.length cap2) l) :
    Calls Try.prog 30 #[.agg #[.int .i64 a, .int .i64 s, .int .i64 kd, .string z, .string pl, .int .i64 vr, .int .i64 rk, .string rz, .string rb, .int .i64 st, .slice av l.length cap, .int .i64 fr, .int .i64 pd], .agg #[.int .i64 a, .int .i64 s, .int .i64 kd, .string z, .string pl, .int .i64 vr, .int .i64 rk, .string rz, .string rb, .int .i64 st, .slice av2 l.length cap2, .int .i64 fr, .int .i64 pd]] w fun e w' => e = .returned (.bool true) ∧ Below w.heap.size w w' := by
  go_enter Try.func30, Try.ntmps30
  go_wp2_with fail
  go_cut [5, 6] (fun s5 s6 wx => ∃ B1 B2 : Nat, s5 = .pointer (some ⟨B1, 0, none⟩) ∧ s6 = .pointer (some ⟨B2, 0, none⟩) ∧ Below w.heap.size w wx ∧ (wx.cell? ⟨B1, 0, none⟩ = some (.int .i64 rk) ∧ wx.cell? ⟨B1, 1, none⟩ = some (.string rz) ∧ wx.cell? ⟨B1, 2, none⟩ = some (.string rb) ∧ wx.cell? ⟨B1, 3, none⟩ = some (.int .i64 st) ∧ wx.cell? ⟨B1, 4, none⟩ = some (.slice av l.length cap)) ∧ wx.cell? ⟨B2, 0, none⟩ = some (.int .i64 rk) ∧ wx.cell? ⟨B2, 1, none⟩ = some (.string rz) ∧ wx.cell? ⟨B2, 2, none⟩ = some (.string rb) ∧ wx.cell? ⟨B2, 3, none⟩ = some (.int .i64 st) ∧ wx.cell? ⟨B2, 4, none⟩ = some (.slice av2 l.length cap2))
  case first =>
    go_region
    all_goals
      go_wp2_with fail
      go_meet
      exact ⟨_, _, rfl, rfl, by go_grown, ⟨by simp [go_sem], by simp [go_sem], by simp [go_sem], by simp [go_sem], by simp [go_sem]⟩, by simp [go_sem], by simp [go_sem], by simp [go_sem], by simp [go_sem], by simp [go_sem]⟩
  case rest =>
    obtain ⟨B1, B2, rfl, rfl, hb, ⟨c0, c1, c2, c3, c4⟩, d0, d1, d2, d3, d4⟩ := hcut
    have hm : l.length ≤ maxLen := by obtain ⟨-, -, -, hm, -⟩ := h1; exact hm
    unfold maxLen at hm
    go_wp2_with fail
    go_loopw [7] (fun iv wr => ∃ k n : Nat, k ≤ l.length ∧ iv = .int .i64 k ∧ wr = wc.drewN n) (fun iv _ => l.length - (intOf iv).toNat)
    case atStart => exact ⟨0, 0, Nat.zero_le _, rfl, rfl⟩
    case round =>
      obtain ⟨k, n, hk, rfl, rfl⟩ := hrel
      by_cases hlt : k < l.length
      · obtain ⟨av', cap', hv, -, hs1⟩ := h1.below hb
        obtain ⟨av2', cap2', hv2, -, hs2⟩ := h2.below hb
        cases hv
        cases hv2
        obtain ⟨b, o, rfl, hB, hs1⟩ := hs1 (by rintro rfl; cases hlt)
        obtain ⟨b2, o2, rfl, hB2, hs2⟩ := hs2 (by rintro rfl; cases hlt)
        obtain ⟨p0, p1, p2⟩ := hs1 k hlt
        obtain ⟨q0, q1, q2⟩ := hs2 k hlt
        clear hs1 hs2 h1 h2
        generalize l[k] = sx at *
        obtain ⟨su, sq, sp⟩ := sx
        dsimp only at p0 p1 p2 q0 q1 q2
        have hk0 : (0 : Int) ≤ (k : Int) := Int.natCast_nonneg _
        have hk1 : (k : Int) < (l.length : Int) := by omega
        go_wp2_with fail
        go_quiet (fail)
        go_wp2
        exact ⟨⟨k + 1, _, by omega, by go_num, rfl⟩, by simp [intOf]; omega⟩
      · go_wp2
        go_ret
        exact ⟨rfl, below_drewN hb _⟩
end Go.Proofs.Ytkipebdhagccbaa
