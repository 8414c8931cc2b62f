/-
  The walk of the reference's Steps: the first error of a ladder.
-/
import Derived.Test.YtohmdohbmmbbkaaDoorMgam
namespace Go.Proofs.YtohmdohbmmbbkaaDoor
open Go.RowKit

set_option maxHeartbeats 800000 in
theorem rsteps_any (b o cap : Nat) (l : List St) (w : World) (h0 : 0 < l.length) (h64 : l.length ≤ 64) (hB : b < w.heap.size) (hs : ∀ i (h : i < l.length), StCells w b (o + i * 3) l[i]) :
    Calls Tryd.prog 66 #[.slice (some ⟨b, o, none⟩) l.length cap] w fun e w' => e = .returned (.int .i64 (errF l 0)) ∧ Below w.heap.size w w' := by
  have hl0 : ((l.length : Int) == 0) = false := by rw [beq_eq_false_iff_ne]; omega
  go_enter Tryd.func66, Tryd.ntmps66
  go_wp2
  go_loopw [3, 4] (fun t i wr => ∃ k : Nat, k ≤ l.length ∧ i = .int .i64 k ∧ t = .int .i64 (lastU l k) ∧ errF l 0 = errF (l.drop k) (lastU l k) ∧ Below w.heap.size w wr) (fun _ i _ => l.length - (intOf i).toNat)
  case atStart => exact ⟨0, Nat.zero_le _, rfl, rfl, rfl, Below.refl _ _⟩
  case round =>
    obtain ⟨k, hk, rfl, rfl, he, hb⟩ := hrel
    by_cases hlt : k < l.length
    · obtain ⟨c0, c1, c2⟩ := (hs k hlt).below hb hB
      have hst := errF_step l k hlt
      have hlu := lastU_succ l k hlt
      have Hs := Lib.hid hst
      have He := Lib.hid he
      clear hst he hs
      generalize hx : l[k] = s at *
      clear hx
      generalize lastU l k = bd at *
      obtain ⟨u, q, p⟩ := s
      dsimp only at c0 c1 c2 hlu
      have Hl := Lib.hid hlu
      clear hlu
      have hz := hb.size
      by_cases hok : St.ok ⟨u, q, p⟩
      · have ok := hok
        obtain ⟨a1, a2, a3, a4, a5, a6⟩ := hok
        dsimp only at a1 a2 a3 a4 a5 a6
        by_cases hu : u = 0 <;> by_cases hk1 : k + 1 = l.length
        · subst hu
          have hl1 : ((k : Int) == (l.length : Int) - 1) = true := beq_iff_eq.2 (by omega)
          have H := Lib.hid (show errF l 0 = errF (l.drop (k + 1)) 0 by rw [He.out, Hs.out, errK, if_neg (not_not_intro ok), if_neg (by simp [hk1]), if_neg (by simp), Hl.out])
          clear ok hk1
          go_wp2
          exact ⟨⟨k + 1, by omega, by go_num, by rw [Hl.out], by rw [Hl.out]; exact H.out, by go_grown⟩, by simp [intOf]; omega⟩
        · subst hu
          have hl1 : ((k : Int) == (l.length : Int) - 1) = false := beq_eq_false_iff_ne.2 (by omega)
          have H := Lib.hid (show errF l 0 = 8 by rw [He.out, Hs.out, errK, if_neg (not_not_intro ok), if_pos (by simp [hk1])])
          clear ok hk1
          go_wp2
          go_ret
          exact ⟨ret_int H.out.symm, by go_grown⟩
        · have hu1 : (u == 0) = false := beq_eq_false_iff_ne.2 hu
          have hl1 : ((k : Int) == (l.length : Int) - 1) = true := beq_iff_eq.2 (by omega)
          have H := Lib.hid (show errF l 0 = 8 by rw [He.out, Hs.out, errK, if_neg (not_not_intro ok), if_pos (by simp [hk1, hu])])
          clear ok hk1
          go_wp2
          go_ret
          exact ⟨ret_int H.out.symm, by go_grown⟩
        · have hu1 : (u == 0) = false := beq_eq_false_iff_ne.2 hu
          have hu2 : (u != 0) = true := by rw [bne_iff_ne]; exact hu
          have hl1 : ((k : Int) == (l.length : Int) - 1) = false := beq_eq_false_iff_ne.2 (by omega)
          by_cases h9 : u ≤ bd
          · have H := Lib.hid (show errF l 0 = 9 by rw [He.out, Hs.out, errK, if_neg (not_not_intro ok), if_neg (by simp [hk1, hu]), if_pos ⟨hu, h9⟩])
            clear ok hk1 hu
            go_wp2
            go_ret
            exact ⟨ret_int H.out.symm, by go_grown⟩
          · have H := Lib.hid (show errF l 0 = errF (l.drop (k + 1)) u by rw [He.out, Hs.out, errK, if_neg (not_not_intro ok), if_neg (by simp [hk1, hu]), if_neg (by simp; omega), Hl.out])
            clear ok hk1 hu
            go_wp2
            exact ⟨⟨k + 1, by omega, by go_num, by rw [Hl.out], by rw [Hl.out]; exact H.out, by go_grown⟩, by simp [intOf]; omega⟩
      · have H := Lib.hid (show errF l 0 = 6 by rw [He.out, Hs.out, errK, if_pos hok])
        have hcase : u < 0 ∨ (0 ≤ u ∧ 1099511627776 < u) ∨ (0 ≤ u ∧ u ≤ 1099511627776 ∧ q < 1) ∨ (0 ≤ u ∧ u ≤ 1099511627776 ∧ 1 ≤ q ∧ 1099511627776 < q) ∨ (0 ≤ u ∧ u ≤ 1099511627776 ∧ 1 ≤ q ∧ q ≤ 1099511627776 ∧ p < 0) ∨ (0 ≤ u ∧ u ≤ 1099511627776 ∧ 1 ≤ q ∧ q ≤ 1099511627776 ∧ 0 ≤ p ∧ 1125899906842624 < p) := by
          simp only [St.ok] at hok; omega
        clear hok
        rcases hcase with h | h | h | h | h | h
        all_goals
          go_wp2
          go_ret
          exact ⟨ret_int H.out.symm, by go_grown⟩
    · have he' := he
      rw [errF_end l k (by omega)] at he'
      have He := Lib.hid he'
      clear he he'
      go_wp2
      go_ret
      exact ⟨ret_int He.out.symm, by go_grown⟩

set_option maxHeartbeats 400000 in
theorem rsteps_none (av : Option Addr) (cap : Nat) (w : World) :
    Calls Tryd.prog 66 #[.slice av 0 cap] w fun e w' => e = .returned (.int .i64 8) ∧ Below w.heap.size w w' := by
  go_enter Tryd.func66, Tryd.ntmps66
  go_wp2
  go_ret
  exact ⟨rfl, Below.refl _ _⟩

set_option maxHeartbeats 400000 in
theorem rsteps_many (av : Option Addr) (n cap : Nat) (w : World) (h : 64 < n) (hm : n ≤ maxLen) :
    Calls Tryd.prog 66 #[.slice av n cap] w fun e w' => e = .returned (.int .i64 5) ∧ Below w.heap.size w w' := by
  unfold maxLen at hm
  have hl0 : ((n : Int) == 0) = false := by rw [beq_eq_false_iff_ne]; omega
  go_enter Tryd.func66, Tryd.ntmps66
  go_wp2
  go_ret
  exact ⟨rfl, Below.refl _ _⟩

/-- billingref26.Steps returns the first error of the ladder. -/
theorem rsteps_calls (v : Value) (l : List St) (w : World) (h : StepsAt w v l) :
    Calls Tryd.prog 66 #[v] w fun e w' => e = .returned (.int .i64 (errL l)) ∧ Below w.heap.size w w' := by
  obtain ⟨av, cap, rfl, hm, hc⟩ := h
  unfold errL
  by_cases h0 : l.length = 0
  · rw [if_pos h0, h0]; exact rsteps_none av cap w
  · rw [if_neg h0]
    by_cases h1 : 64 < l.length
    · rw [if_pos h1]; exact rsteps_many av _ cap w h1 hm
    · rw [if_neg h1]
      obtain ⟨b, o, rfl, hB, hs⟩ := hc (by intro e; rw [e] at h0; exact h0 rfl)
      exact rsteps_any b o cap l w (by omega) (by omega) hB hs
end Go.Proofs.YtohmdohbmmbbkaaDoor
