/-
  The walk of the reference's Same where all is equal.
-/
import Derived.Test.YtmijdmchhlcblaaRef19e
import Derived.Deep.DeepCutAuto
import Derived.Deep.RegionHeld3
namespace Go.Proofs.Ytmijdmchhlcblaa
open Go.RowKit

set_option maxRecDepth 100000 in
set_option maxHeartbeats 6400000 in
theorem same19_calls (p : Pd) (v1 v2 : Value) (w : World) (h1 : BdsAt w v1 p.bs) (h2 : BdsAt w v2 p.bs) :
    Calls Try.prog 23 #[pdVal p v1, pdVal p v2] w fun e w' => e = .returned (.bool true) ∧ Below w.heap.size w w' := by
  have hh1 := h1
  have hh2 := h2
  obtain ⟨av1, cap1, rfl, hlc, hm, -⟩ := h1
  obtain ⟨av2, cap2, rfl, -, -, -⟩ := h2
  have hm := hm.1
  unfold maxLen at hm
  obtain ⟨nm, fm, fe, ct, pro, bs⟩ := p
  dsimp only at *
  unfold pdVal
  obtain ⟨W, hW⟩ : ∃ W, W = (w.alloc (Obj.cells #[Value.string nm, Value.int .i64 fm, Value.int .i64 fe, Value.string ct, Value.bool pro, Value.slice av1 bs.length cap1] 33)).alloc (Obj.cells #[Value.string nm, Value.int .i64 fm, Value.int .i64 fe, Value.string ct, Value.bool pro, Value.slice av2 bs.length cap2] 33) := ⟨_, rfl⟩
  have hw0 : Below w.heap.size w W := by rw [hW]; go_grown
  have hz : W.heap.size = w.heap.size + 2 := by rw [hW]; simp
  have r1 : W.heap[w.heap.size]? = some (Obj.cells #[Value.string nm, Value.int .i64 fm, Value.int .i64 fe, Value.string ct, Value.bool pro, Value.slice av1 bs.length cap1] 33) := by rw [hW, Below.heap_alloc _ _ _ (by simp)]; exact heap_alloc_new _ _
  have r2 : W.heap[w.heap.size + 1]? = some (Obj.cells #[Value.string nm, Value.int .i64 fm, Value.int .i64 fe, Value.string ct, Value.bool pro, Value.slice av2 bs.length cap2] 33) := by rw [hW]; simpa using heap_alloc_new (w.alloc _) _
  have H1 := Lib.hid (hh1.below hw0)
  have H2 := Lib.hid (hh2.below hw0)
  have HW := Lib.hid hW
  have R1 := Lib.hid r1
  have R2 := Lib.hid r2
  have hz2 : w.heap.size + 1 < W.heap.size := by omega
  clear hW r1 r2 hz hh1 hh2
  go_enter Try.func23, Try.ntmps23
  go_wp2_with fail
  rw [← HW.out]
  go_loopw [5] (fun i wr => ∃ k : Nat, k ≤ bs.length ∧ i = .int .i64 k ∧ Below W.heap.size W wr) (fun i _ => bs.length - (intOf i).toNat)
  case atStart => exact ⟨0, Nat.zero_le _, rfl, Below.refl _ _⟩
  case round =>
    obtain ⟨k, hk, rfl, hb⟩ := hrel
    have q1 := (hb.block w.heap.size (by omega)).trans R1.out
    have q2 := (hb.block (w.heap.size + 1) hz2).trans R2.out
    have p5 : wr.cell? ⟨w.heap.size, 5, none⟩ = some (Value.slice av1 bs.length cap1) := cell_of_row wr _ 5 _ _ _ q1
    have p6 : wr.cell? ⟨w.heap.size + 1, 5, none⟩ = some (Value.slice av2 bs.length cap2) := cell_of_row wr _ 5 _ _ _ q2
    clear q1 q2
    by_cases hlt : k < bs.length
    · obtain ⟨av', cap', e1, -, -, hx1⟩ := H1.out.below hb
      obtain ⟨av2', cap2', e2, -, -, hx2⟩ := H2.out.below hb
      cases e1
      cases e2
      obtain ⟨b1, o1, rfl, hB1, hx1⟩ := hx1 (by rintro rfl; cases hlt)
      obtain ⟨b2, o2, rfl, hB2, hx2⟩ := hx2 (by rintro rfl; cases hlt)
      obtain ⟨c0, ⟨z1, c1, hz1⟩, c2, c3, c4, c5⟩ := hx1 k hlt
      obtain ⟨d0, ⟨z2, d1, hz2⟩, d2, d3, d4, d5⟩ := hx2 k hlt
      have hk0 : (0 : Int) ≤ (k : Int) := Int.natCast_nonneg _
      have hk1 : (k : Int) < (bs.length : Int) := by omega
      have hbz := hb.size
      clear hx1 hx2
      generalize bs[k] = x at *
      obtain ⟨kd, zs, un, ro, pr, sh⟩ := x
      dsimp only at *
      have Hz1 := Lib.hid hz1
      have Hz2 := Lib.hid hz2
      obtain ⟨az1, cz1, rfl, -, -, -⟩ := hz1
      obtain ⟨az2, cz2, rfl, -, -, -⟩ := hz2
      go_wp2_with fail
      go_cut [6, 7] (fun s6 s7 wx => ∃ B1 B2 : Nat, s6 = .pointer (some ⟨B1, 0, none⟩) ∧ s7 = .pointer (some ⟨B2, 0, none⟩) ∧ Below wr.heap.size wr wx ∧ (wx.cell? ⟨B1, 0, none⟩ = some (.int .i64 kd) ∧ wx.cell? ⟨B1, 1, none⟩ = some (.slice az1 zs.length cz1) ∧ wx.cell? ⟨B1, 2, none⟩ = some (.int .i64 un) ∧ wx.cell? ⟨B1, 3, none⟩ = some (.int .i64 ro) ∧ wx.cell? ⟨B1, 4, none⟩ = some (.int .i64 pr) ∧ wx.cell? ⟨B1, 5, none⟩ = some (.bool sh)) ∧ wx.cell? ⟨B2, 0, none⟩ = some (.int .i64 kd) ∧ wx.cell? ⟨B2, 1, none⟩ = some (.slice az2 zs.length cz2) ∧ wx.cell? ⟨B2, 2, none⟩ = some (.int .i64 un) ∧ wx.cell? ⟨B2, 3, none⟩ = some (.int .i64 ro) ∧ wx.cell? ⟨B2, 4, none⟩ = some (.int .i64 pr) ∧ wx.cell? ⟨B2, 5, none⟩ = some (.bool sh))
      case first =>
        have n1 := World.new_ne wr ⟨b1, o1 + k * 6, none⟩ c0
        have n2 := World.new_ne wr ⟨b2, o2 + k * 6, none⟩ d0
        have n3 := World.new_ne wr ⟨w.heap.size, 5, none⟩ p5
        have n4 := World.new_ne wr ⟨w.heap.size + 1, 5, none⟩ p6
        go_region_held3 (fun w' : World => w'.cell? ⟨w.heap.size, 5, none⟩ = some (.slice (some ⟨b1, o1, none⟩) bs.length cap1) ∧ w'.cell? ⟨w.heap.size + 1, 5, none⟩ = some (.slice (some ⟨b2, o2, none⟩) bs.length cap2) ∧ w'.cell? ⟨b1, o1 + k * 6, none⟩ = some (.int .i64 kd) ∧ w'.cell? ⟨b1, o1 + k * 6 + 1, none⟩ = some (.slice az1 zs.length cz1) ∧ w'.cell? ⟨b1, o1 + k * 6 + 2, none⟩ = some (.int .i64 un) ∧ w'.cell? ⟨b1, o1 + k * 6 + 3, none⟩ = some (.int .i64 ro) ∧ w'.cell? ⟨b1, o1 + k * 6 + 4, none⟩ = some (.int .i64 pr) ∧ w'.cell? ⟨b1, o1 + k * 6 + 5, none⟩ = some (.bool sh) ∧ w'.cell? ⟨b2, o2 + k * 6, none⟩ = some (.int .i64 kd) ∧ w'.cell? ⟨b2, o2 + k * 6 + 1, none⟩ = some (.slice az2 zs.length cz2) ∧ w'.cell? ⟨b2, o2 + k * 6 + 2, none⟩ = some (.int .i64 un) ∧ w'.cell? ⟨b2, o2 + k * 6 + 3, none⟩ = some (.int .i64 ro) ∧ w'.cell? ⟨b2, o2 + k * 6 + 4, none⟩ = some (.int .i64 pr) ∧ w'.cell? ⟨b2, o2 + k * 6 + 5, none⟩ = some (.bool sh)) (go_keep) (fail)
        all_goals
          go_wp2_with fail
          go_meet
          exact ⟨_, _, rfl, rfl, by go_grown, ⟨by simp [go_sem], by simp [go_sem], by simp [go_sem], by simp [go_sem], by simp [go_sem], by simp [go_sem]⟩, by simp [go_sem], by simp [go_sem], by simp [go_sem], by simp [go_sem], by simp [go_sem], by simp [go_sem]⟩
      case rest =>
        obtain ⟨B1, B2, rfl, rfl, hbc, ⟨x0, x1, x2, x3, x4, x5⟩, y0, y1, y2, y3, y4, y5⟩ := hcut
        clear c0 c1 c2 c3 c4 c5 d0 d1 d2 d3 d4 d5
        have hb2 := hb.trans (hbc.mono hbz)
        go_wp2_with (go_at_call 24; refine (sameTexts_calls _ _ zs _ (Hz1.out.below hbc) (Hz2.out.below hbc)).mono ?_; rintro e w5 ⟨rfl, hb5⟩)
        exact ⟨⟨k + 1, by omega, by go_num, hb2.trans (hb5.mono hb2.size)⟩, by simp [intOf]; omega⟩
    · go_wp2
      go_ret
      exact ⟨rfl, hw0.trans (hb.mono hw0.size)⟩
end Go.Proofs.Ytmijdmchhlcblaa
