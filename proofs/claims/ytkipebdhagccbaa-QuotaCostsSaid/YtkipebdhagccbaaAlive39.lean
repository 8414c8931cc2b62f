/-
  The awake check of layer 39.
-/
import Derived.Test.YtkipebdhagccbaaChargeYes
import Derived.Test.YtkipebdhagccbaaSame39
namespace Go.Proofs.Ytkipebdhagccbaa
open Go.RowKit

set_option maxRecDepth 100000 in
set_option maxHeartbeats 1600000 in
theorem qcost_pub (l : List St) (a s kd : Int) (z pl : ByteArray) (vr rk : Int) (rz rb : ByteArray) (st : Int) (sv : Value) (fr pd : Int) (n : Int) (w : World) (h : StepsAt w sv l) (hn0 : -9223372036854775808 ≤ n) (hn1 : n ≤ 9223372036854775807) :
    Calls Try.prog 26 #[.agg #[.int .i64 a, .int .i64 s, .int .i64 kd, .string z, .string pl, .int .i64 vr, .int .i64 rk, .string rz, .string rb, .int .i64 st, sv, .int .i64 fr, .int .i64 pd], .int .i64 n] w fun e w' => e = .returned (priceTup (costM l st pd n)) ∧ Below w.heap.size w w' := by
  have hw0 : ∀ o, Below w.heap.size w (w.alloc o) := fun o => by go_grown
  have Hc := Lib.hid (fun o => qcost_calls l a s kd z pl vr rk rz rb st sv fr pd n (w.alloc o) (h.below (hw0 o)) hn0 hn1)
  obtain ⟨av, cap, rfl, hm, hc⟩ := h
  clear hm hc hn0 hn1 hw0
  generalize costM l st pd n = x at *
  obtain ⟨c, e⟩ := x
  simp only [mp_lit] at *
  go_enter Try.func26, Try.ntmps26
  go_wp2_with fail
  refine (Hc.out _).mono ?_
  rintro e' w1 ⟨rfl, hb1⟩
  go_wp2
  go_ret2
  exact ⟨rfl, Below.trans (by go_grown) (hb1.mono (by simp))⟩

/-- The chapter's meter was made. -/
def MeterTo (w : World) (e : Ending) (w' : World) : Prop :=
  ∃ B, e = .returned (.agg #[.int .i64 1, .int .i64 1, .int .i64 1, .string ⟨#[]⟩, .string ⟨#[]⟩, .int .i64 0, .int .i64 1, .string ⟨#[]⟩, .string ⟨#[]⟩, .int .i64 100, .slice (some ⟨B, 0, none⟩) 1 1, .int .i64 0, .int .i64 0]) ∧ StepsAt w' (.slice (some ⟨B, 0, none⟩) 1 1) [⟨0, 60, 60⟩] ∧ Below w.heap.size w w'

set_option maxRecDepth 100000 in
set_option maxHeartbeats 1600000 in
theorem meter_calls (w : World) : Calls Try.prog 52 #[] w (MeterTo w) := by
  go_enter Try.func52, Try.ntmps52
  go_wp2_with fail
  refine bodyPost_ret (v := .agg #[.int .i64 1, .int .i64 1, .int .i64 1, .string ⟨#[]⟩, .string ⟨#[]⟩, .int .i64 0, .int .i64 1, .string ⟨#[]⟩, .string ⟨#[]⟩, .int .i64 100, .slice (some ⟨w.heap.size + 1, 0, none⟩) 1 1, .int .i64 0, .int .i64 0]) (by simp [results, Try.results52, go_sem]) rfl ⟨w.heap.size + 1, rfl, ?_, by go_grown⟩
  refine ⟨_, 1, rfl, show 1 ≤ maxLen by decide, fun _ => ⟨w.heap.size + 1, 0, rfl, by simp, fun i hi => ?_⟩⟩
  match i, hi with
  | 0, _ => exact ⟨by simp [go_sem], by simp [go_sem], by simp [go_sem]⟩

theorem exM_c1 : costM [⟨0, 60, 60⟩] 100 0 1 = (160, 0) := by decide +kernel
theorem exM_e1 : chargeE [⟨0, 60, 60⟩] 100 0 0 0 61 = 0 := by decide +kernel
theorem exM_c2 : (costM [⟨0, 60, 60⟩] 100 0 61).1 = 220 := by decide +kernel
theorem exM_c3 : costM [⟨0, 60, 60⟩] 100 61 59 = (0, 0) := by decide +kernel
theorem exM_c4 : costM [⟨0, 60, 60⟩] 100 61 60 = (60, 0) := by decide +kernel

set_option maxRecDepth 100000 in
set_option maxHeartbeats 3200000 in
theorem alive39_calls (w : World) : Calls Try.prog 25 #[] w fun e w' => e = .returned (.bool true) ∧ Below w.heap.size w w' := by
  have E1 := Lib.hid exM_c1
  have E2 := Lib.hid exM_c2
  have E3 := Lib.hid exM_c3
  have E4 := Lib.hid exM_c4
  go_enter Try.func25, Try.ntmps25
  go_wp2_with fail
  refine (meter_calls w).mono ?_
  rintro e w1 ⟨B, rfl, hs1, hb1⟩
  go_wp2_with fail
  refine (qcost_pub [⟨0, 60, 60⟩] _ _ _ _ _ _ _ _ _ _ _ _ _ 1 w1 hs1 (by omega) (by omega)).mono ?_
  rintro e w2 ⟨rfl, hb2⟩
  rw [E1.out, mp_lit]
  dsimp only
  have hc2 := hb1.trans (hb2.mono hb1.size)
  clear hb2 hb1 hs1
  go_wp2_with fail
  refine (meter_calls w2).mono ?_
  rintro e w3 ⟨B', rfl, hs3, hb3⟩
  have hc3 := hc2.trans (hb3.mono hc2.size)
  clear hb3 hc2
  go_wp2_with fail
  refine (charge_yes [⟨0, 60, 60⟩] _ _ _ _ _ _ _ _ _ _ _ _ _ 0 61 w3 hs3 (by omega) (by omega) exM_e1).mono ?_
  rintro e w4 ⟨av, cap, rfl, hs4, hb4⟩
  rw [E2.out]
  have hc4 := hc3.trans (hb4.mono hc3.size)
  clear hb4 hc3 hs3
  go_wp2_with fail
  obtain ⟨W5, hW5⟩ : ∃ W5, W5 = w4.alloc (Obj.cells #[Value.int .i64 1, Value.int .i64 1, Value.int .i64 1, Value.string ⟨#[]⟩, Value.string ⟨#[]⟩, Value.int .i64 0, Value.int .i64 1, Value.string ⟨#[]⟩, Value.string ⟨#[]⟩, Value.int .i64 100, Value.slice av 1 cap, Value.int .i64 0, Value.int .i64 61] 43) := ⟨_, rfl⟩
  obtain ⟨BW5, hBW5⟩ : ∃ B, B = w4.heap.size := ⟨_, rfl⟩
  have hrW5 : W5.heap[BW5]? = some (Obj.cells #[Value.int .i64 1, Value.int .i64 1, Value.int .i64 1, Value.string ⟨#[]⟩, Value.string ⟨#[]⟩, Value.int .i64 0, Value.int .i64 1, Value.string ⟨#[]⟩, Value.string ⟨#[]⟩, Value.int .i64 100, Value.slice av 1 cap, Value.int .i64 0, Value.int .i64 61] 43) := by rw [hW5, hBW5]; exact heap_alloc_new _ _
  have hlW5 : BW5 < W5.heap.size := by rw [hW5, hBW5]; simp
  have hbW5 : Below w.heap.size w W5 := by rw [hW5]; exact hc4.alloc hc4.size _
  have hs5 : StepsAt W5 (.slice av 1 cap) [⟨0, 60, 60⟩] := hs4.at.below (by rw [hW5]; go_grown)
  rw [← hW5, ← hBW5]
  have Hr5 := Lib.hid hrW5
  clear hW5 hBW5 hrW5 hs4 hc4
  refine (qcost_pub [⟨0, 60, 60⟩] _ _ _ _ _ _ _ _ _ _ _ _ _ 59 W5 hs5 (by omega) (by omega)).mono ?_
  rintro e w6 ⟨rfl, hb6⟩
  rw [E3.out, mp_lit]
  dsimp only
  have hs6 := hs5.below hb6
  have g6 := (hb6.block BW5 hlW5).trans Hr5.out
  have k0 : w6.cell? ⟨BW5, 0, none⟩ = some (Value.int .i64 1) := cell_of_row w6 _ 0 _ _ _ g6
  have k1 : w6.cell? ⟨BW5, 1, none⟩ = some (Value.int .i64 1) := cell_of_row w6 _ 1 _ _ _ g6
  have k2 : w6.cell? ⟨BW5, 2, none⟩ = some (Value.int .i64 1) := cell_of_row w6 _ 2 _ _ _ g6
  have k3 : w6.cell? ⟨BW5, 3, none⟩ = some (Value.string ⟨#[]⟩) := cell_of_row w6 _ 3 _ _ _ g6
  have k4 : w6.cell? ⟨BW5, 4, none⟩ = some (Value.string ⟨#[]⟩) := cell_of_row w6 _ 4 _ _ _ g6
  have k5 : w6.cell? ⟨BW5, 5, none⟩ = some (Value.int .i64 0) := cell_of_row w6 _ 5 _ _ _ g6
  have k6 : w6.cell? ⟨BW5, 6, none⟩ = some (Value.int .i64 1) := cell_of_row w6 _ 6 _ _ _ g6
  have k7 : w6.cell? ⟨BW5, 7, none⟩ = some (Value.string ⟨#[]⟩) := cell_of_row w6 _ 7 _ _ _ g6
  have k8 : w6.cell? ⟨BW5, 8, none⟩ = some (Value.string ⟨#[]⟩) := cell_of_row w6 _ 8 _ _ _ g6
  have k9 : w6.cell? ⟨BW5, 9, none⟩ = some (Value.int .i64 100) := cell_of_row w6 _ 9 _ _ _ g6
  have k10 : w6.cell? ⟨BW5, 10, none⟩ = some (Value.slice av 1 cap) := cell_of_row w6 _ 10 _ _ _ g6
  have k11 : w6.cell? ⟨BW5, 11, none⟩ = some (Value.int .i64 0) := cell_of_row w6 _ 11 _ _ _ g6
  have k12 : w6.cell? ⟨BW5, 12, none⟩ = some (Value.int .i64 61) := cell_of_row w6 _ 12 _ _ _ g6
  have G6 := Lib.hid g6
  clear g6
  go_wp2_with fail
  refine (qcost_pub [⟨0, 60, 60⟩] _ _ _ _ _ _ _ _ _ _ _ _ _ 60 w6 hs6 (by omega) (by omega)).mono ?_
  rintro e w7 ⟨rfl, hb7⟩
  rw [E4.out, mp_lit]
  dsimp only
  have g7 := (hb7.block BW5 (Nat.lt_of_lt_of_le hlW5 hb6.size)).trans G6.out
  have n12 : w7.cell? ⟨BW5, 12, none⟩ = some (Value.int .i64 61) := cell_of_row w7 _ 12 _ _ _ g7
  have hc7 := (hbW5.trans (hb6.mono hbW5.size)).trans (hb7.mono (Nat.le_trans hbW5.size hb6.size))
  clear g7 hb7 hb6 k0 k1 k2 k3 k4 k5 k6 k7 k8 k9 k10 k11 k12
  go_wp2
  go_ret
  exact ⟨rfl, hc7⟩
end Go.Proofs.Ytkipebdhagccbaa
