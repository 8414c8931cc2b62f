/-
  The walks of the laws QuotaCosts and QuotaParts.
-/
import Derived.Test.YtkipebdhagccbaaAlive39
namespace Go.Proofs.Ytkipebdhagccbaa
open Go.RowKit

set_option maxRecDepth 100000 in
set_option maxHeartbeats 3200000 in
theorem law_qcosts (l : List St) (a s kd : Int) (z pl : ByteArray) (vr rk : Int) (rz rb : ByteArray) (st : Int) (sv : Value) (fr pd : Int) (free paid : Int) (w : World) (h : StepsAt w sv l) (hp0 : -9223372036854775808 ≤ paid) (hp1 : paid ≤ 9223372036854775807) :
    Calls Try.prog 9 #[.agg #[.int .i64 a, .int .i64 s, .int .i64 kd, .string z, .string pl, .int .i64 vr, .int .i64 rk, .string rz, .string rb, .int .i64 st, sv, .int .i64 fr, .int .i64 pd], .int .i64 free, .int .i64 paid] w fun e w' => e = .returned (.bool true) ∧ Below w.heap.size w w' := by
  have hh := h
  obtain ⟨av, cap, rfl, hm, hc⟩ := h
  clear hc
  unfold maxLen at hm
  obtain ⟨W0, hW0⟩ : ∃ W0, W0 = w.alloc (Obj.cells #[Value.int .i64 a, Value.int .i64 s, Value.int .i64 kd, Value.string z, Value.string pl, Value.int .i64 vr, Value.int .i64 rk, Value.string rz, Value.string rb, Value.int .i64 st, Value.slice av l.length cap, Value.int .i64 fr, Value.int .i64 pd] 43) := ⟨_, rfl⟩
  obtain ⟨BW0, hBW0⟩ : ∃ B, B = w.heap.size := ⟨_, rfl⟩
  have hrW0 : W0.heap[BW0]? = some (Obj.cells #[Value.int .i64 a, Value.int .i64 s, Value.int .i64 kd, Value.string z, Value.string pl, Value.int .i64 vr, Value.int .i64 rk, Value.string rz, Value.string rb, Value.int .i64 st, Value.slice av l.length cap, Value.int .i64 fr, Value.int .i64 pd] 43) := by rw [hW0, hBW0]; exact heap_alloc_new _ _
  have hlW0 : BW0 < W0.heap.size := by rw [hW0, hBW0]; simp
  have hbW0 : Below w.heap.size w W0 := by rw [hW0]; exact Below.alloc (Below.refl _ _) (Nat.le_refl _) _
  have hs0 : StepsAt W0 (.slice av l.length cap) l := hh.below hbW0
  have HW0 := Lib.hid hW0
  have HB0 := Lib.hid hBW0
  have Hr0 := Lib.hid hrW0
  clear hW0 hBW0 hrW0 hh
  by_cases h8 : 8 < l.length
  · go_enter Try.func9, Try.ntmps9
    go_wp2_with fail
    rw [← HW0.out]
    refine (alive39_calls W0).mono ?_
    rintro e' w1 ⟨rfl, hb1⟩
    have c1 := hbW0.trans (hb1.mono hbW0.size)
    go_wp2
    go_ret
    exact ⟨rfl, c1⟩
  · by_cases hx : chargeE l st pd fr free paid = 0
    · obtain ⟨ca, ce, hcm⟩ : ∃ ca ce, costM l st pd paid = (ca, ce) := ⟨_, _, rfl⟩
      have Hcm := Lib.hid hcm
      clear hcm
      go_enter Try.func9, Try.ntmps9
      go_wp2_with fail
      rw [← HW0.out, ← HB0.out]
      refine (qcost_pub l a s kd z pl vr rk rz rb st (.slice av l.length cap) fr pd paid W0 hs0 hp0 hp1).mono ?_
      rintro e' w1 ⟨rfl, hb1⟩
      simp only [Hcm.out, mp_lit]
      have hs1 := hs0.below hb1
      have g1 := (hb1.block BW0 hlW0).trans Hr0.out
      have c1 := hbW0.trans (hb1.mono hbW0.size)
      have k0 : w1.cell? ⟨BW0, 0, none⟩ = some (Value.int .i64 a) := cell_of_row w1 _ 0 _ _ _ g1
      have k1 : w1.cell? ⟨BW0, 1, none⟩ = some (Value.int .i64 s) := cell_of_row w1 _ 1 _ _ _ g1
      have k2 : w1.cell? ⟨BW0, 2, none⟩ = some (Value.int .i64 kd) := cell_of_row w1 _ 2 _ _ _ g1
      have k3 : w1.cell? ⟨BW0, 3, none⟩ = some (Value.string z) := cell_of_row w1 _ 3 _ _ _ g1
      have k4 : w1.cell? ⟨BW0, 4, none⟩ = some (Value.string pl) := cell_of_row w1 _ 4 _ _ _ g1
      have k5 : w1.cell? ⟨BW0, 5, none⟩ = some (Value.int .i64 vr) := cell_of_row w1 _ 5 _ _ _ g1
      have k6 : w1.cell? ⟨BW0, 6, none⟩ = some (Value.int .i64 rk) := cell_of_row w1 _ 6 _ _ _ g1
      have k7 : w1.cell? ⟨BW0, 7, none⟩ = some (Value.string rz) := cell_of_row w1 _ 7 _ _ _ g1
      have k8 : w1.cell? ⟨BW0, 8, none⟩ = some (Value.string rb) := cell_of_row w1 _ 8 _ _ _ g1
      have k9 : w1.cell? ⟨BW0, 9, none⟩ = some (Value.int .i64 st) := cell_of_row w1 _ 9 _ _ _ g1
      have k10 : w1.cell? ⟨BW0, 10, none⟩ = some (Value.slice av l.length cap) := cell_of_row w1 _ 10 _ _ _ g1
      have k11 : w1.cell? ⟨BW0, 11, none⟩ = some (Value.int .i64 fr) := cell_of_row w1 _ 11 _ _ _ g1
      have k12 : w1.cell? ⟨BW0, 12, none⟩ = some (Value.int .i64 pd) := cell_of_row w1 _ 12 _ _ _ g1
      have G1 := Lib.hid g1
      have hl1 := Nat.lt_of_lt_of_le hlW0 hb1.size
      clear g1 hb1
      go_wp2_with fail
      refine (rqcost_calls l a s kd z pl vr rk rz rb st (.slice av l.length cap) fr pd paid w1 hs1 hp0 hp1).mono ?_
      rintro e' w2 ⟨rfl, hb2⟩
      simp only [Hcm.out, mp_lit]
      have hs2 := hs1.below hb2
      have g2 := (hb2.block BW0 hl1).trans G1.out
      have c2 := c1.trans (hb2.mono c1.size)
      clear k0 k1 k2 k3 k4 k5 k6 k7 k8 k9 k10 k11 k12
      have k0 : w2.cell? ⟨BW0, 0, none⟩ = some (Value.int .i64 a) := cell_of_row w2 _ 0 _ _ _ g2
      have k1 : w2.cell? ⟨BW0, 1, none⟩ = some (Value.int .i64 s) := cell_of_row w2 _ 1 _ _ _ g2
      have k2 : w2.cell? ⟨BW0, 2, none⟩ = some (Value.int .i64 kd) := cell_of_row w2 _ 2 _ _ _ g2
      have k3 : w2.cell? ⟨BW0, 3, none⟩ = some (Value.string z) := cell_of_row w2 _ 3 _ _ _ g2
      have k4 : w2.cell? ⟨BW0, 4, none⟩ = some (Value.string pl) := cell_of_row w2 _ 4 _ _ _ g2
      have k5 : w2.cell? ⟨BW0, 5, none⟩ = some (Value.int .i64 vr) := cell_of_row w2 _ 5 _ _ _ g2
      have k6 : w2.cell? ⟨BW0, 6, none⟩ = some (Value.int .i64 rk) := cell_of_row w2 _ 6 _ _ _ g2
      have k7 : w2.cell? ⟨BW0, 7, none⟩ = some (Value.string rz) := cell_of_row w2 _ 7 _ _ _ g2
      have k8 : w2.cell? ⟨BW0, 8, none⟩ = some (Value.string rb) := cell_of_row w2 _ 8 _ _ _ g2
      have k9 : w2.cell? ⟨BW0, 9, none⟩ = some (Value.int .i64 st) := cell_of_row w2 _ 9 _ _ _ g2
      have k10 : w2.cell? ⟨BW0, 10, none⟩ = some (Value.slice av l.length cap) := cell_of_row w2 _ 10 _ _ _ g2
      have k11 : w2.cell? ⟨BW0, 11, none⟩ = some (Value.int .i64 fr) := cell_of_row w2 _ 11 _ _ _ g2
      have k12 : w2.cell? ⟨BW0, 12, none⟩ = some (Value.int .i64 pd) := cell_of_row w2 _ 12 _ _ _ g2
      have G2 := Lib.hid g2
      have hl2 := Nat.lt_of_lt_of_le hl1 hb2.size
      clear g2 hb2
      go_wp2_with fail
      refine (charge_yes l a s kd z pl vr rk rz rb st (.slice av l.length cap) fr pd free paid w2 hs2 hp0 hp1 hx).mono ?_
      rintro e' w3 ⟨av1, cap1, rfl, hs3, hb3⟩
      have c3 := c2.trans (hb3.mono c2.size)
      have g3 := (hb3.block BW0 hl2).trans G2.out
      have hl3 := Nat.lt_of_lt_of_le hl2 hb3.size
      have hs3' := hs2.below hb3
      clear k0 k1 k2 k3 k4 k5 k6 k7 k8 k9 k10 k11 k12
      go_upto_region 6 with (fail)
      obtain ⟨W4, hW4⟩ : ∃ W4, W4 = w3.alloc (Obj.cells #[Value.int .i64 a, Value.int .i64 s, Value.int .i64 kd, Value.string z, Value.string pl, Value.int .i64 vr, Value.int .i64 rk, Value.string rz, Value.string rb, Value.int .i64 st, Value.slice av1 l.length cap1, Value.int .i64 (fr + free), Value.int .i64 (pd + paid)] 43) := ⟨_, rfl⟩
      obtain ⟨BW4, hBW4⟩ : ∃ B, B = w3.heap.size := ⟨_, rfl⟩
      have hrW4 : W4.heap[BW4]? = some (Obj.cells #[Value.int .i64 a, Value.int .i64 s, Value.int .i64 kd, Value.string z, Value.string pl, Value.int .i64 vr, Value.int .i64 rk, Value.string rz, Value.string rb, Value.int .i64 st, Value.slice av1 l.length cap1, Value.int .i64 (fr + free), Value.int .i64 (pd + paid)] 43) := by rw [hW4, hBW4]; exact heap_alloc_new _ _
      have hlW4 : BW4 < W4.heap.size := by rw [hW4, hBW4]; simp
      have hbW4 : Below w.heap.size w W4 := by rw [hW4]; exact c3.alloc c3.size _
      have hb4 : Below w3.heap.size w3 W4 := by rw [hW4]; go_grown
      have g4 := (hb4.block BW0 hl3).trans g3
      have hl4 := Nat.lt_of_lt_of_le hl3 hb4.size
      have hs4 := hs3'.below hb4
      have hs4a := hs3.at.below hb4
      rw [← hW4, ← hBW4]
      have k0 : W4.cell? ⟨BW0, 0, none⟩ = some (Value.int .i64 a) := cell_of_row W4 _ 0 _ _ _ g4
      have k1 : W4.cell? ⟨BW0, 1, none⟩ = some (Value.int .i64 s) := cell_of_row W4 _ 1 _ _ _ g4
      have k2 : W4.cell? ⟨BW0, 2, none⟩ = some (Value.int .i64 kd) := cell_of_row W4 _ 2 _ _ _ g4
      have k3 : W4.cell? ⟨BW0, 3, none⟩ = some (Value.string z) := cell_of_row W4 _ 3 _ _ _ g4
      have k4 : W4.cell? ⟨BW0, 4, none⟩ = some (Value.string pl) := cell_of_row W4 _ 4 _ _ _ g4
      have k5 : W4.cell? ⟨BW0, 5, none⟩ = some (Value.int .i64 vr) := cell_of_row W4 _ 5 _ _ _ g4
      have k6 : W4.cell? ⟨BW0, 6, none⟩ = some (Value.int .i64 rk) := cell_of_row W4 _ 6 _ _ _ g4
      have k7 : W4.cell? ⟨BW0, 7, none⟩ = some (Value.string rz) := cell_of_row W4 _ 7 _ _ _ g4
      have k8 : W4.cell? ⟨BW0, 8, none⟩ = some (Value.string rb) := cell_of_row W4 _ 8 _ _ _ g4
      have k9 : W4.cell? ⟨BW0, 9, none⟩ = some (Value.int .i64 st) := cell_of_row W4 _ 9 _ _ _ g4
      have k10 : W4.cell? ⟨BW0, 10, none⟩ = some (Value.slice av l.length cap) := cell_of_row W4 _ 10 _ _ _ g4
      have k11 : W4.cell? ⟨BW0, 11, none⟩ = some (Value.int .i64 fr) := cell_of_row W4 _ 11 _ _ _ g4
      have k12 : W4.cell? ⟨BW0, 12, none⟩ = some (Value.int .i64 pd) := cell_of_row W4 _ 12 _ _ _ g4
      have G4 := Lib.hid g4
      have Hr4 := Lib.hid hrW4
      clear hW4 hBW4 hrW4 g4 hb4 g3 hb3 hs3'
      go_wp2_with fail
      clear hs3
      refine (rcharge_yes l a s kd z pl vr rk rz rb st (.slice av l.length cap) fr pd free paid W4 hs4 hp0 hp1 hx).mono ?_
      rintro e' w5 ⟨av2, cap2, rfl, hs5, hb5⟩
      have c5 := hbW4.trans (hb5.mono hbW4.size)
      have g5 := (hb5.block BW4 hlW4).trans Hr4.out
      have hl5 := Nat.lt_of_lt_of_le hlW4 hb5.size
      go_upto_region 7 with (fail)
      obtain ⟨W6, hW6⟩ : ∃ W6, W6 = w5.alloc (Obj.cells #[Value.int .i64 a, Value.int .i64 s, Value.int .i64 kd, Value.string z, Value.string pl, Value.int .i64 vr, Value.int .i64 rk, Value.string rz, Value.string rb, Value.int .i64 st, Value.slice av2 l.length cap2, Value.int .i64 (fr + free), Value.int .i64 (pd + paid)] 43) := ⟨_, rfl⟩
      obtain ⟨BW6, hBW6⟩ : ∃ B, B = w5.heap.size := ⟨_, rfl⟩
      have hrW6 : W6.heap[BW6]? = some (Obj.cells #[Value.int .i64 a, Value.int .i64 s, Value.int .i64 kd, Value.string z, Value.string pl, Value.int .i64 vr, Value.int .i64 rk, Value.string rz, Value.string rb, Value.int .i64 st, Value.slice av2 l.length cap2, Value.int .i64 (fr + free), Value.int .i64 (pd + paid)] 43) := by rw [hW6, hBW6]; exact heap_alloc_new _ _
      have hlW6 : BW6 < W6.heap.size := by rw [hW6, hBW6]; simp
      have hbW6 : Below w.heap.size w W6 := by rw [hW6]; exact c5.alloc c5.size _
      have hb6 : Below w5.heap.size w5 W6 := by rw [hW6]; go_grown
      have g6 := (hb6.block BW4 hl5).trans g5
      have hs6a := (hs4a.below hb5).below hb6
      have hs6b := hs5.at.below hb6
      rw [← hW6, ← hBW6]
      clear k0 k1 k2 k3 k4 k5 k6 k7 k8 k9 k10 k11 k12
      have k0 : W6.cell? ⟨BW4, 0, none⟩ = some (Value.int .i64 a) := cell_of_row W6 _ 0 _ _ _ g6
      have k1 : W6.cell? ⟨BW4, 1, none⟩ = some (Value.int .i64 s) := cell_of_row W6 _ 1 _ _ _ g6
      have k2 : W6.cell? ⟨BW4, 2, none⟩ = some (Value.int .i64 kd) := cell_of_row W6 _ 2 _ _ _ g6
      have k3 : W6.cell? ⟨BW4, 3, none⟩ = some (Value.string z) := cell_of_row W6 _ 3 _ _ _ g6
      have k4 : W6.cell? ⟨BW4, 4, none⟩ = some (Value.string pl) := cell_of_row W6 _ 4 _ _ _ g6
      have k5 : W6.cell? ⟨BW4, 5, none⟩ = some (Value.int .i64 vr) := cell_of_row W6 _ 5 _ _ _ g6
      have k6 : W6.cell? ⟨BW4, 6, none⟩ = some (Value.int .i64 rk) := cell_of_row W6 _ 6 _ _ _ g6
      have k7 : W6.cell? ⟨BW4, 7, none⟩ = some (Value.string rz) := cell_of_row W6 _ 7 _ _ _ g6
      have k8 : W6.cell? ⟨BW4, 8, none⟩ = some (Value.string rb) := cell_of_row W6 _ 8 _ _ _ g6
      have k9 : W6.cell? ⟨BW4, 9, none⟩ = some (Value.int .i64 st) := cell_of_row W6 _ 9 _ _ _ g6
      have k10 : W6.cell? ⟨BW4, 10, none⟩ = some (Value.slice av1 l.length cap1) := cell_of_row W6 _ 10 _ _ _ g6
      have k11 : W6.cell? ⟨BW4, 11, none⟩ = some (Value.int .i64 (fr + free)) := cell_of_row W6 _ 11 _ _ _ g6
      have k12 : W6.cell? ⟨BW4, 12, none⟩ = some (Value.int .i64 (pd + paid)) := cell_of_row W6 _ 12 _ _ _ g6
      have n0 : W6.cell? ⟨BW6, 0, none⟩ = some (Value.int .i64 a) := cell_of_row W6 _ 0 _ _ _ hrW6
      have n1 : W6.cell? ⟨BW6, 1, none⟩ = some (Value.int .i64 s) := cell_of_row W6 _ 1 _ _ _ hrW6
      have n2 : W6.cell? ⟨BW6, 2, none⟩ = some (Value.int .i64 kd) := cell_of_row W6 _ 2 _ _ _ hrW6
      have n3 : W6.cell? ⟨BW6, 3, none⟩ = some (Value.string z) := cell_of_row W6 _ 3 _ _ _ hrW6
      have n4 : W6.cell? ⟨BW6, 4, none⟩ = some (Value.string pl) := cell_of_row W6 _ 4 _ _ _ hrW6
      have n5 : W6.cell? ⟨BW6, 5, none⟩ = some (Value.int .i64 vr) := cell_of_row W6 _ 5 _ _ _ hrW6
      have n6 : W6.cell? ⟨BW6, 6, none⟩ = some (Value.int .i64 rk) := cell_of_row W6 _ 6 _ _ _ hrW6
      have n7 : W6.cell? ⟨BW6, 7, none⟩ = some (Value.string rz) := cell_of_row W6 _ 7 _ _ _ hrW6
      have n8 : W6.cell? ⟨BW6, 8, none⟩ = some (Value.string rb) := cell_of_row W6 _ 8 _ _ _ hrW6
      have n9 : W6.cell? ⟨BW6, 9, none⟩ = some (Value.int .i64 st) := cell_of_row W6 _ 9 _ _ _ hrW6
      have n10 : W6.cell? ⟨BW6, 10, none⟩ = some (Value.slice av2 l.length cap2) := cell_of_row W6 _ 10 _ _ _ hrW6
      have n11 : W6.cell? ⟨BW6, 11, none⟩ = some (Value.int .i64 (fr + free)) := cell_of_row W6 _ 11 _ _ _ hrW6
      have n12 : W6.cell? ⟨BW6, 12, none⟩ = some (Value.int .i64 (pd + paid)) := cell_of_row W6 _ 12 _ _ _ hrW6
      clear hW6 hBW6 hrW6 g6 hb6 g5 hb5
      go_wp2_with fail
      refine (same39_calls l a s kd z pl vr rk rz rb st (fr + free) (pd + paid) av1 av2 cap1 cap2 W6 hs6a hs6b).mono ?_
      rintro e' w7 ⟨rfl, hb7⟩
      have c7 := hbW6.trans (hb7.mono hbW6.size)
      go_wp2_with fail
      refine (alive39_calls w7).mono ?_
      rintro e' w8 ⟨rfl, hb8⟩
      have c8 := c7.trans (hb8.mono c7.size)
      clear hb8 hb7
      clear k0 k1 k2 k3 k4 k5 k6 k7 k8 k9 k10 k11 k12 n0 n1 n2 n3 n4 n5 n6 n7 n8 n9 n10 n11 n12
      go_wp2
      go_ret
      exact ⟨rfl, c8⟩
    · obtain ⟨ca, ce, hcm⟩ : ∃ ca ce, costM l st pd paid = (ca, ce) := ⟨_, _, rfl⟩
      have Hcm := Lib.hid hcm
      clear hcm
      have hnil6 : ∀ W6 : World, StepsAt W6 (.slice none 0 0) [] := fun W6 => ⟨none, 0, rfl, Nat.zero_le _, fun h => absurd rfl h⟩
      go_enter Try.func9, Try.ntmps9
      go_wp2_with fail
      rw [← HW0.out, ← HB0.out]
      refine (qcost_pub l a s kd z pl vr rk rz rb st (.slice av l.length cap) fr pd paid W0 hs0 hp0 hp1).mono ?_
      rintro e' w1 ⟨rfl, hb1⟩
      simp only [Hcm.out, mp_lit]
      have hs1 := hs0.below hb1
      have g1 := (hb1.block BW0 hlW0).trans Hr0.out
      have c1 := hbW0.trans (hb1.mono hbW0.size)
      have k0 : w1.cell? ⟨BW0, 0, none⟩ = some (Value.int .i64 a) := cell_of_row w1 _ 0 _ _ _ g1
      have k1 : w1.cell? ⟨BW0, 1, none⟩ = some (Value.int .i64 s) := cell_of_row w1 _ 1 _ _ _ g1
      have k2 : w1.cell? ⟨BW0, 2, none⟩ = some (Value.int .i64 kd) := cell_of_row w1 _ 2 _ _ _ g1
      have k3 : w1.cell? ⟨BW0, 3, none⟩ = some (Value.string z) := cell_of_row w1 _ 3 _ _ _ g1
      have k4 : w1.cell? ⟨BW0, 4, none⟩ = some (Value.string pl) := cell_of_row w1 _ 4 _ _ _ g1
      have k5 : w1.cell? ⟨BW0, 5, none⟩ = some (Value.int .i64 vr) := cell_of_row w1 _ 5 _ _ _ g1
      have k6 : w1.cell? ⟨BW0, 6, none⟩ = some (Value.int .i64 rk) := cell_of_row w1 _ 6 _ _ _ g1
      have k7 : w1.cell? ⟨BW0, 7, none⟩ = some (Value.string rz) := cell_of_row w1 _ 7 _ _ _ g1
      have k8 : w1.cell? ⟨BW0, 8, none⟩ = some (Value.string rb) := cell_of_row w1 _ 8 _ _ _ g1
      have k9 : w1.cell? ⟨BW0, 9, none⟩ = some (Value.int .i64 st) := cell_of_row w1 _ 9 _ _ _ g1
      have k10 : w1.cell? ⟨BW0, 10, none⟩ = some (Value.slice av l.length cap) := cell_of_row w1 _ 10 _ _ _ g1
      have k11 : w1.cell? ⟨BW0, 11, none⟩ = some (Value.int .i64 fr) := cell_of_row w1 _ 11 _ _ _ g1
      have k12 : w1.cell? ⟨BW0, 12, none⟩ = some (Value.int .i64 pd) := cell_of_row w1 _ 12 _ _ _ g1
      have G1 := Lib.hid g1
      have hl1 := Nat.lt_of_lt_of_le hlW0 hb1.size
      clear g1 hb1
      go_wp2_with fail
      refine (rqcost_calls l a s kd z pl vr rk rz rb st (.slice av l.length cap) fr pd paid w1 hs1 hp0 hp1).mono ?_
      rintro e' w2 ⟨rfl, hb2⟩
      simp only [Hcm.out, mp_lit]
      have hs2 := hs1.below hb2
      have g2 := (hb2.block BW0 hl1).trans G1.out
      have c2 := c1.trans (hb2.mono c1.size)
      clear k0 k1 k2 k3 k4 k5 k6 k7 k8 k9 k10 k11 k12
      have k0 : w2.cell? ⟨BW0, 0, none⟩ = some (Value.int .i64 a) := cell_of_row w2 _ 0 _ _ _ g2
      have k1 : w2.cell? ⟨BW0, 1, none⟩ = some (Value.int .i64 s) := cell_of_row w2 _ 1 _ _ _ g2
      have k2 : w2.cell? ⟨BW0, 2, none⟩ = some (Value.int .i64 kd) := cell_of_row w2 _ 2 _ _ _ g2
      have k3 : w2.cell? ⟨BW0, 3, none⟩ = some (Value.string z) := cell_of_row w2 _ 3 _ _ _ g2
      have k4 : w2.cell? ⟨BW0, 4, none⟩ = some (Value.string pl) := cell_of_row w2 _ 4 _ _ _ g2
      have k5 : w2.cell? ⟨BW0, 5, none⟩ = some (Value.int .i64 vr) := cell_of_row w2 _ 5 _ _ _ g2
      have k6 : w2.cell? ⟨BW0, 6, none⟩ = some (Value.int .i64 rk) := cell_of_row w2 _ 6 _ _ _ g2
      have k7 : w2.cell? ⟨BW0, 7, none⟩ = some (Value.string rz) := cell_of_row w2 _ 7 _ _ _ g2
      have k8 : w2.cell? ⟨BW0, 8, none⟩ = some (Value.string rb) := cell_of_row w2 _ 8 _ _ _ g2
      have k9 : w2.cell? ⟨BW0, 9, none⟩ = some (Value.int .i64 st) := cell_of_row w2 _ 9 _ _ _ g2
      have k10 : w2.cell? ⟨BW0, 10, none⟩ = some (Value.slice av l.length cap) := cell_of_row w2 _ 10 _ _ _ g2
      have k11 : w2.cell? ⟨BW0, 11, none⟩ = some (Value.int .i64 fr) := cell_of_row w2 _ 11 _ _ _ g2
      have k12 : w2.cell? ⟨BW0, 12, none⟩ = some (Value.int .i64 pd) := cell_of_row w2 _ 12 _ _ _ g2
      have G2 := Lib.hid g2
      have hl2 := Nat.lt_of_lt_of_le hl1 hb2.size
      clear g2 hb2
      go_wp2_with fail
      refine (charge_no l a s kd z pl vr rk rz rb st (.slice av l.length cap) fr pd free paid w2 hs2 hp0 hp1 _ rfl hx).mono ?_
      rintro e' w3 ⟨rfl, hb3⟩
      have c3 := c2.trans (hb3.mono c2.size)
      have g3 := (hb3.block BW0 hl2).trans G2.out
      have hl3 := Nat.lt_of_lt_of_le hl2 hb3.size
      have hs3' := hs2.below hb3
      clear k0 k1 k2 k3 k4 k5 k6 k7 k8 k9 k10 k11 k12
      go_upto_region 6 with (fail)
      obtain ⟨W4, hW4⟩ : ∃ W4, W4 = w3.alloc (Obj.cells #[Value.int .i64 0, Value.int .i64 0, Value.int .i64 0, Value.string ⟨#[]⟩, Value.string ⟨#[]⟩, Value.int .i64 0, Value.int .i64 0, Value.string ⟨#[]⟩, Value.string ⟨#[]⟩, Value.int .i64 0, Value.slice none 0 0, Value.int .i64 0, Value.int .i64 0] 43) := ⟨_, rfl⟩
      obtain ⟨BW4, hBW4⟩ : ∃ B, B = w3.heap.size := ⟨_, rfl⟩
      have hrW4 : W4.heap[BW4]? = some (Obj.cells #[Value.int .i64 0, Value.int .i64 0, Value.int .i64 0, Value.string ⟨#[]⟩, Value.string ⟨#[]⟩, Value.int .i64 0, Value.int .i64 0, Value.string ⟨#[]⟩, Value.string ⟨#[]⟩, Value.int .i64 0, Value.slice none 0 0, Value.int .i64 0, Value.int .i64 0] 43) := by rw [hW4, hBW4]; exact heap_alloc_new _ _
      have hlW4 : BW4 < W4.heap.size := by rw [hW4, hBW4]; simp
      have hbW4 : Below w.heap.size w W4 := by rw [hW4]; exact c3.alloc c3.size _
      have hb4 : Below w3.heap.size w3 W4 := by rw [hW4]; go_grown
      have g4 := (hb4.block BW0 hl3).trans g3
      have hl4 := Nat.lt_of_lt_of_le hl3 hb4.size
      have hs4 := hs3'.below hb4
      rw [← hW4, ← hBW4]
      have k0 : W4.cell? ⟨BW0, 0, none⟩ = some (Value.int .i64 a) := cell_of_row W4 _ 0 _ _ _ g4
      have k1 : W4.cell? ⟨BW0, 1, none⟩ = some (Value.int .i64 s) := cell_of_row W4 _ 1 _ _ _ g4
      have k2 : W4.cell? ⟨BW0, 2, none⟩ = some (Value.int .i64 kd) := cell_of_row W4 _ 2 _ _ _ g4
      have k3 : W4.cell? ⟨BW0, 3, none⟩ = some (Value.string z) := cell_of_row W4 _ 3 _ _ _ g4
      have k4 : W4.cell? ⟨BW0, 4, none⟩ = some (Value.string pl) := cell_of_row W4 _ 4 _ _ _ g4
      have k5 : W4.cell? ⟨BW0, 5, none⟩ = some (Value.int .i64 vr) := cell_of_row W4 _ 5 _ _ _ g4
      have k6 : W4.cell? ⟨BW0, 6, none⟩ = some (Value.int .i64 rk) := cell_of_row W4 _ 6 _ _ _ g4
      have k7 : W4.cell? ⟨BW0, 7, none⟩ = some (Value.string rz) := cell_of_row W4 _ 7 _ _ _ g4
      have k8 : W4.cell? ⟨BW0, 8, none⟩ = some (Value.string rb) := cell_of_row W4 _ 8 _ _ _ g4
      have k9 : W4.cell? ⟨BW0, 9, none⟩ = some (Value.int .i64 st) := cell_of_row W4 _ 9 _ _ _ g4
      have k10 : W4.cell? ⟨BW0, 10, none⟩ = some (Value.slice av l.length cap) := cell_of_row W4 _ 10 _ _ _ g4
      have k11 : W4.cell? ⟨BW0, 11, none⟩ = some (Value.int .i64 fr) := cell_of_row W4 _ 11 _ _ _ g4
      have k12 : W4.cell? ⟨BW0, 12, none⟩ = some (Value.int .i64 pd) := cell_of_row W4 _ 12 _ _ _ g4
      have G4 := Lib.hid g4
      have Hr4 := Lib.hid hrW4
      clear hW4 hBW4 hrW4 g4 hb4 g3 hb3 hs3'
      go_wp2_with fail
      refine (rcharge_no l a s kd z pl vr rk rz rb st (.slice av l.length cap) fr pd free paid W4 hs4 hp0 hp1 _ rfl hx).mono ?_
      rintro e' w5 ⟨rfl, hb5⟩
      have c5 := hbW4.trans (hb5.mono hbW4.size)
      have g5 := (hb5.block BW4 hlW4).trans Hr4.out
      have hl5 := Nat.lt_of_lt_of_le hlW4 hb5.size
      go_upto_region 7 with (fail)
      obtain ⟨W6, hW6⟩ : ∃ W6, W6 = w5.alloc (Obj.cells #[Value.int .i64 0, Value.int .i64 0, Value.int .i64 0, Value.string ⟨#[]⟩, Value.string ⟨#[]⟩, Value.int .i64 0, Value.int .i64 0, Value.string ⟨#[]⟩, Value.string ⟨#[]⟩, Value.int .i64 0, Value.slice none 0 0, Value.int .i64 0, Value.int .i64 0] 43) := ⟨_, rfl⟩
      obtain ⟨BW6, hBW6⟩ : ∃ B, B = w5.heap.size := ⟨_, rfl⟩
      have hrW6 : W6.heap[BW6]? = some (Obj.cells #[Value.int .i64 0, Value.int .i64 0, Value.int .i64 0, Value.string ⟨#[]⟩, Value.string ⟨#[]⟩, Value.int .i64 0, Value.int .i64 0, Value.string ⟨#[]⟩, Value.string ⟨#[]⟩, Value.int .i64 0, Value.slice none 0 0, Value.int .i64 0, Value.int .i64 0] 43) := by rw [hW6, hBW6]; exact heap_alloc_new _ _
      have hlW6 : BW6 < W6.heap.size := by rw [hW6, hBW6]; simp
      have hbW6 : Below w.heap.size w W6 := by rw [hW6]; exact c5.alloc c5.size _
      have hb6 : Below w5.heap.size w5 W6 := by rw [hW6]; go_grown
      have g6 := (hb6.block BW4 hl5).trans g5
      rw [← hW6, ← hBW6]
      clear k0 k1 k2 k3 k4 k5 k6 k7 k8 k9 k10 k11 k12
      have k0 : W6.cell? ⟨BW4, 0, none⟩ = some (Value.int .i64 0) := cell_of_row W6 _ 0 _ _ _ g6
      have k1 : W6.cell? ⟨BW4, 1, none⟩ = some (Value.int .i64 0) := cell_of_row W6 _ 1 _ _ _ g6
      have k2 : W6.cell? ⟨BW4, 2, none⟩ = some (Value.int .i64 0) := cell_of_row W6 _ 2 _ _ _ g6
      have k3 : W6.cell? ⟨BW4, 3, none⟩ = some (Value.string ⟨#[]⟩) := cell_of_row W6 _ 3 _ _ _ g6
      have k4 : W6.cell? ⟨BW4, 4, none⟩ = some (Value.string ⟨#[]⟩) := cell_of_row W6 _ 4 _ _ _ g6
      have k5 : W6.cell? ⟨BW4, 5, none⟩ = some (Value.int .i64 0) := cell_of_row W6 _ 5 _ _ _ g6
      have k6 : W6.cell? ⟨BW4, 6, none⟩ = some (Value.int .i64 0) := cell_of_row W6 _ 6 _ _ _ g6
      have k7 : W6.cell? ⟨BW4, 7, none⟩ = some (Value.string ⟨#[]⟩) := cell_of_row W6 _ 7 _ _ _ g6
      have k8 : W6.cell? ⟨BW4, 8, none⟩ = some (Value.string ⟨#[]⟩) := cell_of_row W6 _ 8 _ _ _ g6
      have k9 : W6.cell? ⟨BW4, 9, none⟩ = some (Value.int .i64 0) := cell_of_row W6 _ 9 _ _ _ g6
      have k10 : W6.cell? ⟨BW4, 10, none⟩ = some (Value.slice none 0 0) := cell_of_row W6 _ 10 _ _ _ g6
      have k11 : W6.cell? ⟨BW4, 11, none⟩ = some (Value.int .i64 0) := cell_of_row W6 _ 11 _ _ _ g6
      have k12 : W6.cell? ⟨BW4, 12, none⟩ = some (Value.int .i64 0) := cell_of_row W6 _ 12 _ _ _ g6
      have n0 : W6.cell? ⟨BW6, 0, none⟩ = some (Value.int .i64 0) := cell_of_row W6 _ 0 _ _ _ hrW6
      have n1 : W6.cell? ⟨BW6, 1, none⟩ = some (Value.int .i64 0) := cell_of_row W6 _ 1 _ _ _ hrW6
      have n2 : W6.cell? ⟨BW6, 2, none⟩ = some (Value.int .i64 0) := cell_of_row W6 _ 2 _ _ _ hrW6
      have n3 : W6.cell? ⟨BW6, 3, none⟩ = some (Value.string ⟨#[]⟩) := cell_of_row W6 _ 3 _ _ _ hrW6
      have n4 : W6.cell? ⟨BW6, 4, none⟩ = some (Value.string ⟨#[]⟩) := cell_of_row W6 _ 4 _ _ _ hrW6
      have n5 : W6.cell? ⟨BW6, 5, none⟩ = some (Value.int .i64 0) := cell_of_row W6 _ 5 _ _ _ hrW6
      have n6 : W6.cell? ⟨BW6, 6, none⟩ = some (Value.int .i64 0) := cell_of_row W6 _ 6 _ _ _ hrW6
      have n7 : W6.cell? ⟨BW6, 7, none⟩ = some (Value.string ⟨#[]⟩) := cell_of_row W6 _ 7 _ _ _ hrW6
      have n8 : W6.cell? ⟨BW6, 8, none⟩ = some (Value.string ⟨#[]⟩) := cell_of_row W6 _ 8 _ _ _ hrW6
      have n9 : W6.cell? ⟨BW6, 9, none⟩ = some (Value.int .i64 0) := cell_of_row W6 _ 9 _ _ _ hrW6
      have n10 : W6.cell? ⟨BW6, 10, none⟩ = some (Value.slice none 0 0) := cell_of_row W6 _ 10 _ _ _ hrW6
      have n11 : W6.cell? ⟨BW6, 11, none⟩ = some (Value.int .i64 0) := cell_of_row W6 _ 11 _ _ _ hrW6
      have n12 : W6.cell? ⟨BW6, 12, none⟩ = some (Value.int .i64 0) := cell_of_row W6 _ 12 _ _ _ hrW6
      clear hW6 hBW6 hrW6 g6 hb6 g5 hb5
      go_wp2_with fail
      refine (same39_calls [] 0 0 0 ⟨#[]⟩ ⟨#[]⟩ 0 0 ⟨#[]⟩ ⟨#[]⟩ 0 0 0 none none 0 0 W6 (hnil6 W6) (hnil6 W6)).mono ?_
      rintro e' w7 ⟨rfl, hb7⟩
      have c7 := hbW6.trans (hb7.mono hbW6.size)
      go_wp2_with fail
      refine (alive39_calls w7).mono ?_
      rintro e' w8 ⟨rfl, hb8⟩
      have c8 := c7.trans (hb8.mono c7.size)
      clear hb8 hb7
      clear k0 k1 k2 k3 k4 k5 k6 k7 k8 k9 k10 k11 k12 n0 n1 n2 n3 n4 n5 n6 n7 n8 n9 n10 n11 n12
      go_wp2
      go_ret
      exact ⟨rfl, c8⟩

theorem priceL_ok {l : List St} {p : Int} (h : (priceL l p).2 = 0) : errL l = 0 ∧ 0 ≤ p ∧ p ≤ 1099511627776 ∧ tot l p ≤ 1125899906842624 ∧ priceL l p = (tot l p, 0) := by
  unfold priceL at *
  by_cases h1 : errL l = 0
  · rw [if_neg (not_not_intro h1)] at *
    by_cases h2 : p < 0 ∨ 1099511627776 < p
    · rw [if_pos h2] at h; cases h
    · rw [if_neg h2] at *
      by_cases h3 : 1125899906842624 < tot l p
      · rw [if_pos h3] at h; cases h
      · rw [if_neg h3] at *
        exact ⟨h1, by omega, by omega, by omega, rfl⟩
  · rw [if_pos h1] at h; cases h

theorem priceL_mk {l : List St} {p : Int} (h1 : errL l = 0) (h2 : 0 ≤ p) (h3 : p ≤ 1099511627776) (h4 : tot l p ≤ 1125899906842624) : priceL l p = (tot l p, 0) := by
  rw [priceL, if_neg (not_not_intro h1), if_neg (by omega), if_neg (by omega)]

theorem mpriceL_tot {l : List St} {st p : Int} (h : priceL l p = (tot l p, 0)) : mpriceL l st p = if p = 0 then (0, 0) else if 1125899906842624 < st + tot l p then (0, 6) else (st + tot l p, 0) := by
  rw [mpriceL, h, if_neg (by simp)]

theorem mpriceL_mono {l : List St} {st p q : Int} (h0 : 0 ≤ st) (h : (mpriceL l st q).2 = 0) (hp : 0 ≤ p) (hpq : p ≤ q) : (mpriceL l st p).2 = 0 ∧ (mpriceL l st p).1 ≤ (mpriceL l st q).1 := by
  have hq : (priceL l q).2 = 0 := by
    by_cases he : (priceL l q).2 = 0
    · exact he
    · unfold mpriceL at h; rw [if_pos he] at h; exact absurd h he
  obtain ⟨g1, g2, g3, g4, g5⟩ := priceL_ok hq
  have tm := tot_mono g1 hpq
  have tn := tot_nonneg g1 p
  have hpp := priceL_mk g1 hp (by omega) (by omega : tot l p ≤ 1125899906842624)
  rw [mpriceL_tot g5] at *
  rw [mpriceL_tot hpp]
  by_cases q0 : q = 0
  · have p0 : p = 0 := by omega
    rw [if_pos q0, if_pos p0]
    exact ⟨rfl, Int.le_refl _⟩
  · rw [if_neg q0] at *
    by_cases hm : 1125899906842624 < st + tot l q
    · rw [if_pos hm] at h; cases h
    · rw [if_neg hm]
      by_cases p0 : p = 0
      · rw [if_pos p0]; exact ⟨rfl, by dsimp only; omega⟩
      · rw [if_neg p0, if_neg (by omega)]; exact ⟨rfl, by dsimp only; omega⟩

theorem costM_err {l : List St} {st pd n : Int} (h : (costM l st pd n).2 ≠ 0) : (costM l st pd n).1 = 0 := by
  unfold costM at *
  split
  · rfl
  · rename_i h1
    rw [if_neg h1] at h
    split
    · rfl
    · rename_i h2
      rw [if_neg h2] at h
      split
      · rfl
      · rename_i h3
        rw [if_neg h3] at h
        exact absurd rfl h

theorem parts39 {l : List St} {st pd n k : Int} (h : (costM l st pd (n + k)).2 = 0) (hn : 0 ≤ n) (hk : 0 ≤ k) :
    ∃ A B, costM l st pd n = (A, 0) ∧ costM l st (pd + n) k = (B, 0) ∧ A + B = (costM l st pd (n + k)).1 ∧ 0 ≤ A ∧ 0 ≤ B := by
  unfold costM at h
  split at h
  · cases h
  · rename_i hg
    split at h
    · rename_i h1; exact absurd h h1
    · rename_i h1
      split at h
      · rename_i h2; exact absurd h h2
      · rename_i h2
        have e1 := Decidable.not_not.1 h1
        have e2 := Decidable.not_not.1 h2
        have m1 := mpriceL_mono (p := pd) (q := pd + (n + k)) (by omega : 0 ≤ st) e1 (by omega) (by omega)
        have m2 := mpriceL_mono (p := pd + n) (q := pd + (n + k)) (by omega : 0 ≤ st) e1 (by omega) (by omega)
        have m3 := mpriceL_mono (p := pd) (q := pd + n) (by omega : 0 ≤ st) m2.1 (by omega) (by omega)
        have ee : pd + n + k = pd + (n + k) := by omega
        refine ⟨(mpriceL l st (pd + n)).1 - (mpriceL l st pd).1, (mpriceL l st (pd + (n + k))).1 - (mpriceL l st (pd + n)).1, ?_, ?_, ?_, by omega, by omega⟩
        · rw [costM, if_neg (by omega), if_neg (not_not_intro m2.1), if_neg h2]
        · rw [costM, if_neg (by omega), ee, if_neg h1, if_neg (not_not_intro m2.1)]
        · rw [costM, if_neg hg, if_neg h1, if_neg h2]; dsimp only; omega

theorem zeroCharge {k : Int} (h0 : 0 ≤ k) (h1 : k ≤ 1099511627776) : chargeE [] 0 0 0 0 k = 8 := by
  have hp : priceL [] k = (0, 8) := rfl
  rw [chargeE, if_neg (by omega), costM, if_neg (by omega)]
  have hm : mpriceL [] 0 (0 + k) = (0, 8) := by rw [Int.zero_add, mpriceL, hp]; rfl
  rw [hm]
  rfl

set_option maxRecDepth 100000 in
set_option maxHeartbeats 3200000 in
theorem law_qparts (l : List St) (a s kd : Int) (z pl : ByteArray) (vr rk : Int) (rz rb : ByteArray) (st : Int) (sv : Value) (fr pd : Int) (free paid : Int) (w : World) (h : StepsAt w sv l) (hf0 : -9223372036854775808 ≤ fr) (hf1 : fr ≤ 9223372036854775807) :
    Calls Try.prog 10 #[.agg #[.int .i64 a, .int .i64 s, .int .i64 kd, .string z, .string pl, .int .i64 vr, .int .i64 rk, .string rz, .string rb, .int .i64 st, sv, .int .i64 fr, .int .i64 pd], .int .i64 free, .int .i64 paid] w fun e w' => e = .returned (.bool true) ∧ Below w.heap.size w w' := by
  have hh := h
  obtain ⟨av, cap, rfl, hm, hc⟩ := h
  clear hc
  unfold maxLen at hm
  obtain ⟨W0, hW0⟩ : ∃ W0, W0 = w.alloc (Obj.cells #[Value.int .i64 a, Value.int .i64 s, Value.int .i64 kd, Value.string z, Value.string pl, Value.int .i64 vr, Value.int .i64 rk, Value.string rz, Value.string rb, Value.int .i64 st, Value.slice av l.length cap, Value.int .i64 fr, Value.int .i64 pd] 43) := ⟨_, rfl⟩
  obtain ⟨BW0, hBW0⟩ : ∃ B, B = w.heap.size := ⟨_, rfl⟩
  have hrW0 : W0.heap[BW0]? = some (Obj.cells #[Value.int .i64 a, Value.int .i64 s, Value.int .i64 kd, Value.string z, Value.string pl, Value.int .i64 vr, Value.int .i64 rk, Value.string rz, Value.string rb, Value.int .i64 st, Value.slice av l.length cap, Value.int .i64 fr, Value.int .i64 pd] 43) := by rw [hW0, hBW0]; exact heap_alloc_new _ _
  have hlW0 : BW0 < W0.heap.size := by rw [hW0, hBW0]; simp
  have hbW0 : Below w.heap.size w W0 := by rw [hW0]; exact Below.alloc (Below.refl _ _) (Nat.le_refl _) _
  have hs0 : StepsAt W0 (.slice av l.length cap) l := hh.below hbW0
  have HW0 := Lib.hid hW0
  have HB0 := Lib.hid hBW0
  have Hr0 := Lib.hid hrW0
  clear hW0 hBW0 hrW0 hh
  by_cases h8 : 8 < l.length
  · go_enter Try.func10, Try.ntmps10
    go_wp2_with fail
    rw [← HW0.out]
    refine (alive39_calls W0).mono ?_
    rintro e' w1 ⟨rfl, hb1⟩
    have c1 := hbW0.trans (hb1.mono hbW0.size)
    go_wp2
    go_ret
    exact ⟨rfl, c1⟩
  · by_cases hg : 0 ≤ free ∧ 0 ≤ paid ∧ free ≤ 1099511627776 ∧ paid ≤ 1099511627776
    · obtain ⟨g1, g2, g3, g4⟩ := hg
      by_cases he : (costM l st pd (free + paid)).2 = 0
      · obtain ⟨A, B, hA, hB, hAB, hA0, hB0⟩ := parts39 he g1 g2
        have hcm : costM l st pd (free + paid) = (A + B, 0) := by rw [hAB, ← he]
        obtain ⟨q1, q2, q3, q4, q5, q6, q7, -⟩ := costM_ok he
        have bdA := @costM_bd l st pd free
        have bdB := @costM_bd l st (pd + free) paid
        rw [hA] at bdA
        rw [hB] at bdB
        dsimp only at bdA bdB
        have Hcm := Lib.hid hcm
        clear hcm hAB he
        by_cases hfr : 0 ≤ fr ∧ fr ≤ 1099511627776
        · have HX1 := Lib.hid (show chargeE l st pd fr 0 free = 0 by rw [chargeE, if_neg (by omega), hA])
          have HX2 := Lib.hid (show chargeE l st (pd + free) fr 0 paid = 0 by rw [chargeE, if_neg (by omega), hB])
          have HA := Lib.hid hA
          have HB := Lib.hid hB
          clear hA hB
          obtain ⟨f1, f2⟩ := hfr
          go_enter Try.func10, Try.ntmps10
          go_wp2_with fail
          rw [← HW0.out, ← HB0.out]
          refine (qcost_pub l a s kd z pl vr rk rz rb st (.slice av l.length cap) fr pd (free + paid) W0 hs0 (by omega) (by omega)).mono ?_
          rintro e' w1 ⟨rfl, hb1⟩
          simp only [Hcm.out, mp_lit]
          have c1 := hbW0.trans (hb1.mono hbW0.size)
          have hs1 := hs0.below hb1
          have g1 := (hb1.block BW0 hlW0).trans Hr0.out
          have k0 : w1.cell? ⟨BW0, 0, none⟩ = some (Value.int .i64 a) := cell_of_row w1 _ 0 _ _ _ g1
          have k1 : w1.cell? ⟨BW0, 1, none⟩ = some (Value.int .i64 s) := cell_of_row w1 _ 1 _ _ _ g1
          have k2 : w1.cell? ⟨BW0, 2, none⟩ = some (Value.int .i64 kd) := cell_of_row w1 _ 2 _ _ _ g1
          have k3 : w1.cell? ⟨BW0, 3, none⟩ = some (Value.string z) := cell_of_row w1 _ 3 _ _ _ g1
          have k4 : w1.cell? ⟨BW0, 4, none⟩ = some (Value.string pl) := cell_of_row w1 _ 4 _ _ _ g1
          have k5 : w1.cell? ⟨BW0, 5, none⟩ = some (Value.int .i64 vr) := cell_of_row w1 _ 5 _ _ _ g1
          have k6 : w1.cell? ⟨BW0, 6, none⟩ = some (Value.int .i64 rk) := cell_of_row w1 _ 6 _ _ _ g1
          have k7 : w1.cell? ⟨BW0, 7, none⟩ = some (Value.string rz) := cell_of_row w1 _ 7 _ _ _ g1
          have k8 : w1.cell? ⟨BW0, 8, none⟩ = some (Value.string rb) := cell_of_row w1 _ 8 _ _ _ g1
          have k9 : w1.cell? ⟨BW0, 9, none⟩ = some (Value.int .i64 st) := cell_of_row w1 _ 9 _ _ _ g1
          have k10 : w1.cell? ⟨BW0, 10, none⟩ = some (Value.slice av l.length cap) := cell_of_row w1 _ 10 _ _ _ g1
          have k11 : w1.cell? ⟨BW0, 11, none⟩ = some (Value.int .i64 fr) := cell_of_row w1 _ 11 _ _ _ g1
          have k12 : w1.cell? ⟨BW0, 12, none⟩ = some (Value.int .i64 pd) := cell_of_row w1 _ 12 _ _ _ g1
          have G1 := Lib.hid g1
          have hl1 := Nat.lt_of_lt_of_le hlW0 hb1.size
          clear g1 hb1
          go_wp2_with fail
          refine (charge_yes l a s kd z pl vr rk rz rb st (.slice av l.length cap) fr pd 0 free w1 hs1 (by omega) (by omega) HX1.out).mono ?_
          rintro e' w2 ⟨av1, cap1, rfl, hs2, hb2⟩
          rw [HA.out]
          dsimp only
          have c2 := c1.trans (hb2.mono c1.size)
          have g2 := (hb2.block BW0 hl1).trans G1.out
          have hl2 := Nat.lt_of_lt_of_le hl1 hb2.size
          clear k0 k1 k2 k3 k4 k5 k6 k7 k8 k9 k10 k11 k12
          go_wp2_with fail
          obtain ⟨W3, hW3⟩ : ∃ W3, W3 = w2.alloc (Obj.cells #[Value.int .i64 a, Value.int .i64 s, Value.int .i64 kd, Value.string z, Value.string pl, Value.int .i64 vr, Value.int .i64 rk, Value.string rz, Value.string rb, Value.int .i64 st, Value.slice av1 l.length cap1, Value.int .i64 fr, Value.int .i64 (pd + free)] 43) := ⟨_, rfl⟩
          obtain ⟨BW3, hBW3⟩ : ∃ B, B = w2.heap.size := ⟨_, rfl⟩
          have hrW3 : W3.heap[BW3]? = some (Obj.cells #[Value.int .i64 a, Value.int .i64 s, Value.int .i64 kd, Value.string z, Value.string pl, Value.int .i64 vr, Value.int .i64 rk, Value.string rz, Value.string rb, Value.int .i64 st, Value.slice av1 l.length cap1, Value.int .i64 fr, Value.int .i64 (pd + free)] 43) := by rw [hW3, hBW3]; exact heap_alloc_new _ _
          have hlW3 : BW3 < W3.heap.size := by rw [hW3, hBW3]; simp
          have hbW3 : Below w.heap.size w W3 := by rw [hW3]; exact c2.alloc c2.size _
          have hb3 : Below w2.heap.size w2 W3 := by rw [hW3]; go_grown
          have g3 := (hb3.block BW0 hl2).trans g2
          have hl3 := Nat.lt_of_lt_of_le hl2 hb3.size
          have hs3 := hs2.at.below hb3
          rw [← hW3, ← hBW3]
          have G3 := Lib.hid g3
          clear hW3 hBW3 hrW3 g3 hb3 g2 hb2
          clear hs2
          refine (charge_yes l a s kd z pl vr rk rz rb st (.slice av1 l.length cap1) fr (pd + free) 0 paid W3 hs3 (by omega) (by omega) HX2.out).mono ?_
          rintro e' w4 ⟨av2, cap2, rfl, hs4, hb4⟩
          rw [HB.out]
          dsimp only
          have c4 := hbW3.trans (hb4.mono hbW3.size)
          have g4 := (hb4.block BW0 hl3).trans G3.out
          have hl4 := Nat.lt_of_lt_of_le hl3 hb4.size
          go_upto_region 8 with (fail)
          obtain ⟨W5, hW5⟩ : ∃ W5, W5 = w4.alloc (Obj.cells #[Value.int .i64 a, Value.int .i64 s, Value.int .i64 kd, Value.string z, Value.string pl, Value.int .i64 vr, Value.int .i64 rk, Value.string rz, Value.string rb, Value.int .i64 st, Value.slice av2 l.length cap2, Value.int .i64 fr, Value.int .i64 (pd + free + paid)] 43) := ⟨_, rfl⟩
          obtain ⟨BW5, hBW5⟩ : ∃ B, B = w4.heap.size := ⟨_, rfl⟩
          have hrW5 : W5.heap[BW5]? = some (Obj.cells #[Value.int .i64 a, Value.int .i64 s, Value.int .i64 kd, Value.string z, Value.string pl, Value.int .i64 vr, Value.int .i64 rk, Value.string rz, Value.string rb, Value.int .i64 st, Value.slice av2 l.length cap2, Value.int .i64 fr, Value.int .i64 (pd + free + paid)] 43) := by rw [hW5, hBW5]; exact heap_alloc_new _ _
          have hlW5 : BW5 < W5.heap.size := by rw [hW5, hBW5]; simp
          have hbW5 : Below w.heap.size w W5 := by rw [hW5]; exact c4.alloc c4.size _
          have hb5 : Below w4.heap.size w4 W5 := by rw [hW5]; go_grown
          have g5 := (hb5.block BW0 hl4).trans g4
          rw [← hW5, ← hBW5]
          have k0 : W5.cell? ⟨BW0, 0, none⟩ = some (Value.int .i64 a) := cell_of_row W5 _ 0 _ _ _ g5
          have k1 : W5.cell? ⟨BW0, 1, none⟩ = some (Value.int .i64 s) := cell_of_row W5 _ 1 _ _ _ g5
          have k2 : W5.cell? ⟨BW0, 2, none⟩ = some (Value.int .i64 kd) := cell_of_row W5 _ 2 _ _ _ g5
          have k3 : W5.cell? ⟨BW0, 3, none⟩ = some (Value.string z) := cell_of_row W5 _ 3 _ _ _ g5
          have k4 : W5.cell? ⟨BW0, 4, none⟩ = some (Value.string pl) := cell_of_row W5 _ 4 _ _ _ g5
          have k5 : W5.cell? ⟨BW0, 5, none⟩ = some (Value.int .i64 vr) := cell_of_row W5 _ 5 _ _ _ g5
          have k6 : W5.cell? ⟨BW0, 6, none⟩ = some (Value.int .i64 rk) := cell_of_row W5 _ 6 _ _ _ g5
          have k7 : W5.cell? ⟨BW0, 7, none⟩ = some (Value.string rz) := cell_of_row W5 _ 7 _ _ _ g5
          have k8 : W5.cell? ⟨BW0, 8, none⟩ = some (Value.string rb) := cell_of_row W5 _ 8 _ _ _ g5
          have k9 : W5.cell? ⟨BW0, 9, none⟩ = some (Value.int .i64 st) := cell_of_row W5 _ 9 _ _ _ g5
          have k10 : W5.cell? ⟨BW0, 10, none⟩ = some (Value.slice av l.length cap) := cell_of_row W5 _ 10 _ _ _ g5
          have k11 : W5.cell? ⟨BW0, 11, none⟩ = some (Value.int .i64 fr) := cell_of_row W5 _ 11 _ _ _ g5
          have k12 : W5.cell? ⟨BW0, 12, none⟩ = some (Value.int .i64 pd) := cell_of_row W5 _ 12 _ _ _ g5
          have n0 : W5.cell? ⟨BW5, 0, none⟩ = some (Value.int .i64 a) := cell_of_row W5 _ 0 _ _ _ hrW5
          have n1 : W5.cell? ⟨BW5, 1, none⟩ = some (Value.int .i64 s) := cell_of_row W5 _ 1 _ _ _ hrW5
          have n2 : W5.cell? ⟨BW5, 2, none⟩ = some (Value.int .i64 kd) := cell_of_row W5 _ 2 _ _ _ hrW5
          have n3 : W5.cell? ⟨BW5, 3, none⟩ = some (Value.string z) := cell_of_row W5 _ 3 _ _ _ hrW5
          have n4 : W5.cell? ⟨BW5, 4, none⟩ = some (Value.string pl) := cell_of_row W5 _ 4 _ _ _ hrW5
          have n5 : W5.cell? ⟨BW5, 5, none⟩ = some (Value.int .i64 vr) := cell_of_row W5 _ 5 _ _ _ hrW5
          have n6 : W5.cell? ⟨BW5, 6, none⟩ = some (Value.int .i64 rk) := cell_of_row W5 _ 6 _ _ _ hrW5
          have n7 : W5.cell? ⟨BW5, 7, none⟩ = some (Value.string rz) := cell_of_row W5 _ 7 _ _ _ hrW5
          have n8 : W5.cell? ⟨BW5, 8, none⟩ = some (Value.string rb) := cell_of_row W5 _ 8 _ _ _ hrW5
          have n9 : W5.cell? ⟨BW5, 9, none⟩ = some (Value.int .i64 st) := cell_of_row W5 _ 9 _ _ _ hrW5
          have n10 : W5.cell? ⟨BW5, 10, none⟩ = some (Value.slice av2 l.length cap2) := cell_of_row W5 _ 10 _ _ _ hrW5
          have n11 : W5.cell? ⟨BW5, 11, none⟩ = some (Value.int .i64 fr) := cell_of_row W5 _ 11 _ _ _ hrW5
          have n12 : W5.cell? ⟨BW5, 12, none⟩ = some (Value.int .i64 (pd + free + paid)) := cell_of_row W5 _ 12 _ _ _ hrW5
          clear hW5 hBW5 hrW5 g5 hb5 g4 hb4
          go_wp2_with fail
          refine (alive39_calls W5).mono ?_
          rintro e' w8 ⟨rfl, hb8⟩
          have c8 := hbW5.trans (hb8.mono hbW5.size)
          clear hb8
          clear k0 k1 k2 k3 k4 k5 k6 k7 k8 k9 k10 k11 k12 n0 n1 n2 n3 n4 n5 n6 n7 n8 n9 n10 n11 n12
          go_wp2
          go_ret
          exact ⟨rfl, c8⟩
        · have HX1 := Lib.hid (show chargeE l st pd fr 0 free = 6 by rw [chargeE, if_pos (by omega)])
          have HX2 := Lib.hid (zeroCharge g2 g4)
          clear hA hB
          have hcase : fr < 0 ∨ (0 ≤ fr ∧ 1099511627776 < fr) := by omega
          clear hfr
          rcases hcase with hfr | hfr
          all_goals
            go_enter Try.func10, Try.ntmps10
            go_wp2_with fail
            rw [← HW0.out, ← HB0.out]
            refine (qcost_pub l a s kd z pl vr rk rz rb st (.slice av l.length cap) fr pd (free + paid) W0 hs0 (by omega) (by omega)).mono ?_
            rintro e' w1 ⟨rfl, hb1⟩
            simp only [Hcm.out, mp_lit]
            have c1 := hbW0.trans (hb1.mono hbW0.size)
            have hs1 := hs0.below hb1
            have g1 := (hb1.block BW0 hlW0).trans Hr0.out
            have k0 : w1.cell? ⟨BW0, 0, none⟩ = some (Value.int .i64 a) := cell_of_row w1 _ 0 _ _ _ g1
            have k1 : w1.cell? ⟨BW0, 1, none⟩ = some (Value.int .i64 s) := cell_of_row w1 _ 1 _ _ _ g1
            have k2 : w1.cell? ⟨BW0, 2, none⟩ = some (Value.int .i64 kd) := cell_of_row w1 _ 2 _ _ _ g1
            have k3 : w1.cell? ⟨BW0, 3, none⟩ = some (Value.string z) := cell_of_row w1 _ 3 _ _ _ g1
            have k4 : w1.cell? ⟨BW0, 4, none⟩ = some (Value.string pl) := cell_of_row w1 _ 4 _ _ _ g1
            have k5 : w1.cell? ⟨BW0, 5, none⟩ = some (Value.int .i64 vr) := cell_of_row w1 _ 5 _ _ _ g1
            have k6 : w1.cell? ⟨BW0, 6, none⟩ = some (Value.int .i64 rk) := cell_of_row w1 _ 6 _ _ _ g1
            have k7 : w1.cell? ⟨BW0, 7, none⟩ = some (Value.string rz) := cell_of_row w1 _ 7 _ _ _ g1
            have k8 : w1.cell? ⟨BW0, 8, none⟩ = some (Value.string rb) := cell_of_row w1 _ 8 _ _ _ g1
            have k9 : w1.cell? ⟨BW0, 9, none⟩ = some (Value.int .i64 st) := cell_of_row w1 _ 9 _ _ _ g1
            have k10 : w1.cell? ⟨BW0, 10, none⟩ = some (Value.slice av l.length cap) := cell_of_row w1 _ 10 _ _ _ g1
            have k11 : w1.cell? ⟨BW0, 11, none⟩ = some (Value.int .i64 fr) := cell_of_row w1 _ 11 _ _ _ g1
            have k12 : w1.cell? ⟨BW0, 12, none⟩ = some (Value.int .i64 pd) := cell_of_row w1 _ 12 _ _ _ g1
            have G1 := Lib.hid g1
            have hl1 := Nat.lt_of_lt_of_le hlW0 hb1.size
            clear g1 hb1
            go_wp2_with fail
            refine (charge_no l a s kd z pl vr rk rz rb st (.slice av l.length cap) fr pd 0 free w1 hs1 (by omega) (by omega) 6 HX1.out (by omega)).mono ?_
            rintro e' w2 ⟨rfl, hb2⟩
            have c2 := c1.trans (hb2.mono c1.size)
            have g2 := (hb2.block BW0 hl1).trans G1.out
            have hl2 := Nat.lt_of_lt_of_le hl1 hb2.size
            clear k0 k1 k2 k3 k4 k5 k6 k7 k8 k9 k10 k11 k12
            go_wp2_with fail
            obtain ⟨W3, hW3⟩ : ∃ W3, W3 = w2.alloc (Obj.cells #[Value.int .i64 0, Value.int .i64 0, Value.int .i64 0, Value.string ⟨#[]⟩, Value.string ⟨#[]⟩, Value.int .i64 0, Value.int .i64 0, Value.string ⟨#[]⟩, Value.string ⟨#[]⟩, Value.int .i64 0, Value.slice none 0 0, Value.int .i64 0, Value.int .i64 0] 43) := ⟨_, rfl⟩
            obtain ⟨BW3, hBW3⟩ : ∃ B, B = w2.heap.size := ⟨_, rfl⟩
            have hrW3 : W3.heap[BW3]? = some (Obj.cells #[Value.int .i64 0, Value.int .i64 0, Value.int .i64 0, Value.string ⟨#[]⟩, Value.string ⟨#[]⟩, Value.int .i64 0, Value.int .i64 0, Value.string ⟨#[]⟩, Value.string ⟨#[]⟩, Value.int .i64 0, Value.slice none 0 0, Value.int .i64 0, Value.int .i64 0] 43) := by rw [hW3, hBW3]; exact heap_alloc_new _ _
            have hlW3 : BW3 < W3.heap.size := by rw [hW3, hBW3]; simp
            have hbW3 : Below w.heap.size w W3 := by rw [hW3]; exact c2.alloc c2.size _
            have hb3 : Below w2.heap.size w2 W3 := by rw [hW3]; go_grown
            have g3 := (hb3.block BW0 hl2).trans g2
            have hl3 := Nat.lt_of_lt_of_le hl2 hb3.size
            rw [← hW3, ← hBW3]
            have G3 := Lib.hid g3
            clear hW3 hBW3 hrW3 g3 hb3 g2 hb2
            refine (charge_no [] 0 0 0 ⟨#[]⟩ ⟨#[]⟩ 0 0 ⟨#[]⟩ ⟨#[]⟩ 0 (.slice none 0 0) 0 0 0 paid W3 ⟨none, 0, rfl, Nat.zero_le _, fun h => absurd rfl h⟩ (by omega) (by omega) 8 HX2.out (by omega)).mono ?_
            rintro e' w4 ⟨rfl, hb4⟩
            have c4 := hbW3.trans (hb4.mono hbW3.size)
            have g4 := (hb4.block BW0 hl3).trans G3.out
            have hl4 := Nat.lt_of_lt_of_le hl3 hb4.size
            go_upto_region 8 with (fail)
            obtain ⟨W5, hW5⟩ : ∃ W5, W5 = w4.alloc (Obj.cells #[Value.int .i64 0, Value.int .i64 0, Value.int .i64 0, Value.string ⟨#[]⟩, Value.string ⟨#[]⟩, Value.int .i64 0, Value.int .i64 0, Value.string ⟨#[]⟩, Value.string ⟨#[]⟩, Value.int .i64 0, Value.slice none 0 0, Value.int .i64 0, Value.int .i64 0] 43) := ⟨_, rfl⟩
            obtain ⟨BW5, hBW5⟩ : ∃ B, B = w4.heap.size := ⟨_, rfl⟩
            have hrW5 : W5.heap[BW5]? = some (Obj.cells #[Value.int .i64 0, Value.int .i64 0, Value.int .i64 0, Value.string ⟨#[]⟩, Value.string ⟨#[]⟩, Value.int .i64 0, Value.int .i64 0, Value.string ⟨#[]⟩, Value.string ⟨#[]⟩, Value.int .i64 0, Value.slice none 0 0, Value.int .i64 0, Value.int .i64 0] 43) := by rw [hW5, hBW5]; exact heap_alloc_new _ _
            have hlW5 : BW5 < W5.heap.size := by rw [hW5, hBW5]; simp
            have hbW5 : Below w.heap.size w W5 := by rw [hW5]; exact c4.alloc c4.size _
            have hb5 : Below w4.heap.size w4 W5 := by rw [hW5]; go_grown
            have g5 := (hb5.block BW0 hl4).trans g4
            rw [← hW5, ← hBW5]
            have k0 : W5.cell? ⟨BW0, 0, none⟩ = some (Value.int .i64 a) := cell_of_row W5 _ 0 _ _ _ g5
            have k1 : W5.cell? ⟨BW0, 1, none⟩ = some (Value.int .i64 s) := cell_of_row W5 _ 1 _ _ _ g5
            have k2 : W5.cell? ⟨BW0, 2, none⟩ = some (Value.int .i64 kd) := cell_of_row W5 _ 2 _ _ _ g5
            have k3 : W5.cell? ⟨BW0, 3, none⟩ = some (Value.string z) := cell_of_row W5 _ 3 _ _ _ g5
            have k4 : W5.cell? ⟨BW0, 4, none⟩ = some (Value.string pl) := cell_of_row W5 _ 4 _ _ _ g5
            have k5 : W5.cell? ⟨BW0, 5, none⟩ = some (Value.int .i64 vr) := cell_of_row W5 _ 5 _ _ _ g5
            have k6 : W5.cell? ⟨BW0, 6, none⟩ = some (Value.int .i64 rk) := cell_of_row W5 _ 6 _ _ _ g5
            have k7 : W5.cell? ⟨BW0, 7, none⟩ = some (Value.string rz) := cell_of_row W5 _ 7 _ _ _ g5
            have k8 : W5.cell? ⟨BW0, 8, none⟩ = some (Value.string rb) := cell_of_row W5 _ 8 _ _ _ g5
            have k9 : W5.cell? ⟨BW0, 9, none⟩ = some (Value.int .i64 st) := cell_of_row W5 _ 9 _ _ _ g5
            have k10 : W5.cell? ⟨BW0, 10, none⟩ = some (Value.slice av l.length cap) := cell_of_row W5 _ 10 _ _ _ g5
            have k11 : W5.cell? ⟨BW0, 11, none⟩ = some (Value.int .i64 fr) := cell_of_row W5 _ 11 _ _ _ g5
            have k12 : W5.cell? ⟨BW0, 12, none⟩ = some (Value.int .i64 pd) := cell_of_row W5 _ 12 _ _ _ g5
            have n0 : W5.cell? ⟨BW5, 0, none⟩ = some (Value.int .i64 0) := cell_of_row W5 _ 0 _ _ _ hrW5
            have n1 : W5.cell? ⟨BW5, 1, none⟩ = some (Value.int .i64 0) := cell_of_row W5 _ 1 _ _ _ hrW5
            have n2 : W5.cell? ⟨BW5, 2, none⟩ = some (Value.int .i64 0) := cell_of_row W5 _ 2 _ _ _ hrW5
            have n3 : W5.cell? ⟨BW5, 3, none⟩ = some (Value.string ⟨#[]⟩) := cell_of_row W5 _ 3 _ _ _ hrW5
            have n4 : W5.cell? ⟨BW5, 4, none⟩ = some (Value.string ⟨#[]⟩) := cell_of_row W5 _ 4 _ _ _ hrW5
            have n5 : W5.cell? ⟨BW5, 5, none⟩ = some (Value.int .i64 0) := cell_of_row W5 _ 5 _ _ _ hrW5
            have n6 : W5.cell? ⟨BW5, 6, none⟩ = some (Value.int .i64 0) := cell_of_row W5 _ 6 _ _ _ hrW5
            have n7 : W5.cell? ⟨BW5, 7, none⟩ = some (Value.string ⟨#[]⟩) := cell_of_row W5 _ 7 _ _ _ hrW5
            have n8 : W5.cell? ⟨BW5, 8, none⟩ = some (Value.string ⟨#[]⟩) := cell_of_row W5 _ 8 _ _ _ hrW5
            have n9 : W5.cell? ⟨BW5, 9, none⟩ = some (Value.int .i64 0) := cell_of_row W5 _ 9 _ _ _ hrW5
            have n10 : W5.cell? ⟨BW5, 10, none⟩ = some (Value.slice none 0 0) := cell_of_row W5 _ 10 _ _ _ hrW5
            have n11 : W5.cell? ⟨BW5, 11, none⟩ = some (Value.int .i64 0) := cell_of_row W5 _ 11 _ _ _ hrW5
            have n12 : W5.cell? ⟨BW5, 12, none⟩ = some (Value.int .i64 0) := cell_of_row W5 _ 12 _ _ _ hrW5
            clear hW5 hBW5 hrW5 g5 hb5 g4 hb4
            go_wp2_with fail
            refine (alive39_calls W5).mono ?_
            rintro e' w8 ⟨rfl, hb8⟩
            have c8 := hbW5.trans (hb8.mono hbW5.size)
            clear hb8
            clear k0 k1 k2 k3 k4 k5 k6 k7 k8 k9 k10 k11 k12 n0 n1 n2 n3 n4 n5 n6 n7 n8 n9 n10 n11 n12
            go_wp2
            go_ret
            exact ⟨rfl, c8⟩
      · have hz := costM_err he
        obtain ⟨ca, ce, hcm⟩ : ∃ ca ce, costM l st pd (free + paid) = (ca, ce) := ⟨_, _, rfl⟩
        rw [hcm] at he hz
        dsimp only at he hz
        subst hz
        have he2 : (ce != 0) = true := by rw [bne_iff_ne]; exact he
        have Hcm := Lib.hid hcm
        clear hcm he
        go_enter Try.func10, Try.ntmps10
        go_wp2_with fail
        rw [← HW0.out, ← HB0.out]
        refine (qcost_pub l a s kd z pl vr rk rz rb st (.slice av l.length cap) fr pd (free + paid) W0 hs0 (by omega) (by omega)).mono ?_
        rintro e' w1 ⟨rfl, hb1⟩
        simp only [Hcm.out, mp_lit]
        have c1 := hbW0.trans (hb1.mono hbW0.size)
        go_wp2_with fail
        refine (alive39_calls w1).mono ?_
        rintro e' w8 ⟨rfl, hb8⟩
        have c8 := c1.trans (hb8.mono c1.size)
        clear hb8
        go_wp2
        go_ret
        exact ⟨rfl, c8⟩
    · have hcase : free < 0 ∨ (0 ≤ free ∧ paid < 0) ∨ (0 ≤ free ∧ 0 ≤ paid ∧ 1099511627776 < free) ∨ (0 ≤ free ∧ 0 ≤ paid ∧ free ≤ 1099511627776 ∧ 1099511627776 < paid) := by omega
      clear hg
      rcases hcase with hg | hg | hg | hg
      all_goals
        go_enter Try.func10, Try.ntmps10
        go_wp2_with fail
        rw [← HW0.out]
        refine (alive39_calls W0).mono ?_
        rintro e' w1 ⟨rfl, hb1⟩
        have c1 := hbW0.trans (hb1.mono hbW0.size)
        go_wp2
        go_ret
        exact ⟨rfl, c1⟩
end Go.Proofs.Ytkipebdhagccbaa
