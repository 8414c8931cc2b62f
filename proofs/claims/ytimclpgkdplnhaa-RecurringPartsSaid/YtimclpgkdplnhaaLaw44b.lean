/-
  The law of a fee's parts: it returns true.
-/
import Derived.Test.YtimclpgkdplnhaaPlain44
import Derived.Test.YtimclpgkdplnhaaAlive44
namespace Go.Proofs.Ytimclpgkdplnhaa
open Go.RowKit

set_option maxRecDepth 100000 in
set_option maxHeartbeats 6400000 in
theorem parts44_law (fee f t day : Int) (w : World) (hday : -9223372036854775808 ≤ day ∧ day ≤ 9223372036854775807) :
    Calls Try.prog 4 #[.int .i64 fee, .agg #[.int .i64 f, .int .i64 t], .int .i64 day] w fun e w' => e = .returned (.bool true) ∧ Below w.heap.size w w' := by
  obtain ⟨W, hW⟩ : ∃ W, W = w.alloc (Obj.cells #[Value.int .i64 f, Value.int .i64 t] 23) := ⟨_, rfl⟩
  have hw0 : Below w.heap.size w W := by rw [hW]; exact (Below.refl _ _).alloc (Nat.le_refl _) _
  have rW : W.heap[w.heap.size]? = some (Obj.cells #[Value.int .i64 f, Value.int .i64 t] 23) := by rw [hW]; exact heap_alloc_new _ _
  have hzW : w.heap.size < W.heap.size := by rw [hW]; simp
  have HM := Lib.hid (show ∀ w', Below W.heap.size W w' → w'.cell? ⟨w.heap.size, 0, none⟩ = some (.int .i64 f) ∧ w'.cell? ⟨w.heap.size, 1, none⟩ = some (.int .i64 t) from fun w' hb => by
    have q := (hb.block _ hzW).trans rW
    exact ⟨cell_of_row w' _ 0 _ _ _ q, cell_of_row w' _ 1 _ _ _ q⟩)
  have HW := Lib.hid hW
  have Hv := Lib.hid (rvalid_calls f t W)
  have Ha := Lib.hid (fun w1 => ramvalid_calls fee w1)
  clear hW rW
  obtain ⟨m0, m1⟩ := HM.out W (Below.refl _ _)
  cases hv : validB f t with
  | false =>
    rw [hv] at Hv
    clear hv
    go_enter Try.func4, Try.ntmps4
    go_upto_region 1 with (fail)
    rw [← HW.out]
    go_wp2_with fail
    refine Hv.out.mono ?_
    rintro e w1 ⟨rfl, hb1⟩
    clear m0 m1
    go_wp2_with fail
    refine (alive44_calls w1).mono ?_
    rintro e w9 ⟨rfl, hbx⟩
    have hb9 := hb1.trans (hbx.mono hb1.size)
    go_wp2
    go_ret
    exact ⟨rfl, hw0.trans (hb9.mono hw0.size)⟩
  | true =>
    rw [hv] at Hv
    cases hav : amB fee with
    | false =>
      rw [hav] at Ha
      clear hav hv
      go_enter Try.func4, Try.ntmps4
      go_upto_region 1 with (fail)
      rw [← HW.out]
      go_wp2_with fail
      refine Hv.out.mono ?_
      rintro e w1 ⟨rfl, hb1⟩
      go_wp2_with fail
      refine (Ha.out w1).mono ?_
      rintro e w2 ⟨rfl, hbx⟩
      have hb2 := hb1.trans (hbx.mono hb1.size)
      clear hbx m0 m1
      obtain ⟨m0, m1⟩ := HM.out w2 hb2
      go_wp2_with fail
      refine (alive44_calls w2).mono ?_
      rintro e w9 ⟨rfl, hbx⟩
      have hb9 := hb2.trans (hbx.mono hb2.size)
      go_wp2
      go_ret
      exact ⟨rfl, hw0.trans (hb9.mono hw0.size)⟩
    | true =>
      rw [hav] at Ha
      have h0 := (validB_iff f t).1 hv
      have hfee := (amB_iff fee).1 hav
      have PW := Lib.hid (pro_whole fee f t hav hv)
      by_cases h1 : day < 0
      · have k1 : decide (day < 0) = true := decide_eq_true h1
        clear hv hav
        go_enter Try.func4, Try.ntmps4
        go_upto_region 1 with (fail)
        rw [← HW.out]
        go_wp2_with fail
        refine Hv.out.mono ?_
        rintro e w1 ⟨rfl, hb1⟩
        go_wp2_with fail
        refine (Ha.out w1).mono ?_
        rintro e w2 ⟨rfl, hbx⟩
        have hb2 := hb1.trans (hbx.mono hb1.size)
        clear hbx m0 m1
        obtain ⟨m0, m1⟩ := HM.out w2 hb2
        have HP3 := Lib.hid (show PersAt (w2.alloc (Obj.cells #[.int .i64 f, .int .i64 t] 23)) (.slice (some ⟨w2.heap.size, 0, none⟩) 1 1) [(f, t)] from pers_block w2 [(f, t)] (show 1 ≤ maxLen by decide))
        have HC3 := Lib.hid (prorate_calls fee f t _ _ _ HP3.out (by simp))
        rw [PW.out] at HC3
        go_wp2_with fail
        refine HC3.out.mono ?_
        rintro e w3 ⟨he, hbx⟩
        obtain rfl : e = .returned (.tuple #[.int .i64 fee, .int .i64 0]) := he
        have hb3 := hb2.trans ((((Below.refl _ _).alloc (Nat.le_refl _) _).trans (hbx.mono (by simp))).mono hb2.size)
        clear hbx m0 m1
        obtain ⟨m0, m1⟩ := HM.out w3 hb3
        go_wp2_with fail
        refine (alive44_calls w3).mono ?_
        rintro e w9 ⟨rfl, hbx⟩
        have hb9 := hb3.trans (hbx.mono hb3.size)
        go_wp2
        go_ret
        exact ⟨rfl, hw0.trans (hb9.mono hw0.size)⟩
      · have k1 : decide (day < 0) = false := decide_eq_false h1
        by_cases h2 : 146097 < day
        · have k2 : decide (146097 < day) = true := decide_eq_true h2
          clear hv hav
          go_enter Try.func4, Try.ntmps4
          go_upto_region 1 with (fail)
          rw [← HW.out]
          go_wp2_with fail
          refine Hv.out.mono ?_
          rintro e w1 ⟨rfl, hb1⟩
          go_wp2_with fail
          refine (Ha.out w1).mono ?_
          rintro e w2 ⟨rfl, hbx⟩
          have hb2 := hb1.trans (hbx.mono hb1.size)
          clear hbx m0 m1
          obtain ⟨m0, m1⟩ := HM.out w2 hb2
          have HP3 := Lib.hid (show PersAt (w2.alloc (Obj.cells #[.int .i64 f, .int .i64 t] 23)) (.slice (some ⟨w2.heap.size, 0, none⟩) 1 1) [(f, t)] from pers_block w2 [(f, t)] (show 1 ≤ maxLen by decide))
          have HC3 := Lib.hid (prorate_calls fee f t _ _ _ HP3.out (by simp))
          rw [PW.out] at HC3
          go_wp2_with fail
          refine HC3.out.mono ?_
          rintro e w3 ⟨he, hbx⟩
          obtain rfl : e = .returned (.tuple #[.int .i64 fee, .int .i64 0]) := he
          have hb3 := hb2.trans ((((Below.refl _ _).alloc (Nat.le_refl _) _).trans (hbx.mono (by simp))).mono hb2.size)
          clear hbx m0 m1
          obtain ⟨m0, m1⟩ := HM.out w3 hb3
          go_wp2_with fail
          refine (alive44_calls w3).mono ?_
          rintro e w9 ⟨rfl, hbx⟩
          have hb9 := hb3.trans (hbx.mono hb3.size)
          go_wp2
          go_ret
          exact ⟨rfl, hw0.trans (hb9.mono hw0.size)⟩
        · have k2 : decide (146097 < day) = false := decide_eq_false h2
          have hwd : IntKind.i64.wrap (day * 86400) = day * 86400 := IntWalk.i64_in _ (by omega)
          by_cases h3 : day * 86400 ≤ f
          · have k3 : decide (day * 86400 ≤ f) = true := decide_eq_true h3
            clear hv hav
            go_enter Try.func4, Try.ntmps4
            go_upto_region 1 with (fail)
            rw [← HW.out]
            go_wp2_with fail
            refine Hv.out.mono ?_
            rintro e w1 ⟨rfl, hb1⟩
            go_wp2_with fail
            refine (Ha.out w1).mono ?_
            rintro e w2 ⟨rfl, hbx⟩
            have hb2 := hb1.trans (hbx.mono hb1.size)
            clear hbx m0 m1
            obtain ⟨m0, m1⟩ := HM.out w2 hb2
            have HP3 := Lib.hid (show PersAt (w2.alloc (Obj.cells #[.int .i64 f, .int .i64 t] 23)) (.slice (some ⟨w2.heap.size, 0, none⟩) 1 1) [(f, t)] from pers_block w2 [(f, t)] (show 1 ≤ maxLen by decide))
            have HC3 := Lib.hid (prorate_calls fee f t _ _ _ HP3.out (by simp))
            rw [PW.out] at HC3
            go_wp2_with fail
            refine HC3.out.mono ?_
            rintro e w3 ⟨he, hbx⟩
            obtain rfl : e = .returned (.tuple #[.int .i64 fee, .int .i64 0]) := he
            have hb3 := hb2.trans ((((Below.refl _ _).alloc (Nat.le_refl _) _).trans (hbx.mono (by simp))).mono hb2.size)
            clear hbx m0 m1
            obtain ⟨m0, m1⟩ := HM.out w3 hb3
            go_wp2_with fail
            refine (alive44_calls w3).mono ?_
            rintro e w9 ⟨rfl, hbx⟩
            have hb9 := hb3.trans (hbx.mono hb3.size)
            go_wp2
            go_ret
            exact ⟨rfl, hw0.trans (hb9.mono hw0.size)⟩
          · have k3 : decide (day * 86400 ≤ f) = false := decide_eq_false h3
            by_cases h4 : t ≤ day * 86400
            · have k4 : decide (t ≤ day * 86400) = true := decide_eq_true h4
              clear hv hav
              go_enter Try.func4, Try.ntmps4
              go_upto_region 1 with (fail)
              rw [← HW.out]
              go_wp2_with fail
              refine Hv.out.mono ?_
              rintro e w1 ⟨rfl, hb1⟩
              go_wp2_with fail
              refine (Ha.out w1).mono ?_
              rintro e w2 ⟨rfl, hbx⟩
              have hb2 := hb1.trans (hbx.mono hb1.size)
              clear hbx m0 m1
              obtain ⟨m0, m1⟩ := HM.out w2 hb2
              have HP3 := Lib.hid (show PersAt (w2.alloc (Obj.cells #[.int .i64 f, .int .i64 t] 23)) (.slice (some ⟨w2.heap.size, 0, none⟩) 1 1) [(f, t)] from pers_block w2 [(f, t)] (show 1 ≤ maxLen by decide))
              have HC3 := Lib.hid (prorate_calls fee f t _ _ _ HP3.out (by simp))
              rw [PW.out] at HC3
              go_wp2_with fail
              refine HC3.out.mono ?_
              rintro e w3 ⟨he, hbx⟩
              obtain rfl : e = .returned (.tuple #[.int .i64 fee, .int .i64 0]) := he
              have hb3 := hb2.trans ((((Below.refl _ _).alloc (Nat.le_refl _) _).trans (hbx.mono (by simp))).mono hb2.size)
              clear hbx m0 m1
              obtain ⟨m0, m1⟩ := HM.out w3 hb3
              go_wp2_with fail
              refine (alive44_calls w3).mono ?_
              rintro e w9 ⟨rfl, hbx⟩
              have hb9 := hb3.trans (hbx.mono hb3.size)
              go_wp2
              go_ret
              exact ⟨rfl, hw0.trans (hb9.mono hw0.size)⟩
            · have k4 : decide (t ≤ day * 86400) = false := decide_eq_false h4
              have PP := pro_parts fee f t day hav hv (by omega) (by omega)
              have PA := Lib.hid (show ∃ V, V = proV fee f t [(f, day * 86400)] from ⟨_, rfl⟩)
              have PB := Lib.hid (show ∃ V, V = proV fee f t [(day * 86400, t)] from ⟨_, rfl⟩)
              obtain ⟨VA, hVA⟩ := PA.out
              obtain ⟨VB, hVB⟩ := PB.out
              rw [← hVA, ← hVB] at PP
              have HVA := Lib.hid hVA
              have HVB := Lib.hid hVB
              obtain ⟨x, xe⟩ := VA
              obtain ⟨y, ye⟩ := VB
              dsimp only at PP
              obtain ⟨rfl, rfl, p3, p4, p5, p6, p7, p8⟩ := PP
              clear PA PB hVA hVB hv hav
              have wa : IntKind.i64.wrap (x + y) = x + y := IntWalk.i64_in _ (by omega)
              have wb : IntKind.i64.wrap (fee - 1) = fee - 1 := IntWalk.i64_in _ (by omega)
              have wc : IntKind.i64.wrap (fee + 1) = fee + 1 := IntWalk.i64_in _ (by omega)
              have k5 : decide (fee - 1 ≤ x + y) = true := decide_eq_true p3
              have k6 : decide (x + y ≤ fee + 1) = true := decide_eq_true p4
              go_enter Try.func4, Try.ntmps4
              go_upto_region 1 with (fail)
              rw [← HW.out]
              go_wp2_with fail
              refine Hv.out.mono ?_
              rintro e w1 ⟨rfl, hb1⟩
              go_wp2_with fail
              refine (Ha.out w1).mono ?_
              rintro e w2 ⟨rfl, hbx⟩
              have hb2 := hb1.trans (hbx.mono hb1.size)
              clear hbx m0 m1
              obtain ⟨m0, m1⟩ := HM.out w2 hb2
              have HP3 := Lib.hid (show PersAt (w2.alloc (Obj.cells #[.int .i64 f, .int .i64 t] 23)) (.slice (some ⟨w2.heap.size, 0, none⟩) 1 1) [(f, t)] from pers_block w2 [(f, t)] (show 1 ≤ maxLen by decide))
              have HC3 := Lib.hid (prorate_calls fee f t _ _ _ HP3.out (by simp))
              rw [PW.out] at HC3
              go_wp2_with fail
              refine HC3.out.mono ?_
              rintro e w3 ⟨he, hbx⟩
              obtain rfl : e = .returned (.tuple #[.int .i64 fee, .int .i64 0]) := he
              have hb3 := hb2.trans ((((Below.refl _ _).alloc (Nat.le_refl _) _).trans (hbx.mono (by simp))).mono hb2.size)
              clear hbx m0 m1
              obtain ⟨m0, m1⟩ := HM.out w3 hb3
              have HP4 := Lib.hid (show PersAt (w3.alloc (Obj.cells #[.int .i64 f, .int .i64 (day * 86400)] 23)) (.slice (some ⟨w3.heap.size, 0, none⟩) 1 1) [(f, day * 86400)] from pers_block w3 [(f, day * 86400)] (show 1 ≤ maxLen by decide))
              have HC4 := Lib.hid (prorate_calls fee f t _ _ _ HP4.out (by simp))
              rw [← HVA.out] at HC4
              go_wp2_with fail
              refine HC4.out.mono ?_
              rintro e w4 ⟨he, hbx⟩
              obtain rfl : e = .returned (.tuple #[.int .i64 x, .int .i64 0]) := he
              have hb4 := hb3.trans ((((Below.refl _ _).alloc (Nat.le_refl _) _).trans (hbx.mono (by simp))).mono hb3.size)
              clear hbx m0 m1
              obtain ⟨m0, m1⟩ := HM.out w4 hb4
              have HP5 := Lib.hid (show PersAt (w4.alloc (Obj.cells #[.int .i64 (day * 86400), .int .i64 t] 23)) (.slice (some ⟨w4.heap.size, 0, none⟩) 1 1) [(day * 86400, t)] from pers_block w4 [(day * 86400, t)] (show 1 ≤ maxLen by decide))
              have HC5 := Lib.hid (prorate_calls fee f t _ _ _ HP5.out (by simp))
              rw [← HVB.out] at HC5
              go_wp2_with fail
              refine HC5.out.mono ?_
              rintro e w5 ⟨he, hbx⟩
              obtain rfl : e = .returned (.tuple #[.int .i64 y, .int .i64 0]) := he
              have hb5 := hb4.trans ((((Below.refl _ _).alloc (Nat.le_refl _) _).trans (hbx.mono (by simp))).mono hb4.size)
              clear hbx m0 m1
              obtain ⟨m0, m1⟩ := HM.out w5 hb5
              go_wp2_with fail
              refine (alive44_calls w5).mono ?_
              rintro e w9 ⟨rfl, hbx⟩
              have hb9 := hb5.trans (hbx.mono hb5.size)
              go_wp2
              go_ret
              exact ⟨rfl, hw0.trans (hb9.mono hw0.size)⟩
end Go.Proofs.Ytimclpgkdplnhaa
