/-
  The law of the cuts: it returns true.
-/
import Derived.Test.YtimclpgkdplnhaaAwake04
import Derived.Test.YtimclpgkdplnhaaRCut04
import Derived.Test.YtimclpgkdplnhaaR04e
namespace Go.Proofs.Ytimclpgkdplnhaa
open Go.RowKit

set_option maxRecDepth 100000 in
set_option maxHeartbeats 6400000 in
theorem cuts_law (f t : Int) (va : Value) (l : List Int) (w : World) (ha : IcsAt w va l) :
    Calls Try.prog 6 #[.agg #[.int .i64 f, .int .i64 t], va] w fun e w' => e = .returned (.bool true) ∧ Below w.heap.size w w' := by
  have ha' := ha
  obtain ⟨av, cap, rfl, -⟩ := ha
  obtain ⟨W, hW⟩ : ∃ W, W = w.alloc (Obj.cells #[Value.int .i64 f, Value.int .i64 t] 23) := ⟨_, rfl⟩
  have hw0 : Below w.heap.size w W := by rw [hW]; exact (Below.refl _ _).alloc (Nat.le_refl _) _
  have rW : W.heap[w.heap.size]? = some (Obj.cells #[Value.int .i64 f, Value.int .i64 t] 23) := by rw [hW]; exact heap_alloc_new _ _
  have hzW : w.heap.size < W.heap.size := by rw [hW]; simp
  have HM := Lib.hid (show ∀ w', Below W.heap.size W w' → w'.cell? ⟨w.heap.size, 0, none⟩ = some (.int .i64 f) ∧ w'.cell? ⟨w.heap.size, 1, none⟩ = some (.int .i64 t) from fun w' hb => by
    have q := (hb.block _ hzW).trans rW
    exact ⟨cell_of_row w' _ 0 _ _ _ q, cell_of_row w' _ 1 _ _ _ q⟩)
  have HW := Lib.hid hW
  clear hW rW
  by_cases h1 : l.length ≤ 60
  · have k1 : decide ((60 : Int) < (l.length : Int)) = false := decide_eq_false (by omega)
    have k2 : ¬ (60 : Int) < (l.length : Int) := by omega
    have k3 : decide (60 < l.length) = false := decide_eq_false (by omega)
    have k4 : (l.length : Int) ≤ 60 := by omega
    have HC := Lib.hid (fun w1 (hb : Below W.heap.size W w1) => cut_calls f t _ l w1 ((ha'.below hw0).below hb) (by omega))
    have HR := Lib.hid (fun w1 (hb : Below W.heap.size W w1) => rcut_calls f t _ l w1 ((ha'.below hw0).below hb) (by omega))
    have HIN := Lib.hid (cut_in f t l)
    have HB := Lib.hid (fun k => totL_bound ((cutL f t l).take k) (fun q h => cut_in f t l q (List.mem_of_mem_take h)))
    have HT := Lib.hid (cut_total f t l)
    have hlen : (cutL f t l).length ≤ 100 := by
      unfold cutL
      split
      · rw [prUpto_len]; have := cutEnds_len f t l; omega
      · simp
    generalize cutL f t l = C at *
    obtain ⟨m0, m1⟩ := HM.out W (Below.refl _ _)
    go_enter Try.func6, Try.ntmps6
    go_upto_region 1 with (fail)
    rw [← HW.out]
    go_wp2_with fail
    refine (HC.out W (Below.refl _ _)).mono ?_
    rintro e w1 ⟨v1, rfl, hp1, hb1⟩
    have HP1 := Lib.hid hp1
    obtain ⟨a1, c1, rfl, hlc1, hm1, -⟩ := hp1
    have hm1 := hm1.1
    unfold maxLen at hm1
    clear m0 m1
    obtain ⟨m0, m1⟩ := HM.out w1 hb1
    go_wp2_with fail
    refine (HR.out w1 hb1).mono ?_
    rintro e w2 ⟨v2, rfl, hp2, hb12⟩
    have hb2 := hb1.trans (hb12.mono hb1.size)
    have HS := Lib.hid (rsame_calls _ _ C C w2 (HP1.out.below hb12) hp2)
    rw [decide_eq_true rfl] at HS
    obtain ⟨a2, c2, rfl, -⟩ := hp2
    clear m0 m1
    go_wp2_with fail
    refine HS.out.mono ?_
    rintro e w3 ⟨rfl, hbx⟩
    have hb3 := hb2.trans (hbx.mono hb2.size)
    have h13 := hb12.trans (hbx.mono hb12.size)
    clear hbx
    obtain ⟨m0, m1⟩ := HM.out w3 hb3
    go_wp2_with fail
    go_loopw [6, 7] (fun n i wr => ∃ k : Nat, k ≤ C.length ∧ i = .int .i64 k ∧ n = .int .i64 (totL (C.take k)) ∧ Below w3.heap.size w3 wr) (fun _ i _ => C.length - (intOf i).toNat)
    case atStart => exact ⟨0, Nat.zero_le _, rfl, rfl, Below.refl _ _⟩
    case round =>
      obtain ⟨k, hk, rfl, rfl, hb⟩ := hrel
      have hbd := HB.out k
      rw [List.length_take] at hbd
      by_cases hlt : k < C.length
      · obtain ⟨av2, cap2, e2, -, -, hx⟩ := HP1.out.below (h13.trans (hb.mono h13.size))
        cases e2
        obtain ⟨b, o, rfl, hB, hx⟩ := hx (by rintro rfl; cases hlt)
        obtain ⟨c0, c1⟩ := hx k hlt
        have hk0 : (0 : Int) ≤ (k : Int) := Int.natCast_nonneg _
        have hk1 : (k : Int) < (C.length : Int) := by omega
        have HS2 := Lib.hid (totL_take C k hlt)
        have hq := HIN.out C[k] (List.getElem_mem hlt)
        clear hx m0 m1
        generalize C[k] = q at *
        obtain ⟨x, y⟩ := q
        dsimp only at *
        generalize totL (C.take k) = n at *
        obtain ⟨hn0, hn1⟩ := hbd
        have hn2 : n ≤ 100 * 12622780800 := by omega
        clear hn1
        go_wp2_with fail
        go_quiet (fail)
        go_wp2
        exact ⟨⟨k + 1, by omega, by go_num, by rw [HS2.out], below_drewN2 hb _⟩, by simp [intOf]; omega⟩
      · rw [List.take_of_length_le (by omega)] at hbd
        rw [List.take_of_length_le (by omega)]
        have hbW := hb3.trans (hb.mono hb3.size)
        clear m0 m1
        obtain ⟨m0, m1⟩ := HM.out wr hbW
        have HV := Lib.hid (rvalid_calls f t wr)
        cases hv : validB f t with
        | false =>
          rw [hv] at HV
          clear hv
          go_wp2_with fail
          refine HV.out.mono ?_
          rintro e w5 ⟨rfl, hbx⟩
          have hb5 := hbW.trans (hbx.mono hbW.size)
          clear hbx
          go_wp2_with fail
          refine (awake_calls w5).mono ?_
          rintro e w6 ⟨rfl, hbx⟩
          have hb6 := hb5.trans (hbx.mono hb5.size)
          go_wp2
          go_ret
          exact ⟨rfl, hw0.trans (hb6.mono hw0.size)⟩
        | true =>
          rw [hv] at HV
          have hT := HT.out hv
          have hvv := (validB_iff f t).1 hv
          clear hv
          rw [hT]
          have hwp : IntKind.i64.wrap (t - f) = t - f := IntWalk.i64_in _ (by omega)
          go_wp2_with fail
          refine HV.out.mono ?_
          rintro e w5 ⟨rfl, hbx⟩
          have hb5 := hbW.trans (hbx.mono hbW.size)
          clear hbx m0 m1
          obtain ⟨m0, m1⟩ := HM.out w5 hb5
          go_wp2_with fail
          refine (awake_calls w5).mono ?_
          rintro e w6 ⟨rfl, hbx⟩
          have hb6 := hb5.trans (hbx.mono hb5.size)
          go_wp2
          go_ret
          exact ⟨rfl, hw0.trans (hb6.mono hw0.size)⟩
  · have k1 : decide ((60 : Int) < (l.length : Int)) = true := decide_eq_true (by omega)
    have k2 : (60 : Int) < (l.length : Int) := by omega
    have k3 : decide (60 < l.length) = true := decide_eq_true (by omega)
    go_enter Try.func6, Try.ntmps6
    go_upto_region 1 with (fail)
    rw [← HW.out]
    go_wp2_with fail
    refine (awake_calls W).mono ?_
    rintro e w7 ⟨rfl, hbx⟩
    go_wp2
    go_ret
    exact ⟨rfl, hw0.trans (hbx.mono hw0.size)⟩
end Go.Proofs.Ytimclpgkdplnhaa
