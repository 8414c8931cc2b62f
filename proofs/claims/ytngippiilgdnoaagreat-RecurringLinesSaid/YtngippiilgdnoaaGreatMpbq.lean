/-
  The walks of Prorate, the program's and the reference's.
  The walk of the laws' alive of chapter 44, and of the law of Prorate: they return true.
-/
import Derived.Test.YtngippiilgdnoaaGreatMpbe
import Derived.Test.YtngippiilgdnoaaGreatMpal
import Derived.Test.YtngippiilgdnoaaGreatMpaj
import Derived.Test.YtngippiilgdnoaaGreatMpak
import Derived.Test.YtngippiilgdnoaaGreatMpbp
namespace Go.Proofs.YtngippiilgdnoaaGreat
open Go.RowKit

/-- What the days of a cycle that are touched cost. -/
def proV (fee f t : Int) (a : List (Int × Int)) : Int × Int := if validB f t = true then scaleV fee (daysF (chooseL a [(f, t)] false true)).1 (daysF [(f, t)]).1 else (0, 8)
theorem common_turn (a b : List (Int × Int)) : chooseL a b false true = chooseL b a false true :=
  choose_same fun x => by
    unfold selB
    cases inL a x <;> cases inL b x <;> rfl
theorem can_one (f t : Int) (h : f < t) : Can [(f, t)] := ⟨h, fun q hq => (by cases hq), trivial⟩
theorem int_one (f t : Int) (h : 0 ≤ f ∧ f < t ∧ t ≤ 12622780800) : InT [(f, t)] := fun q hq => by
  obtain rfl := List.mem_singleton.1 hq
  exact h

set_option maxRecDepth 100000 in
set_option maxHeartbeats 3200000 in
theorem prorate_calls (fee f t : Int) (va : Value) (a : List (Int × Int)) (w : World) (ha : PersAt w va a) (hn : a.length ≤ 1000) :
    Calls Tryz.prog 39 #[.int .i64 fee, .agg #[.int .i64 f, .int .i64 t], va] w fun e w' => e = .returned (pairT (proV fee f t a)) ∧ Below w.heap.size w w' := by
  obtain ⟨W, hW⟩ : ∃ W, W = w.alloc (Obj.cells #[Value.int .i64 f, Value.int .i64 t] 25) := ⟨_, rfl⟩
  have hw0 : Below w.heap.size w W := by rw [hW]; exact (Below.refl _ _).alloc (Nat.le_refl _) _
  have rW : W.heap[w.heap.size]? = some (Obj.cells #[Value.int .i64 f, Value.int .i64 t] 25) := by rw [hW]; exact heap_alloc_new _ _
  have hzW : w.heap.size < W.heap.size := by rw [hW]; simp
  have HM := Lib.hid (show ∀ w', Below W.heap.size W w' → w'.cell? ⟨w.heap.size, 0, none⟩ = some (.int .i64 f) ∧ w'.cell? ⟨w.heap.size, 1, none⟩ = some (.int .i64 t) from fun w' hb => by
    have q := (hb.block _ hzW).trans rW
    exact ⟨cell_of_row w' _ 0 _ _ _ q, cell_of_row w' _ 1 _ _ _ q⟩)
  have HW := Lib.hid hW
  have Hv := Lib.hid (valid_calls f t W)
  have ha' := ha
  obtain ⟨aa, ca, rfl, -⟩ := ha
  clear hW rW
  obtain ⟨m0, m1⟩ := HM.out W (Below.refl _ _)
  cases hv : validB f t with
  | false =>
    rw [hv] at Hv
    rw [show proV fee f t a = (0, 8) by unfold proV; rw [if_neg (by rw [hv]; decide)]]
    clear hv
    go_enter Tryz.func39, Tryz.ntmps39
    go_upto_region 1 with (fail)
    rw [← HW.out]
    go_wp2_with fail
    refine Hv.out.mono ?_
    rintro e w1 ⟨rfl, hb1⟩
    clear m0 m1
    go_wp2
    go_ret2
    exact ⟨rfl, hw0.trans (hb1.mono hw0.size)⟩
  | true =>
    rw [hv] at Hv
    have h0 := (validB_iff f t).1 hv
    rw [show proV fee f t a = scaleV fee (daysF (chooseL [(f, t)] a false true)).1 (daysF [(f, t)]).1 by unfold proV; rw [if_pos hv, common_turn]]
    have hin := choose_in [(f, t)] a false true
    have hcan := (choose_law [(f, t)] a false true).1
    have hlen := choose_len [(f, t)] a false true
    simp only [List.length_cons, List.length_nil] at hlen
    have h1i := int_one f t h0
    have h1c := can_one f t h0.2.1
    have EW := Lib.hid (fun w1 v (h : PersAt w1 v [(f, t)]) => count_calls v [(f, t)] w1 h (by simp) h1i h1c)
    have E2 := Lib.hid (fun w1 v (h : PersAt w1 v (chooseL [(f, t)] a false true)) => count_calls v _ w1 h (by omega) hin hcan)
    have ES := Lib.hid (fun w1 => scale_calls fee (daysF (chooseL [(f, t)] a false true)).1 (daysF [(f, t)]).1 w1)
    have E1 := Lib.hid (fun w1 v1 v2 (h1 : PersAt w1 v1 [(f, t)]) (h2 : PersAt w1 v2 a) => pcommon_calls v1 v2 [(f, t)] a w1 h1 h2 (by simp; omega))
    generalize chooseL [(f, t)] a false true = C at *
    generalize (daysF [(f, t)]).1 = dw at *
    generalize (daysF C).1 = dc at *
    clear hv hin hcan hlen h1i h1c h0
    generalize scaleV fee dc dw = V at *
    obtain ⟨x, y⟩ := V
    have ES := Lib.hid (show ∀ w1, Calls Tryz.prog 74 #[.int .i64 fee, .int .i64 dc, .int .i64 dw] w1 fun e w' => e = .returned (.tuple #[.int .i64 x, .int .i64 y]) ∧ Below w1.heap.size w1 w' from ES.out)
    go_enter Tryz.func39, Tryz.ntmps39
    go_upto_region 1 with (fail)
    rw [← HW.out]
    go_wp2_with fail
    refine Hv.out.mono ?_
    rintro e w1 ⟨rfl, hb1⟩
    clear m0 m1
    obtain ⟨m0, m1⟩ := HM.out w1 hb1
    have hb1w := hw0.trans (hb1.mono hw0.size)
    have hp1 := pers_block w1 [(f, t)] (show 1 ≤ maxLen by decide)
    have HP1 := Lib.hid (show PersAt (w1.alloc (Obj.cells #[.int .i64 f, .int .i64 t] 25)) (.slice (some ⟨w1.heap.size, 0, none⟩) 1 1) [(f, t)] from hp1)
    clear hp1
    obtain ⟨X, hX⟩ : ∃ X, X = w1.alloc (Obj.cells #[.int .i64 f, .int .i64 t] 25) := ⟨_, rfl⟩
    have hbX : Below w1.heap.size w1 X := by rw [hX]; exact (Below.refl _ _).alloc (Nat.le_refl _) _
    rw [← hX] at HP1
    have HX := Lib.hid hX
    have hbXw := hb1w.trans (hbX.mono hb1w.size)
    have H1 := Lib.hid (E1.out X _ _ HP1.out (ha'.below hbXw))
    clear hX
    go_upto_region 4 with (fail)
    rw [← HX.out]
    clear m0 m1
    go_wp2_with fail
    refine H1.out.mono ?_
    rintro e w2 ⟨v2, rfl, hp2, hb2⟩
    have HP2 := Lib.hid hp2
    have hb2w := hbXw.trans (hb2.mono hbXw.size)
    have H2 := Lib.hid (E2.out w2 v2 hp2)
    obtain ⟨a2, c2, rfl, -⟩ := hp2
    go_wp2_with fail
    refine H2.out.mono ?_
    rintro e w3 ⟨rfl, hb3⟩
    have hb3w := hb2w.trans (hb3.mono hb2w.size)
    have h23 := hb2.trans (hb3.mono hb2.size)
    have H3 := Lib.hid (EW.out w3 _ (HP1.out.below h23))
    go_wp2_with fail
    refine H3.out.mono ?_
    rintro e w4 ⟨rfl, hb4⟩
    have hb4w := hb3w.trans (hb4.mono hb3w.size)
    go_wp2_with fail
    refine (ES.out w4).mono ?_
    rintro e w5 ⟨rfl, hb5⟩
    go_wp2
    go_ret2
    exact ⟨rfl, hb4w.trans (hb5.mono hb4w.size)⟩
set_option maxRecDepth 100000 in
set_option maxHeartbeats 3200000 in
theorem rprorate_calls (fee f t : Int) (va : Value) (a : List (Int × Int)) (w : World) (ha : PersAt w va a) (hn : a.length ≤ 1000) :
    Calls Tryz.prog 44 #[.int .i64 fee, .agg #[.int .i64 f, .int .i64 t], va] w fun e w' => e = .returned (pairT (proV fee f t a)) ∧ Below w.heap.size w w' := by
  obtain ⟨W, hW⟩ : ∃ W, W = w.alloc (Obj.cells #[Value.int .i64 f, Value.int .i64 t] 25) := ⟨_, rfl⟩
  have hw0 : Below w.heap.size w W := by rw [hW]; exact (Below.refl _ _).alloc (Nat.le_refl _) _
  have rW : W.heap[w.heap.size]? = some (Obj.cells #[Value.int .i64 f, Value.int .i64 t] 25) := by rw [hW]; exact heap_alloc_new _ _
  have hzW : w.heap.size < W.heap.size := by rw [hW]; simp
  have HM := Lib.hid (show ∀ w', Below W.heap.size W w' → w'.cell? ⟨w.heap.size, 0, none⟩ = some (.int .i64 f) ∧ w'.cell? ⟨w.heap.size, 1, none⟩ = some (.int .i64 t) from fun w' hb => by
    have q := (hb.block _ hzW).trans rW
    exact ⟨cell_of_row w' _ 0 _ _ _ q, cell_of_row w' _ 1 _ _ _ q⟩)
  have HW := Lib.hid hW
  have Hv := Lib.hid (rvalid_calls f t W)
  have ha' := ha
  obtain ⟨aa, ca, rfl, -⟩ := ha
  clear hW rW
  obtain ⟨m0, m1⟩ := HM.out W (Below.refl _ _)
  cases hv : validB f t with
  | false =>
    rw [hv] at Hv
    rw [show proV fee f t a = (0, 8) by unfold proV; rw [if_neg (by rw [hv]; decide)]]
    clear hv
    go_enter Tryz.func44, Tryz.ntmps44
    go_upto_region 1 with (fail)
    rw [← HW.out]
    go_wp2_with fail
    refine Hv.out.mono ?_
    rintro e w1 ⟨rfl, hb1⟩
    clear m0 m1
    go_wp2
    go_ret2
    exact ⟨rfl, hw0.trans (hb1.mono hw0.size)⟩
  | true =>
    rw [hv] at Hv
    have h0 := (validB_iff f t).1 hv
    rw [show proV fee f t a = scaleV fee (daysF (chooseL a [(f, t)] false true)).1 (daysF [(f, t)]).1 by unfold proV; rw [if_pos hv]]
    have hin := choose_in a [(f, t)] false true
    have hlen := choose_len a [(f, t)] false true
    simp only [List.length_cons, List.length_nil] at hlen
    have h1i := int_one f t h0
    have EW := Lib.hid (fun w1 v (h : PersAt w1 v [(f, t)]) => rdays_calls v [(f, t)] w1 h (by simp) h1i)
    have E2 := Lib.hid (fun w1 v (h : PersAt w1 v (chooseL a [(f, t)] false true)) => rdays_calls v _ w1 h (by omega) hin)
    have ES := Lib.hid (fun w1 => rscale_calls fee (daysF (chooseL a [(f, t)] false true)).1 (daysF [(f, t)]).1 w1)
    have E1 := Lib.hid (fun w1 v1 v2 (h1 : PersAt w1 v1 [(f, t)]) (h2 : PersAt w1 v2 a) => common_calls v2 v1 a [(f, t)] w1 h2 h1 (by simp; omega))
    generalize chooseL a [(f, t)] false true = C at *
    generalize (daysF [(f, t)]).1 = dw at *
    generalize (daysF C).1 = dc at *
    clear hv hin hlen h1i h0
    generalize scaleV fee dc dw = V at *
    obtain ⟨x, y⟩ := V
    have ES := Lib.hid (show ∀ w1, Calls Tryz.prog 78 #[.int .i64 fee, .int .i64 dc, .int .i64 dw] w1 fun e w' => e = .returned (.tuple #[.int .i64 x, .int .i64 y]) ∧ Below w1.heap.size w1 w' from ES.out)
    go_enter Tryz.func44, Tryz.ntmps44
    go_upto_region 1 with (fail)
    rw [← HW.out]
    go_wp2_with fail
    refine Hv.out.mono ?_
    rintro e w1 ⟨rfl, hb1⟩
    clear m0 m1
    obtain ⟨m0, m1⟩ := HM.out w1 hb1
    have hb1w := hw0.trans (hb1.mono hw0.size)
    have hp1 := pers_block w1 [(f, t)] (show 1 ≤ maxLen by decide)
    have HP1 := Lib.hid (show PersAt (w1.alloc (Obj.cells #[.int .i64 f, .int .i64 t] 25)) (.slice (some ⟨w1.heap.size, 0, none⟩) 1 1) [(f, t)] from hp1)
    clear hp1
    obtain ⟨X, hX⟩ : ∃ X, X = w1.alloc (Obj.cells #[.int .i64 f, .int .i64 t] 25) := ⟨_, rfl⟩
    have hbX : Below w1.heap.size w1 X := by rw [hX]; exact (Below.refl _ _).alloc (Nat.le_refl _) _
    rw [← hX] at HP1
    have HX := Lib.hid hX
    have hbXw := hb1w.trans (hbX.mono hb1w.size)
    have H1 := Lib.hid (E1.out X _ _ HP1.out (ha'.below hbXw))
    clear hX
    go_upto_region 4 with (fail)
    rw [← HX.out]
    clear m0 m1
    go_wp2_with fail
    refine H1.out.mono ?_
    rintro e w2 ⟨v2, rfl, hp2, hb2⟩
    have HP2 := Lib.hid hp2
    have hb2w := hbXw.trans (hb2.mono hbXw.size)
    have H2 := Lib.hid (E2.out w2 v2 hp2)
    obtain ⟨a2, c2, rfl, -⟩ := hp2
    go_wp2_with fail
    refine H2.out.mono ?_
    rintro e w3 ⟨rfl, hb3⟩
    have hb3w := hb2w.trans (hb3.mono hb2w.size)
    have h23 := hb2.trans (hb3.mono hb2.size)
    have H3 := Lib.hid (EW.out w3 _ (HP1.out.below h23))
    go_wp2_with fail
    refine H3.out.mono ?_
    rintro e w4 ⟨rfl, hb4⟩
    have hb4w := hb3w.trans (hb4.mono hb3w.size)
    go_wp2_with fail
    refine (ES.out w4).mono ?_
    rintro e w5 ⟨rfl, hb5⟩
    go_wp2
    go_ret2
    exact ⟨rfl, hb4w.trans (hb5.mono hb4w.size)⟩
end Go.Proofs.YtngippiilgdnoaaGreat

namespace Go.Proofs.YtngippiilgdnoaaGreat
open Go.RowKit

theorem lit_pro1 : proV 310 0 2678400 [(432007, 1295997)] = (100, 0) := by decide
theorem lit_pro2 : proV 100 0 2678400 [(432007, 1295997)] = (32, 0) := by decide
theorem lit_pro3 : proV 100 0 0 [(432007, 1295997)] = (0, 8) := by decide

set_option maxRecDepth 100000 in
set_option maxHeartbeats 6400000 in
theorem alive44_calls (w : World) : Calls Tryz.prog 12 #[] w fun e w' => e = .returned (.bool true) ∧ Below w.heap.size w w' := by
  obtain ⟨W, hW⟩ : ∃ W, W = w.alloc (Obj.cells #[Value.int .i64 0, Value.int .i64 2678400] 25) := ⟨_, rfl⟩
  have hw0 : Below w.heap.size w W := by rw [hW]; exact (Below.refl _ _).alloc (Nat.le_refl _) _
  have rW : W.heap[w.heap.size]? = some (Obj.cells #[Value.int .i64 0, Value.int .i64 2678400] 25) := by rw [hW]; exact heap_alloc_new _ _
  have hzW : w.heap.size < W.heap.size := by rw [hW]; simp
  have HM := Lib.hid (show ∀ w', Below W.heap.size W w' → w'.cell? ⟨w.heap.size, 0, none⟩ = some (.int .i64 0) ∧ w'.cell? ⟨w.heap.size, 1, none⟩ = some (.int .i64 2678400) from fun w' hb => by
    have q := (hb.block _ hzW).trans rW
    exact ⟨cell_of_row w' _ 0 _ _ _ q, cell_of_row w' _ 1 _ _ _ q⟩)
  have HW := Lib.hid hW
  obtain ⟨X, hX⟩ : ∃ X, X = W.alloc (Obj.cells #[Value.int .i64 432007, Value.int .i64 1295997] 25) := ⟨_, rfl⟩
  have hbX : Below W.heap.size W X := by rw [hX]; exact (Below.refl _ _).alloc (Nat.le_refl _) _
  have hp : PersAt X (.slice (some ⟨W.heap.size, 0, none⟩) 1 1) [(432007, 1295997)] := by rw [hX]; exact pers_block W [(432007, 1295997)] (by decide)
  have HX := Lib.hid hX
  have E1 := Lib.hid (fun w1 (hb : Below X.heap.size X w1) => prorate_calls 310 0 2678400 _ _ w1 (hp.below hb) (by decide))
  have E2 := Lib.hid (fun w1 (hb : Below X.heap.size X w1) => prorate_calls 100 0 2678400 _ _ w1 (hp.below hb) (by decide))
  have E3 := Lib.hid (fun w1 (hb : Below X.heap.size X w1) => prorate_calls 100 0 0 _ _ w1 (hp.below hb) (by decide))
  rw [lit_pro1] at E1
  rw [lit_pro2] at E2
  rw [lit_pro3] at E3
  clear hW rW hX hp
  obtain ⟨m0, m1⟩ := HM.out X hbX
  go_enter Tryz.func12, Tryz.ntmps12
  go_upto_region 2 with (fail)
  rw [← HW.out]
  go_upto_region 3 with (fail)
  rw [← HX.out]
  go_wp2_with fail
  refine (E1.out X (Below.refl _ _)).mono ?_
  rintro e w1 ⟨he, hb1⟩
  obtain rfl : e = .returned (.tuple #[.int .i64 100, .int .i64 0]) := he
  clear m0 m1
  obtain ⟨m0, m1⟩ := HM.out w1 (hbX.trans (hb1.mono hbX.size))
  go_wp2_with fail
  refine (E2.out w1 hb1).mono ?_
  rintro e w2 ⟨he, hbx⟩
  obtain rfl : e = .returned (.tuple #[.int .i64 32, .int .i64 0]) := he
  have hb2 := hb1.trans (hbx.mono hb1.size)
  clear m0 m1 hbx
  go_wp2_with fail
  refine (E3.out w2 hb2).mono ?_
  rintro e w3 ⟨he, hbx⟩
  obtain rfl : e = .returned (.tuple #[.int .i64 0, .int .i64 8]) := he
  have hb3 := hb2.trans (hbx.mono hb2.size)
  go_wp2
  go_ret
  exact ⟨rfl, hw0.trans ((hbX.trans (hb3.mono hbX.size)).mono hw0.size)⟩

end Go.Proofs.YtngippiilgdnoaaGreat
