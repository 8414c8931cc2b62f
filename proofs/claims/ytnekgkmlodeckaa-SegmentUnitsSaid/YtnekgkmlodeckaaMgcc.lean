/-
  The law of chapter 30 on units: the segments are those that remain and follow one another.
-/
import Derived.Test.YtnekgkmlodeckaaMgbx
import Derived.Test.YtnekgkmlodeckaaMgca
import Derived.Test.YtnekgkmlodeckaaMgbz
namespace Go.Proofs.Ytnekgkmlodeckaa
open Go.RowKit

set_option maxRecDepth 100000 in
set_option maxHeartbeats 12800000 in
theorem units30_law (nm : ByteArray) (fr : Int) (sl : Bool) (zv bv rv dv vh : Value) (zs : List Zn) (bs : List Bn) (rs : List Rt) (ds : List (Nat × List Value)) (hol : List Int) (u : Us) (free : Int) (w : World) (hz : ZnsAt w zv zs) (hbs : BnsAt w bv bs) (hr : RtsAt w rv rs) (hd : DssAt w dv ds) (hh : IcsAt w vh hol) :
    Calls Try.prog 6 #[.agg #[Value.string nm, .int .i64 fr, .bool sl, zv, bv, rv, dv], .agg #[vh, .int .i64 u.id, .int .i64 u.kd, .int .i64 u.ac, .int .i64 u.sb, .string u.a, .string u.b, .int .i64 u.st, .int .i64 u.un, .int .i64 u.tr, .bool u.ib, .int .i64 u.so, .int .i64 u.se, .int .i64 free]] w (BoolTo true w) := by
  obtain ⟨W, hW⟩ : ∃ W, W = (w.alloc (Obj.cells #[Value.string nm, .int .i64 fr, .bool sl, zv, bv, rv, dv] 27)).alloc (Obj.cells #[vh, .int .i64 u.id, .int .i64 u.kd, .int .i64 u.ac, .int .i64 u.sb, .string u.a, .string u.b, .int .i64 u.st, .int .i64 u.un, .int .i64 u.tr, .bool u.ib, .int .i64 u.so, .int .i64 u.se, .int .i64 free] 42) := ⟨_, rfl⟩
  obtain ⟨hw0, hzW, r0, r1⟩ := rows2 hW
  have HSm := Lib.hid (small30_calls nm fr sl zv bv rv dv vh zs bs rs ds hol W (hz.below hw0) (hbs.below hw0) (hr.below hw0) (hd.below hw0) (hh.below hw0))
  have H1 := Lib.hid (fun w1 (hb : Below W.heap.size W w1) => scut_calls nm fr sl zv bv rv dv vh bs hol u free w1 hz.isSl hr.isSl hd.isSl ((hbs.below hw0).below hb) ((hh.below hw0).below hb))
  have HAt := Lib.hid (fun q w1 (hb : Below W.heap.size W w1) => at_calls bv vh bs hol q w1 ((hbs.below hw0).below hb) ((hh.below hw0).below hb))
  obtain ⟨za, zc, rfl, -, -, -⟩ := hz
  obtain ⟨ba, bc, rfl, -, -, -⟩ := hbs
  obtain ⟨ra, rc, rfl, -, -, -⟩ := hr
  obtain ⟨da, dc, rfl, -, -, -⟩ := hd
  obtain ⟨ha, hc, rfl, -, -, -⟩ := hh
  unfold Us.row at *
  have HM := Lib.hid (show ∀ w', Below W.heap.size W w' → w'.cell? ⟨w.heap.size, 0, none⟩ = some (Value.string nm) ∧ w'.cell? ⟨w.heap.size, 1, none⟩ = some (Value.int .i64 fr) ∧ w'.cell? ⟨w.heap.size, 2, none⟩ = some (Value.bool sl) ∧ w'.cell? ⟨w.heap.size, 3, none⟩ = some (Value.slice za zs.length zc) ∧ w'.cell? ⟨w.heap.size, 4, none⟩ = some (Value.slice ba bs.length bc) ∧ w'.cell? ⟨w.heap.size, 5, none⟩ = some (Value.slice ra rs.length rc) ∧ w'.cell? ⟨w.heap.size, 6, none⟩ = some (Value.slice da ds.length dc) ∧ w'.cell? ⟨w.heap.size + 1, 0, none⟩ = some (Value.slice ha hol.length hc) ∧ w'.cell? ⟨w.heap.size + 1, 1, none⟩ = some (.int .i64 u.id) ∧ w'.cell? ⟨w.heap.size + 1, 2, none⟩ = some (.int .i64 u.kd) ∧ w'.cell? ⟨w.heap.size + 1, 3, none⟩ = some (.int .i64 u.ac) ∧ w'.cell? ⟨w.heap.size + 1, 4, none⟩ = some (.int .i64 u.sb) ∧ w'.cell? ⟨w.heap.size + 1, 5, none⟩ = some (.string u.a) ∧ w'.cell? ⟨w.heap.size + 1, 6, none⟩ = some (.string u.b) ∧ w'.cell? ⟨w.heap.size + 1, 7, none⟩ = some (.int .i64 u.st) ∧ w'.cell? ⟨w.heap.size + 1, 8, none⟩ = some (.int .i64 u.un) ∧ w'.cell? ⟨w.heap.size + 1, 9, none⟩ = some (.int .i64 u.tr) ∧ w'.cell? ⟨w.heap.size + 1, 10, none⟩ = some (.bool u.ib) ∧ w'.cell? ⟨w.heap.size + 1, 11, none⟩ = some (.int .i64 u.so) ∧ w'.cell? ⟨w.heap.size + 1, 12, none⟩ = some (.int .i64 u.se) ∧ w'.cell? ⟨w.heap.size + 1, 13, none⟩ = some (.int .i64 free) from fun w' hb => by
    have g0 := (hb.block _ (by omega)).trans r0
    have g1 := (hb.block _ (by omega)).trans r1
    exact ⟨cell_of_row w' _ 0 _ _ _ g0, cell_of_row w' _ 1 _ _ _ g0, cell_of_row w' _ 2 _ _ _ g0, cell_of_row w' _ 3 _ _ _ g0, cell_of_row w' _ 4 _ _ _ g0, cell_of_row w' _ 5 _ _ _ g0, cell_of_row w' _ 6 _ _ _ g0, cell_of_row w' _ 0 _ _ _ g1, cell_of_row w' _ 1 _ _ _ g1, cell_of_row w' _ 2 _ _ _ g1, cell_of_row w' _ 3 _ _ _ g1, cell_of_row w' _ 4 _ _ _ g1, cell_of_row w' _ 5 _ _ _ g1, cell_of_row w' _ 6 _ _ _ g1, cell_of_row w' _ 7 _ _ _ g1, cell_of_row w' _ 8 _ _ _ g1, cell_of_row w' _ 9 _ _ _ g1, cell_of_row w' _ 10 _ _ _ g1, cell_of_row w' _ 11 _ _ _ g1, cell_of_row w' _ 12 _ _ _ g1, cell_of_row w' _ 13 _ _ _ g1⟩)
  have HW := Lib.hid hW
  have Hw0 := Lib.hid hw0
  clear hW hw0 r0 r1
  obtain ⟨t0, t1, t2, t3, t4, t5, t6, c0, c1, c2, c3, c4, c5, c6, c7, c8, c9, c10, c11, c12, c13⟩ := HM.out W (Below.refl _ _)
  go_enter Try.func6, Try.ntmps6
  go_upto_region 1 with (fail)
  rw [← HW.out]
  go_wp2_with fail
  refine HSm.out.mono ?_
  rintro e w1 ⟨r, rfl, hb1⟩
  clear t0 t1 t2 t3 t4 t5 t6 c0 c1 c2 c3 c4 c5 c6 c7 c8 c9 c10 c11 c12 c13
  obtain ⟨t0, t1, t2, t3, t4, t5, t6, c0, c1, c2, c3, c4, c5, c6, c7, c8, c9, c10, c11, c12, c13⟩ := HM.out w1 hb1
  cases r with
  | false =>
    go_wp2_with fail
    refine (awake30_calls _).mono ?_
    rintro e wz ⟨rfl, hbz⟩
    have hbz := hb1.trans (hbz.mono hb1.size)
    go_wp2
    go_ret
    exact ⟨rfl, Hw0.out.trans (hbz.mono Hw0.out.size)⟩
  | true =>
    go_wp2_with fail
    refine (H1.out w1 hb1).mono ?_
    rintro e w3 ⟨vL, L, rfl, hown, hSeg, hb3⟩
    have hb3 := hb1.trans (hb3.mono hb1.size)
    clear t0 t1 t2 t3 t4 t5 t6 c0 c1 c2 c3 c4 c5 c6 c7 c8 c9 c10 c11 c12 c13
    by_cases hne : L = []
    · subst hne
      obtain ⟨av, cap, rfl, -, -⟩ := own_shape hown
      clear hown hSeg
      go_wp2_with fail
      refine (awake30_calls _).mono ?_
      rintro e wz ⟨rfl, hbz⟩
      have hbz := hb3.trans (hbz.mono hb3.size)
      go_wp2
      go_ret
      exact ⟨rfl, Hw0.out.trans (hbz.mono Hw0.out.size)⟩
    · obtain ⟨hpp, hU, hT, hOne⟩ := segR_units hSeg hne
      have hpb := proper_bounds hpp
      have HSL := Lib.hid (SgsAt.own hown)
      have HU := Lib.hid hU
      have HT := Lib.hid hT
      have HOne := Lib.hid hOne
      have hlp : 0 < L.length := List.length_pos_iff.2 hne
      obtain ⟨aL, cL, rfl, hcl, hcm⟩ := own_shape hown
      unfold maxLen at hcm
      have hlz : ((L.length : Int) == 0) = false := beq_eq_false_iff_ne.2 (by omega)
      have hwd : IntKind.i64.wrap (u.un - free) = u.un - free := IntWalk.i64_in _ (by omega)
      have Hb3 := Lib.hid hb3
      have Hpb := Lib.hid hpb
      obtain ⟨b1, b2, b3', b4, b5, b6⟩ := hpb
      obtain ⟨t0, t1, t2, t3, t4, t5, t6, c0, c1, c2, c3, c4, c5, c6, c7, c8, c9, c10, c11, c12, c13⟩ := HM.out w3 hb3
      clear hpp hU hT hOne hown hSeg hne b6
      by_cases hk : u.kd = 1
      · have hkb : (u.kd == 1) = true := beq_iff_eq.2 hk
        have hws : IntKind.i64.wrap (u.st + free) = u.st + free := IntWalk.i64_in _ (by omega)
        have HBe := Lib.hid (show beginU u free = u.st + free from if_pos hk)
        have hst2 : u.st + free ≤ 12622780800 := by have := Hpb.out.2.2.2.2.2 hk; omega
        cases sl with
        | true =>
          have HK := Lib.hid (show (u.kd = 1 ∧ true = true) from ⟨hk, rfl⟩)
          clear hk
          go_upto_region 14 with (fail)
          go_loopw [7, 8, 9] (fun a8 s8 i wr => ∃ k : Nat, k ≤ L.length ∧ i = .int .i64 k ∧ a8 = .int .i64 ((u.st + free) + sumU L k) ∧ s8 = .int .i64 (sumU L k) ∧ Below w3.heap.size w3 wr) (fun _ _ i _ => L.length - (intOf i).toNat)
          case atStart => exact ⟨0, Nat.zero_le _, rfl, by rw [sumU_zero, Int.add_zero], rfl, Below.refl _ _⟩
          case round =>
            obtain ⟨k, hkL, rfl, rfl, rfl, hbr⟩ := hrel
            have Hbr := Lib.hid hbr
            have HWr := Lib.hid (Hb3.out.trans (hbr.mono Hb3.out.size))
            clear t0 t1 t2 t3 t4 t5 t6 c0 c1 c2 c3 c4 c5 c6 c7 c8 c9 c10 c11 c12 c13
            obtain ⟨t0, t1, t2, t3, t4, t5, t6, c0, c1, c2, c3, c4, c5, c6, c7, c8, c9, c10, c11, c12, c13⟩ := HM.out wr HWr.out
            by_cases hlt : k < L.length
            · obtain ⟨p1, p2, p3, p4, p5, p6, p7, p8, p9⟩ := HU.out k hlt
              rw [HBe.out] at p1
              have HSu := Lib.hid (sumU_succ hlt)
              obtain ⟨aL2, cL2, e2, -, -, hx⟩ := HSL.out
              cases e2
              obtain ⟨gL, oL, rfl, hB3, hx⟩ := hx (by rintro rfl; cases hlt)
              obtain ⟨d0, d1, d2, d3⟩ := hx k hlt
              have hBr : gL < wr.heap.size := Nat.lt_of_lt_of_le hB3 hbr.size
              have q0 := (hbr.cell (p := ⟨gL, _, none⟩) hB3).trans d0
              have q1 := (hbr.cell (p := ⟨gL, _, none⟩) hB3).trans d1
              have q2 := (hbr.cell (p := ⟨gL, _, none⟩) hB3).trans d2
              have q3 := (hbr.cell (p := ⟨gL, _, none⟩) hB3).trans d3
              have HPv := Lib.hid (show ∀ j (hj : j + 1 = k), wr.cell? ⟨gL, oL + j * 4, none⟩ = some (.string (L[j]'(by omega)).1) from fun j hj => (hbr.cell (p := ⟨gL, _, none⟩) hB3).trans (hx j (by omega)).1)
              have HNe := Lib.hid p6
              have HAe := Lib.hid p5
              have hk0 : (0 : Int) ≤ (k : Int) := Int.natCast_nonneg _
              have hk1 : (k : Int) < (L.length : Int) := by omega
              clear hx d0 d1 d2 d3 p5 p6
              generalize L[k] = g at *
              obtain ⟨gn, gs, gu, ga⟩ := g
              dsimp only at q0 q1 q2 q3 p1 p2 p3 p4 p8 HSu HAe HNe
              subst p3
              generalize sumU L k = su at *
              rw [← p1]
              have hw1 : IntKind.i64.wrap (gs + gu) = gs + gu := IntWalk.i64_in _ (by omega)
              have hw2 : IntKind.i64.wrap (su + gu) = su + gu := IntWalk.i64_in _ (by omega)
              have hw3 : IntKind.i64.wrap (gs + gu - 1) = gs + gu - 1 := IntWalk.i64_in _ (by omega)
              have HP1 := Lib.hid p1
              obtain ⟨X, hX⟩ : ∃ X, X = wr.alloc (Obj.cells #[Value.string gn, .int .i64 gs, .int .i64 gu, .int .i64 0] 52) := ⟨_, rfl⟩
              have hbX : Below wr.heap.size wr X := by rw [hX]; exact (Below.refl _ _).alloc (Nat.le_refl _) _
              have rX : X.heap[wr.heap.size]? = some (Obj.cells #[Value.string gn, .int .i64 gs, .int .i64 gu, .int .i64 0] 52) := by rw [hX]; exact heap_alloc_new _ _
              have hzX : wr.heap.size < X.heap.size := by rw [hX]; simp
              have hWX := HWr.out.trans (hbX.mono HWr.out.size)
              have HX := Lib.hid hX
              have HA1 := Lib.hid (show ∀ w1, Below X.heap.size X w1 → Calls Try.prog 26 #[.slice ba bs.length bc, .slice ha hol.length hc, .int .i64 gs] w1 (StrTo gn w1) from fun w1 h => p4 ▸ HAt.out gs w1 (hWX.trans (h.mono hWX.size)))
              have HA2 := Lib.hid (show ∀ w1, Below X.heap.size X w1 → Calls Try.prog 26 #[.slice ba bs.length bc, .slice ha hol.length hc, .int .i64 (gs + gu - 1)] w1 (StrTo gn w1) from fun w1 h => HAe.out HK.out ▸ HAt.out (gs + gu - 1) w1 (hWX.trans (h.mono hWX.size)))
              have e1 : (gs != gs) = false := bne_self_eq_false _
              have e2 : (gn.toList != gn.toList) = false := bne_self_eq_false _
              have e3 : (gn.toList == gn.toList) = true := beq_self_eq_true _
              have e5 : decide (gu < 1) = false := decide_eq_false (by omega)
              have e6 : decide (gu ≤ 0) = false := decide_eq_false (by omega)
              have hrX := Below.refl X.heap.size X
              have HrX := Lib.hid rX
              have HbX := Lib.hid hbX
              clear p1 hX rX p4
              go_upto_region 17 with (fail)
              rw [← HX.out]
              clear t0 t1 t2 t3 t4 t5 t6 c0 c1 c2 c3 c4 c5 c6 c7 c8 c9 c10 c11 c12 c13 q0 q1 q2 q3
              by_cases hkz : k = 0
              · have hkd : decide ((0 : Int) < (k : Int)) = false := decide_eq_false (by omega)
                have hkd2 : decide (0 < k) = false := decide_eq_false (by omega)
                have Mk := Lib.hid (show ∀ w' : World, Below X.heap.size X w' → (fun w' : World => Below X.heap.size X w' ∧ w'.cell? ⟨wr.heap.size, 0, none⟩ = some (.string gn) ∧ w'.cell? ⟨wr.heap.size, 1, none⟩ = some (.int .i64 gs) ∧ w'.cell? ⟨wr.heap.size, 2, none⟩ = some (.int .i64 gu) ∧ w'.cell? ⟨wr.heap.size, 3, none⟩ = some (.int .i64 0) ∧ w'.cell? ⟨w.heap.size, 4, none⟩ = some (Value.slice ba bs.length bc) ∧ w'.cell? ⟨w.heap.size, 2, none⟩ = some (Value.bool true) ∧ w'.cell? ⟨w.heap.size + 1, 0, none⟩ = some (Value.slice ha hol.length hc)) w' from fun w' h => by
                  obtain ⟨t0, t1, t2, t3, t4, t5, t6, c0, c1, c2, c3, c4, c5, c6, c7, c8, c9, c10, c11, c12, c13⟩ := HM.out w' (hWX.trans (h.mono hWX.size))
                  have r := (h.block _ hzX).trans HrX.out
                  exact ⟨h, cell_of_row w' _ 0 _ _ _ r, cell_of_row w' _ 1 _ _ _ r, cell_of_row w' _ 2 _ _ _ r, cell_of_row w' _ 3 _ _ _ r, t4, t2, c0⟩)
                clear hkz
                obtain ⟨-, x0, x1, x2, x3, t4, t2, c0⟩ := Mk.out X hrX
                have t2x := (Mk.out X hrX).2.2.2.2.2.2.1
                have fx0 := fun p : BelowOf X => BelowOf.cell hzX x0 p
                have fx1 := fun p : BelowOf X => BelowOf.cell hzX x1 p
                have fx2 := fun p : BelowOf X => BelowOf.cell hzX x2 p
                have fx3 := fun p : BelowOf X => BelowOf.cell hzX x3 p
                have ft4 := fun p : BelowOf X => BelowOf.cell (a := ⟨w.heap.size, 4, none⟩) (show w.heap.size < X.heap.size by have := hWX.size; omega) t4 p
                have fc0 := fun p : BelowOf X => BelowOf.cell (a := ⟨w.heap.size + 1, 0, none⟩) (show w.heap.size + 1 < X.heap.size by have := hWX.size; omega) c0 p
                clear x0 x1 x2 x3 t4 t2 c0
                refine wp_region_quiet_below hrX (by kernel_rfl) (by kernel_rfl) ?_
                repeat (go_big_quiet_step (first | (go_at_call 26; refine calls_below_of (HA1.out _ (BelowOf.h _)) (fun e w' h => h))))
                refine wpQuiet_nil ?_
                intro wa hw'
                have hYa : Below X.heap.size X wa := by obtain ⟨pq, rfl⟩ := hw'; exact pq.h
                clear hw'
                obtain ⟨-, x0, x1, x2, x3, t4, t2, c0⟩ := Mk.out wa hYa
                go_upto_region 19 with (fail)
                have ft2 := fun p : BelowOf X => BelowOf.cell (a := ⟨w.heap.size, 2, none⟩) (show w.heap.size < X.heap.size by have := hWX.size; omega) t2x p
                clear x0 x1 x2 x3 t4 t2 c0
                refine wp_region_quiet_below hYa (by kernel_rfl) (by kernel_rfl) ?_
                repeat (go_big_quiet_step (first | (go_at_call 26; refine calls_below_of (HA2.out _ (BelowOf.h _)) (fun e w' h => h))))
                refine wpQuiet_nil ?_
                intro wb hw'
                have hYz : Below X.heap.size X wb := by obtain ⟨pq, rfl⟩ := hw'; exact pq.h
                clear hw'
                clear fx0 fx1 fx2 fx3 ft4 fc0 ft2
                obtain ⟨-, x0, x1, x2, x3, t4, t2, c0⟩ := Mk.out wb hYz
                go_wp2
                refine ⟨⟨k + 1, by omega, by go_num, by rw [HSu.out, HP1.out, Int.add_assoc], by rw [HSu.out], ?_⟩, by simp [intOf]; omega⟩
                exact Hbr.out.trans ((HbX.out.trans (hYz.mono HbX.out.size)).mono Hbr.out.size)
              · obtain ⟨j, hj⟩ : ∃ j, j + 1 = k := ⟨k - 1, by omega⟩
                have hpv := HPv.out j hj
                have hnv := HNe.out j hj
                generalize (L[j]'(by omega)).1 = pn at hpv hnv
                have hnq : (gn.toList == pn.toList) = false := by
                  cases h : (gn.toList == pn.toList) with
                  | false => rfl
                  | true => exact absurd ((sameS_iff gn pn).1 h) hnv
                have hkd : decide ((0 : Int) < (k : Int)) = true := decide_eq_true (by omega)
                have hkd2 : decide (0 < k) = true := decide_eq_true (by omega)
                have hjw : IntKind.i64.wrap ((k : Int) - 1) = (j : Int) := by rw [show (k : Int) - 1 = (j : Int) by omega]; exact IntWalk.i64_in _ (by omega)
                have hj0 : (0 : Int) ≤ (j : Int) := Int.natCast_nonneg _
                have hj1 : (j : Int) < (L.length : Int) := by omega
                have hj2 : j < L.length := by omega
                have Mk := Lib.hid (show ∀ w' : World, Below X.heap.size X w' → (fun w' : World => Below X.heap.size X w' ∧ w'.cell? ⟨wr.heap.size, 0, none⟩ = some (.string gn) ∧ w'.cell? ⟨wr.heap.size, 1, none⟩ = some (.int .i64 gs) ∧ w'.cell? ⟨wr.heap.size, 2, none⟩ = some (.int .i64 gu) ∧ w'.cell? ⟨wr.heap.size, 3, none⟩ = some (.int .i64 0) ∧ w'.cell? ⟨w.heap.size, 4, none⟩ = some (Value.slice ba bs.length bc) ∧ w'.cell? ⟨w.heap.size, 2, none⟩ = some (Value.bool true) ∧ w'.cell? ⟨w.heap.size + 1, 0, none⟩ = some (Value.slice ha hol.length hc) ∧ w'.cell? ⟨gL, oL + j * 4, none⟩ = some (.string pn)) w' from fun w' h => by
                  obtain ⟨t0, t1, t2, t3, t4, t5, t6, c0, c1, c2, c3, c4, c5, c6, c7, c8, c9, c10, c11, c12, c13⟩ := HM.out w' (hWX.trans (h.mono hWX.size))
                  have r := (h.block _ hzX).trans HrX.out
                  exact ⟨h, cell_of_row w' _ 0 _ _ _ r, cell_of_row w' _ 1 _ _ _ r, cell_of_row w' _ 2 _ _ _ r, cell_of_row w' _ 3 _ _ _ r, t4, t2, c0, ((HbX.out.trans (h.mono HbX.out.size)).cell (p := ⟨gL, _, none⟩) hBr).trans hpv⟩)
                clear hkz hpv hnv hj
                obtain ⟨-, x0, x1, x2, x3, t4, t2, c0, pv⟩ := Mk.out X hrX
                have t2x := (Mk.out X hrX).2.2.2.2.2.2.1
                have fx0 := fun p : BelowOf X => BelowOf.cell hzX x0 p
                have fx1 := fun p : BelowOf X => BelowOf.cell hzX x1 p
                have fx2 := fun p : BelowOf X => BelowOf.cell hzX x2 p
                have fx3 := fun p : BelowOf X => BelowOf.cell hzX x3 p
                have ft4 := fun p : BelowOf X => BelowOf.cell (a := ⟨w.heap.size, 4, none⟩) (show w.heap.size < X.heap.size by have := hWX.size; omega) t4 p
                have fc0 := fun p : BelowOf X => BelowOf.cell (a := ⟨w.heap.size + 1, 0, none⟩) (show w.heap.size + 1 < X.heap.size by have := hWX.size; omega) c0 p
                have fpv := fun p : BelowOf X => BelowOf.cell (a := ⟨gL, _, none⟩) (show gL < X.heap.size by have := HbX.out.size; omega) pv p
                clear x0 x1 x2 x3 t4 t2 c0 pv
                refine wp_region_quiet_below hrX (by kernel_rfl) (by kernel_rfl) ?_
                repeat (go_big_quiet_step (first | (go_at_call 26; refine calls_below_of (HA1.out _ (BelowOf.h _)) (fun e w' h => h))))
                refine wpQuiet_nil ?_
                intro wa hw'
                have hYa : Below X.heap.size X wa := by obtain ⟨pq, rfl⟩ := hw'; exact pq.h
                clear hw'
                obtain ⟨-, x0, x1, x2, x3, t4, t2, c0, pv⟩ := Mk.out wa hYa
                go_upto_region 19 with (fail)
                have ft2 := fun p : BelowOf X => BelowOf.cell (a := ⟨w.heap.size, 2, none⟩) (show w.heap.size < X.heap.size by have := hWX.size; omega) t2x p
                clear x0 x1 x2 x3 t4 t2 c0 pv
                refine wp_region_quiet_below hYa (by kernel_rfl) (by kernel_rfl) ?_
                repeat (go_big_quiet_step (first | (go_at_call 26; refine calls_below_of (HA2.out _ (BelowOf.h _)) (fun e w' h => h))))
                refine wpQuiet_nil ?_
                intro wb hw'
                have hYz : Below X.heap.size X wb := by obtain ⟨pq, rfl⟩ := hw'; exact pq.h
                clear hw'
                clear fx0 fx1 fx2 fx3 ft4 fc0 fpv ft2
                obtain ⟨-, x0, x1, x2, x3, t4, t2, c0, pv⟩ := Mk.out wb hYz
                go_wp2
                refine ⟨⟨k + 1, by omega, by go_num, by rw [HSu.out, HP1.out, Int.add_assoc], by rw [HSu.out], ?_⟩, by simp [intOf]; omega⟩
                exact Hbr.out.trans ((HbX.out.trans (hYz.mono HbX.out.size)).mono Hbr.out.size)
            · have hend : L.length = k := by omega
              have HTk := Lib.hid (show sumU L k = u.un - free by rw [← hend]; exact HT.out)
              have e4 : ((u.un - free) == (u.un - free)) = true := beq_self_eq_true _
              rw [HTk.out]
              clear hend
              go_wp2_with fail
              refine (awake30_calls _).mono ?_
              rintro e wz ⟨rfl, hbz⟩
              have hbz := HWr.out.trans (hbz.mono HWr.out.size)
              go_wp2
              go_ret
              exact ⟨rfl, Hw0.out.trans (hbz.mono Hw0.out.size)⟩
        | false =>
          have hl1 : L.length = 1 := HOne.out (fun h => by cases h.2)
          have hln : ((L.length : Int) != 1) = false := bne_eq_false_iff_eq.2 (by omega)
          have hll : L.length < 2 := by omega
          clear hk hl1
          go_upto_region 14 with (fail)
          go_loopw [7, 8, 9] (fun a8 s8 i wr => ∃ k : Nat, k ≤ L.length ∧ i = .int .i64 k ∧ a8 = .int .i64 ((u.st + free) + sumU L k) ∧ s8 = .int .i64 (sumU L k) ∧ Below w3.heap.size w3 wr) (fun _ _ i _ => L.length - (intOf i).toNat)
          case atStart => exact ⟨0, Nat.zero_le _, rfl, by rw [sumU_zero, Int.add_zero], rfl, Below.refl _ _⟩
          case round =>
            obtain ⟨k, hkL, rfl, rfl, rfl, hbr⟩ := hrel
            have Hbr := Lib.hid hbr
            have HWr := Lib.hid (Hb3.out.trans (hbr.mono Hb3.out.size))
            clear t0 t1 t2 t3 t4 t5 t6 c0 c1 c2 c3 c4 c5 c6 c7 c8 c9 c10 c11 c12 c13
            obtain ⟨t0, t1, t2, t3, t4, t5, t6, c0, c1, c2, c3, c4, c5, c6, c7, c8, c9, c10, c11, c12, c13⟩ := HM.out wr HWr.out
            by_cases hlt : k < L.length
            · obtain ⟨p1, p2, p3, p4, p5, p6, p7, p8, p9⟩ := HU.out k hlt
              rw [HBe.out] at p1
              have HSu := Lib.hid (sumU_succ hlt)
              obtain ⟨aL2, cL2, e2, -, -, hx⟩ := HSL.out
              cases e2
              obtain ⟨gL, oL, rfl, hB3, hx⟩ := hx (by rintro rfl; cases hlt)
              obtain ⟨d0, d1, d2, d3⟩ := hx k hlt
              have hBr : gL < wr.heap.size := Nat.lt_of_lt_of_le hB3 hbr.size
              have q0 := (hbr.cell (p := ⟨gL, _, none⟩) hB3).trans d0
              have q1 := (hbr.cell (p := ⟨gL, _, none⟩) hB3).trans d1
              have q2 := (hbr.cell (p := ⟨gL, _, none⟩) hB3).trans d2
              have q3 := (hbr.cell (p := ⟨gL, _, none⟩) hB3).trans d3
              have HPv := Lib.hid (show ∀ j (hj : j + 1 = k), wr.cell? ⟨gL, oL + j * 4, none⟩ = some (.string (L[j]'(by omega)).1) from fun j hj => (hbr.cell (p := ⟨gL, _, none⟩) hB3).trans (hx j (by omega)).1)
              have HNe := Lib.hid p6
              have HAe := Lib.hid p5
              have hk0 : (0 : Int) ≤ (k : Int) := Int.natCast_nonneg _
              have hk1 : (k : Int) < (L.length : Int) := by omega
              clear hx d0 d1 d2 d3 p5 p6
              generalize L[k] = g at *
              obtain ⟨gn, gs, gu, ga⟩ := g
              dsimp only at q0 q1 q2 q3 p1 p2 p3 p4 p8 HSu HAe HNe
              subst p3
              generalize sumU L k = su at *
              rw [← p1]
              have hw1 : IntKind.i64.wrap (gs + gu) = gs + gu := IntWalk.i64_in _ (by omega)
              have hw2 : IntKind.i64.wrap (su + gu) = su + gu := IntWalk.i64_in _ (by omega)
              have hw3 : IntKind.i64.wrap (gs + gu - 1) = gs + gu - 1 := IntWalk.i64_in _ (by omega)
              have HP1 := Lib.hid p1
              obtain ⟨X, hX⟩ : ∃ X, X = wr.alloc (Obj.cells #[Value.string gn, .int .i64 gs, .int .i64 gu, .int .i64 0] 52) := ⟨_, rfl⟩
              have hbX : Below wr.heap.size wr X := by rw [hX]; exact (Below.refl _ _).alloc (Nat.le_refl _) _
              have rX : X.heap[wr.heap.size]? = some (Obj.cells #[Value.string gn, .int .i64 gs, .int .i64 gu, .int .i64 0] 52) := by rw [hX]; exact heap_alloc_new _ _
              have hzX : wr.heap.size < X.heap.size := by rw [hX]; simp
              have hWX := HWr.out.trans (hbX.mono HWr.out.size)
              have HX := Lib.hid hX
              have HA1 := Lib.hid (show ∀ w1, Below X.heap.size X w1 → Calls Try.prog 26 #[.slice ba bs.length bc, .slice ha hol.length hc, .int .i64 gs] w1 (StrTo gn w1) from fun w1 h => p4 ▸ HAt.out gs w1 (hWX.trans (h.mono hWX.size)))
              skip
              have e1 : (gs != gs) = false := bne_self_eq_false _
              have e2 : (gn.toList != gn.toList) = false := bne_self_eq_false _
              have e3 : (gn.toList == gn.toList) = true := beq_self_eq_true _
              have e5 : decide (gu < 1) = false := decide_eq_false (by omega)
              have e6 : decide (gu ≤ 0) = false := decide_eq_false (by omega)
              have hrX := Below.refl X.heap.size X
              have HrX := Lib.hid rX
              have HbX := Lib.hid hbX
              clear p1 hX rX p4
              go_upto_region 17 with (fail)
              rw [← HX.out]
              clear t0 t1 t2 t3 t4 t5 t6 c0 c1 c2 c3 c4 c5 c6 c7 c8 c9 c10 c11 c12 c13 q0 q1 q2 q3
              by_cases hkz : k = 0
              · have hkd : decide ((0 : Int) < (k : Int)) = false := decide_eq_false (by omega)
                have hkd2 : decide (0 < k) = false := decide_eq_false (by omega)
                have Mk := Lib.hid (show ∀ w' : World, Below X.heap.size X w' → (fun w' : World => Below X.heap.size X w' ∧ w'.cell? ⟨wr.heap.size, 0, none⟩ = some (.string gn) ∧ w'.cell? ⟨wr.heap.size, 1, none⟩ = some (.int .i64 gs) ∧ w'.cell? ⟨wr.heap.size, 2, none⟩ = some (.int .i64 gu) ∧ w'.cell? ⟨wr.heap.size, 3, none⟩ = some (.int .i64 0) ∧ w'.cell? ⟨w.heap.size, 4, none⟩ = some (Value.slice ba bs.length bc) ∧ w'.cell? ⟨w.heap.size, 2, none⟩ = some (Value.bool false) ∧ w'.cell? ⟨w.heap.size + 1, 0, none⟩ = some (Value.slice ha hol.length hc)) w' from fun w' h => by
                  obtain ⟨t0, t1, t2, t3, t4, t5, t6, c0, c1, c2, c3, c4, c5, c6, c7, c8, c9, c10, c11, c12, c13⟩ := HM.out w' (hWX.trans (h.mono hWX.size))
                  have r := (h.block _ hzX).trans HrX.out
                  exact ⟨h, cell_of_row w' _ 0 _ _ _ r, cell_of_row w' _ 1 _ _ _ r, cell_of_row w' _ 2 _ _ _ r, cell_of_row w' _ 3 _ _ _ r, t4, t2, c0⟩)
                clear hkz
                obtain ⟨-, x0, x1, x2, x3, t4, t2, c0⟩ := Mk.out X hrX
                have t2x := (Mk.out X hrX).2.2.2.2.2.2.1
                have fx0 := fun p : BelowOf X => BelowOf.cell hzX x0 p
                have fx1 := fun p : BelowOf X => BelowOf.cell hzX x1 p
                have fx2 := fun p : BelowOf X => BelowOf.cell hzX x2 p
                have fx3 := fun p : BelowOf X => BelowOf.cell hzX x3 p
                have ft4 := fun p : BelowOf X => BelowOf.cell (a := ⟨w.heap.size, 4, none⟩) (show w.heap.size < X.heap.size by have := hWX.size; omega) t4 p
                have fc0 := fun p : BelowOf X => BelowOf.cell (a := ⟨w.heap.size + 1, 0, none⟩) (show w.heap.size + 1 < X.heap.size by have := hWX.size; omega) c0 p
                clear x0 x1 x2 x3 t4 t2 c0
                refine wp_region_quiet_below hrX (by kernel_rfl) (by kernel_rfl) ?_
                repeat (go_big_quiet_step (first | (go_at_call 26; refine calls_below_of (HA1.out _ (BelowOf.h _)) (fun e w' h => h))))
                refine wpQuiet_nil ?_
                intro wa hw'
                have hYa : Below X.heap.size X wa := by obtain ⟨pq, rfl⟩ := hw'; exact pq.h
                clear hw'
                obtain ⟨-, x0, x1, x2, x3, t4, t2, c0⟩ := Mk.out wa hYa
                go_upto_region 19 with (fail)
                have ft2 := fun p : BelowOf X => BelowOf.cell (a := ⟨w.heap.size, 2, none⟩) (show w.heap.size < X.heap.size by have := hWX.size; omega) t2x p
                clear x0 x1 x2 x3 t4 t2 c0
                refine wp_region_quiet_below hYa (by kernel_rfl) (by kernel_rfl) ?_
                repeat (go_big_quiet_step (fail))
                refine wpQuiet_nil ?_
                intro wb hw'
                have hYz : Below X.heap.size X wb := by obtain ⟨pq, rfl⟩ := hw'; exact pq.h
                clear hw'
                clear fx0 fx1 fx2 fx3 ft4 fc0 ft2
                obtain ⟨-, x0, x1, x2, x3, t4, t2, c0⟩ := Mk.out wb hYz
                go_wp2
                refine ⟨⟨k + 1, by omega, by go_num, by rw [HSu.out, HP1.out, Int.add_assoc], by rw [HSu.out], ?_⟩, by simp [intOf]; omega⟩
                exact Hbr.out.trans ((HbX.out.trans (hYz.mono HbX.out.size)).mono Hbr.out.size)
              · obtain ⟨j, hj⟩ : ∃ j, j + 1 = k := ⟨k - 1, by omega⟩
                have hpv := HPv.out j hj
                have hnv := HNe.out j hj
                generalize (L[j]'(by omega)).1 = pn at hpv hnv
                have hnq : (gn.toList == pn.toList) = false := by
                  cases h : (gn.toList == pn.toList) with
                  | false => rfl
                  | true => exact absurd ((sameS_iff gn pn).1 h) hnv
                have hkd : decide ((0 : Int) < (k : Int)) = true := decide_eq_true (by omega)
                have hkd2 : decide (0 < k) = true := decide_eq_true (by omega)
                have hjw : IntKind.i64.wrap ((k : Int) - 1) = (j : Int) := by rw [show (k : Int) - 1 = (j : Int) by omega]; exact IntWalk.i64_in _ (by omega)
                have hj0 : (0 : Int) ≤ (j : Int) := Int.natCast_nonneg _
                have hj1 : (j : Int) < (L.length : Int) := by omega
                have hj2 : j < L.length := by omega
                have Mk := Lib.hid (show ∀ w' : World, Below X.heap.size X w' → (fun w' : World => Below X.heap.size X w' ∧ w'.cell? ⟨wr.heap.size, 0, none⟩ = some (.string gn) ∧ w'.cell? ⟨wr.heap.size, 1, none⟩ = some (.int .i64 gs) ∧ w'.cell? ⟨wr.heap.size, 2, none⟩ = some (.int .i64 gu) ∧ w'.cell? ⟨wr.heap.size, 3, none⟩ = some (.int .i64 0) ∧ w'.cell? ⟨w.heap.size, 4, none⟩ = some (Value.slice ba bs.length bc) ∧ w'.cell? ⟨w.heap.size, 2, none⟩ = some (Value.bool false) ∧ w'.cell? ⟨w.heap.size + 1, 0, none⟩ = some (Value.slice ha hol.length hc) ∧ w'.cell? ⟨gL, oL + j * 4, none⟩ = some (.string pn)) w' from fun w' h => by
                  obtain ⟨t0, t1, t2, t3, t4, t5, t6, c0, c1, c2, c3, c4, c5, c6, c7, c8, c9, c10, c11, c12, c13⟩ := HM.out w' (hWX.trans (h.mono hWX.size))
                  have r := (h.block _ hzX).trans HrX.out
                  exact ⟨h, cell_of_row w' _ 0 _ _ _ r, cell_of_row w' _ 1 _ _ _ r, cell_of_row w' _ 2 _ _ _ r, cell_of_row w' _ 3 _ _ _ r, t4, t2, c0, ((HbX.out.trans (h.mono HbX.out.size)).cell (p := ⟨gL, _, none⟩) hBr).trans hpv⟩)
                clear hkz hpv hnv hj
                exact absurd (of_decide_eq_true hkd2) (by omega)
            · have hend : L.length = k := by omega
              have HTk := Lib.hid (show sumU L k = u.un - free by rw [← hend]; exact HT.out)
              have e4 : ((u.un - free) == (u.un - free)) = true := beq_self_eq_true _
              rw [HTk.out]
              clear hend
              go_wp2_with fail
              refine (awake30_calls _).mono ?_
              rintro e wz ⟨rfl, hbz⟩
              have hbz := HWr.out.trans (hbz.mono HWr.out.size)
              go_wp2
              go_ret
              exact ⟨rfl, Hw0.out.trans (hbz.mono Hw0.out.size)⟩
      · have hkb : (u.kd == 1) = false := beq_eq_false_iff_ne.2 hk
        have HBe := Lib.hid (show beginU u free = u.st from if_neg hk)
        have hl1 : L.length = 1 := HOne.out (fun h => hk h.1)
        have hln : ((L.length : Int) != 1) = false := bne_eq_false_iff_eq.2 (by omega)
        have hll : L.length < 2 := by omega
        clear hk hl1
        go_upto_region 14 with (fail)
        go_loopw [7, 8, 9] (fun a8 s8 i wr => ∃ k : Nat, k ≤ L.length ∧ i = .int .i64 k ∧ a8 = .int .i64 (u.st + sumU L k) ∧ s8 = .int .i64 (sumU L k) ∧ Below w3.heap.size w3 wr) (fun _ _ i _ => L.length - (intOf i).toNat)
        case atStart => exact ⟨0, Nat.zero_le _, rfl, by rw [sumU_zero, Int.add_zero], rfl, Below.refl _ _⟩
        case round =>
          obtain ⟨k, hkL, rfl, rfl, rfl, hbr⟩ := hrel
          have Hbr := Lib.hid hbr
          have HWr := Lib.hid (Hb3.out.trans (hbr.mono Hb3.out.size))
          clear t0 t1 t2 t3 t4 t5 t6 c0 c1 c2 c3 c4 c5 c6 c7 c8 c9 c10 c11 c12 c13
          obtain ⟨t0, t1, t2, t3, t4, t5, t6, c0, c1, c2, c3, c4, c5, c6, c7, c8, c9, c10, c11, c12, c13⟩ := HM.out wr HWr.out
          by_cases hlt : k < L.length
          · obtain ⟨p1, p2, p3, p4, p5, p6, p7, p8, p9⟩ := HU.out k hlt
            rw [HBe.out] at p1
            have HSu := Lib.hid (sumU_succ hlt)
            obtain ⟨aL2, cL2, e2, -, -, hx⟩ := HSL.out
            cases e2
            obtain ⟨gL, oL, rfl, hB3, hx⟩ := hx (by rintro rfl; cases hlt)
            obtain ⟨d0, d1, d2, d3⟩ := hx k hlt
            have hBr : gL < wr.heap.size := Nat.lt_of_lt_of_le hB3 hbr.size
            have q0 := (hbr.cell (p := ⟨gL, _, none⟩) hB3).trans d0
            have q1 := (hbr.cell (p := ⟨gL, _, none⟩) hB3).trans d1
            have q2 := (hbr.cell (p := ⟨gL, _, none⟩) hB3).trans d2
            have q3 := (hbr.cell (p := ⟨gL, _, none⟩) hB3).trans d3
            have HPv := Lib.hid (show ∀ j (hj : j + 1 = k), wr.cell? ⟨gL, oL + j * 4, none⟩ = some (.string (L[j]'(by omega)).1) from fun j hj => (hbr.cell (p := ⟨gL, _, none⟩) hB3).trans (hx j (by omega)).1)
            have HNe := Lib.hid p6
            have HAe := Lib.hid p5
            have hk0 : (0 : Int) ≤ (k : Int) := Int.natCast_nonneg _
            have hk1 : (k : Int) < (L.length : Int) := by omega
            clear hx d0 d1 d2 d3 p5 p6
            generalize L[k] = g at *
            obtain ⟨gn, gs, gu, ga⟩ := g
            dsimp only at q0 q1 q2 q3 p1 p2 p3 p4 p8 HSu HAe HNe
            subst p3
            generalize sumU L k = su at *
            rw [← p1]
            have hw1 : IntKind.i64.wrap (gs + gu) = gs + gu := IntWalk.i64_in _ (by omega)
            have hw2 : IntKind.i64.wrap (su + gu) = su + gu := IntWalk.i64_in _ (by omega)
            have hw3 : IntKind.i64.wrap (gs + gu - 1) = gs + gu - 1 := IntWalk.i64_in _ (by omega)
            have HP1 := Lib.hid p1
            obtain ⟨X, hX⟩ : ∃ X, X = wr.alloc (Obj.cells #[Value.string gn, .int .i64 gs, .int .i64 gu, .int .i64 0] 52) := ⟨_, rfl⟩
            have hbX : Below wr.heap.size wr X := by rw [hX]; exact (Below.refl _ _).alloc (Nat.le_refl _) _
            have rX : X.heap[wr.heap.size]? = some (Obj.cells #[Value.string gn, .int .i64 gs, .int .i64 gu, .int .i64 0] 52) := by rw [hX]; exact heap_alloc_new _ _
            have hzX : wr.heap.size < X.heap.size := by rw [hX]; simp
            have hWX := HWr.out.trans (hbX.mono HWr.out.size)
            have HX := Lib.hid hX
            have HA1 := Lib.hid (show ∀ w1, Below X.heap.size X w1 → Calls Try.prog 26 #[.slice ba bs.length bc, .slice ha hol.length hc, .int .i64 gs] w1 (StrTo gn w1) from fun w1 h => p4 ▸ HAt.out gs w1 (hWX.trans (h.mono hWX.size)))
            skip
            have e1 : (gs != gs) = false := bne_self_eq_false _
            have e2 : (gn.toList != gn.toList) = false := bne_self_eq_false _
            have e3 : (gn.toList == gn.toList) = true := beq_self_eq_true _
            have e5 : decide (gu < 1) = false := decide_eq_false (by omega)
            have e6 : decide (gu ≤ 0) = false := decide_eq_false (by omega)
            have hrX := Below.refl X.heap.size X
            have HrX := Lib.hid rX
            have HbX := Lib.hid hbX
            clear p1 hX rX p4
            go_upto_region 17 with (fail)
            rw [← HX.out]
            clear t0 t1 t2 t3 t4 t5 t6 c0 c1 c2 c3 c4 c5 c6 c7 c8 c9 c10 c11 c12 c13 q0 q1 q2 q3
            by_cases hkz : k = 0
            · have hkd : decide ((0 : Int) < (k : Int)) = false := decide_eq_false (by omega)
              have hkd2 : decide (0 < k) = false := decide_eq_false (by omega)
              have Mk := Lib.hid (show ∀ w' : World, Below X.heap.size X w' → (fun w' : World => Below X.heap.size X w' ∧ w'.cell? ⟨wr.heap.size, 0, none⟩ = some (.string gn) ∧ w'.cell? ⟨wr.heap.size, 1, none⟩ = some (.int .i64 gs) ∧ w'.cell? ⟨wr.heap.size, 2, none⟩ = some (.int .i64 gu) ∧ w'.cell? ⟨wr.heap.size, 3, none⟩ = some (.int .i64 0) ∧ w'.cell? ⟨w.heap.size, 4, none⟩ = some (Value.slice ba bs.length bc) ∧ w'.cell? ⟨w.heap.size, 2, none⟩ = some (Value.bool sl) ∧ w'.cell? ⟨w.heap.size + 1, 0, none⟩ = some (Value.slice ha hol.length hc)) w' from fun w' h => by
                obtain ⟨t0, t1, t2, t3, t4, t5, t6, c0, c1, c2, c3, c4, c5, c6, c7, c8, c9, c10, c11, c12, c13⟩ := HM.out w' (hWX.trans (h.mono hWX.size))
                have r := (h.block _ hzX).trans HrX.out
                exact ⟨h, cell_of_row w' _ 0 _ _ _ r, cell_of_row w' _ 1 _ _ _ r, cell_of_row w' _ 2 _ _ _ r, cell_of_row w' _ 3 _ _ _ r, t4, t2, c0⟩)
              clear hkz
              obtain ⟨-, x0, x1, x2, x3, t4, t2, c0⟩ := Mk.out X hrX
              have t2x := (Mk.out X hrX).2.2.2.2.2.2.1
              have fx0 := fun p : BelowOf X => BelowOf.cell hzX x0 p
              have fx1 := fun p : BelowOf X => BelowOf.cell hzX x1 p
              have fx2 := fun p : BelowOf X => BelowOf.cell hzX x2 p
              have fx3 := fun p : BelowOf X => BelowOf.cell hzX x3 p
              have ft4 := fun p : BelowOf X => BelowOf.cell (a := ⟨w.heap.size, 4, none⟩) (show w.heap.size < X.heap.size by have := hWX.size; omega) t4 p
              have fc0 := fun p : BelowOf X => BelowOf.cell (a := ⟨w.heap.size + 1, 0, none⟩) (show w.heap.size + 1 < X.heap.size by have := hWX.size; omega) c0 p
              clear x0 x1 x2 x3 t4 t2 c0
              refine wp_region_quiet_below hrX (by kernel_rfl) (by kernel_rfl) ?_
              repeat (go_big_quiet_step (first | (go_at_call 26; refine calls_below_of (HA1.out _ (BelowOf.h _)) (fun e w' h => h))))
              refine wpQuiet_nil ?_
              intro wa hw'
              have hYa : Below X.heap.size X wa := by obtain ⟨pq, rfl⟩ := hw'; exact pq.h
              clear hw'
              obtain ⟨-, x0, x1, x2, x3, t4, t2, c0⟩ := Mk.out wa hYa
              go_upto_region 19 with (fail)
              have ft2 := fun p : BelowOf X => BelowOf.cell (a := ⟨w.heap.size, 2, none⟩) (show w.heap.size < X.heap.size by have := hWX.size; omega) t2x p
              clear x0 x1 x2 x3 t4 t2 c0
              refine wp_region_quiet_below hYa (by kernel_rfl) (by kernel_rfl) ?_
              repeat (go_big_quiet_step (fail))
              refine wpQuiet_nil ?_
              intro wb hw'
              have hYz : Below X.heap.size X wb := by obtain ⟨pq, rfl⟩ := hw'; exact pq.h
              clear hw'
              clear fx0 fx1 fx2 fx3 ft4 fc0 ft2
              obtain ⟨-, x0, x1, x2, x3, t4, t2, c0⟩ := Mk.out wb hYz
              go_wp2
              refine ⟨⟨k + 1, by omega, by go_num, by rw [HSu.out, HP1.out, Int.add_assoc], by rw [HSu.out], ?_⟩, by simp [intOf]; omega⟩
              exact Hbr.out.trans ((HbX.out.trans (hYz.mono HbX.out.size)).mono Hbr.out.size)
            · obtain ⟨j, hj⟩ : ∃ j, j + 1 = k := ⟨k - 1, by omega⟩
              have hpv := HPv.out j hj
              have hnv := HNe.out j hj
              generalize (L[j]'(by omega)).1 = pn at hpv hnv
              have hnq : (gn.toList == pn.toList) = false := by
                cases h : (gn.toList == pn.toList) with
                | false => rfl
                | true => exact absurd ((sameS_iff gn pn).1 h) hnv
              have hkd : decide ((0 : Int) < (k : Int)) = true := decide_eq_true (by omega)
              have hkd2 : decide (0 < k) = true := decide_eq_true (by omega)
              have hjw : IntKind.i64.wrap ((k : Int) - 1) = (j : Int) := by rw [show (k : Int) - 1 = (j : Int) by omega]; exact IntWalk.i64_in _ (by omega)
              have hj0 : (0 : Int) ≤ (j : Int) := Int.natCast_nonneg _
              have hj1 : (j : Int) < (L.length : Int) := by omega
              have hj2 : j < L.length := by omega
              have Mk := Lib.hid (show ∀ w' : World, Below X.heap.size X w' → (fun w' : World => Below X.heap.size X w' ∧ w'.cell? ⟨wr.heap.size, 0, none⟩ = some (.string gn) ∧ w'.cell? ⟨wr.heap.size, 1, none⟩ = some (.int .i64 gs) ∧ w'.cell? ⟨wr.heap.size, 2, none⟩ = some (.int .i64 gu) ∧ w'.cell? ⟨wr.heap.size, 3, none⟩ = some (.int .i64 0) ∧ w'.cell? ⟨w.heap.size, 4, none⟩ = some (Value.slice ba bs.length bc) ∧ w'.cell? ⟨w.heap.size, 2, none⟩ = some (Value.bool sl) ∧ w'.cell? ⟨w.heap.size + 1, 0, none⟩ = some (Value.slice ha hol.length hc) ∧ w'.cell? ⟨gL, oL + j * 4, none⟩ = some (.string pn)) w' from fun w' h => by
                obtain ⟨t0, t1, t2, t3, t4, t5, t6, c0, c1, c2, c3, c4, c5, c6, c7, c8, c9, c10, c11, c12, c13⟩ := HM.out w' (hWX.trans (h.mono hWX.size))
                have r := (h.block _ hzX).trans HrX.out
                exact ⟨h, cell_of_row w' _ 0 _ _ _ r, cell_of_row w' _ 1 _ _ _ r, cell_of_row w' _ 2 _ _ _ r, cell_of_row w' _ 3 _ _ _ r, t4, t2, c0, ((HbX.out.trans (h.mono HbX.out.size)).cell (p := ⟨gL, _, none⟩) hBr).trans hpv⟩)
              clear hkz hpv hnv hj
              exact absurd (of_decide_eq_true hkd2) (by omega)
          · have hend : L.length = k := by omega
            have HTk := Lib.hid (show sumU L k = u.un - free by rw [← hend]; exact HT.out)
            have e4 : ((u.un - free) == (u.un - free)) = true := beq_self_eq_true _
            rw [HTk.out]
            clear hend
            go_wp2_with fail
            refine (awake30_calls _).mono ?_
            rintro e wz ⟨rfl, hbz⟩
            have hbz := HWr.out.trans (hbz.mono HWr.out.size)
            go_wp2
            go_ret
            exact ⟨rfl, Hw0.out.trans (hbz.mono Hw0.out.size)⟩
end Go.Proofs.Ytnekgkmlodeckaa
