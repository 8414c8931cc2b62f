/-
  The laws of chapter 30: small tariffs; segments, prices and rates against the reference's.
-/
import Derived.Test.YtnekgkmlodeckaaMgbu
import Derived.Test.YtnekgkmlodeckaaMgbp
import Derived.Test.YtnekgkmlodeckaaMgbw
import Derived.Test.YtnekgkmlodeckaaMgaw
namespace Go.Proofs.Ytnekgkmlodeckaa
open Go.RowKit

set_option maxRecDepth 100000 in
set_option maxHeartbeats 3200000 in
theorem small30_calls (nm : ByteArray) (fr : Int) (sl : Bool) (zv bv rv dv vh : Value) (zs : List Zn) (bs : List Bn) (rs : List Rt) (ds : List (Nat × List Value)) (hol : List Int) (w : World) (hz : ZnsAt w zv zs) (hbs : BnsAt w bv bs) (hr : RtsAt w rv rs) (hd : DssAt w dv ds) (hh : IcsAt w vh hol) :
    Calls Try.prog 20 #[.agg #[Value.string nm, .int .i64 fr, .bool sl, zv, bv, rv, dv], vh] w (SomeB w) := by
  obtain ⟨W, hW⟩ : ∃ W, W = w.alloc (Obj.cells #[Value.string nm, .int .i64 fr, .bool sl, zv, bv, rv, dv] 27) := ⟨_, rfl⟩
  have hw0 : Below w.heap.size w W := by rw [hW]; exact (Below.refl _ _).alloc (Nat.le_refl _) _
  have r0 : W.heap[w.heap.size]? = some (Obj.cells #[Value.string nm, .int .i64 fr, .bool sl, zv, bv, rv, dv] 27) := by rw [hW]; exact heap_alloc_new _ _
  have HS := Lib.hid (small_calls nm fr sl zv bv rv dv zs bs rs ds W (hz.below hw0) (hbs.below hw0) (hr.below hw0) (hd.below hw0))
  have HB := Lib.hid (fun r w' (h : Below W.heap.size W w') => (⟨r, rfl, hw0.trans (h.mono hw0.size)⟩ : SomeB w (.returned (.bool r)) w'))
  obtain ⟨za, zc, rfl, -, -, -⟩ := hz
  obtain ⟨ba, bc, rfl, -, -, -⟩ := hbs
  obtain ⟨ra, rc, rfl, -, -, -⟩ := hr
  obtain ⟨da, dc, rfl, -, -, -⟩ := hd
  obtain ⟨ha, hc, rfl, -, -, -⟩ := hh
  have y := fun j => cell_of_row W _ j _ _ _ r0
  have t0 := y 0
  have t1 := y 1
  have t2 := y 2
  have t3 := y 3
  have t4 := y 4
  have t5 := y 5
  have t6 := y 6
  have HW := Lib.hid hW
  clear hW hw0 r0 y
  go_enter Try.func20, Try.ntmps20
  go_upto_region 1 with (fail)
  rw [← HW.out]
  go_wp2_with fail
  refine HS.out.mono ?_
  rintro e w1 ⟨r, rfl, hb1⟩
  clear t0 t1 t2 t3 t4 t5 t6
  by_cases hl : (hol.length : Int) ≤ 60
  all_goals
    cases r
    all_goals
      go_wp2
      go_ret
      exact HB.out _ _ hb1

set_option maxRecDepth 100000 in
set_option maxHeartbeats 12800000 in
theorem cuts30_law (nm : ByteArray) (fr : Int) (sl : Bool) (zv bv rv dv vh : Value) (zs : List Zn) (bs : List Bn) (rs : List Rt) (ds : List (Nat × List Value)) (hol : List Int) (u : Us) (free : Int) (w : World) (hz : ZnsAt w zv zs) (hbs : BnsAt w bv bs) (hr : RtsAt w rv rs) (hd : DssAt w dv ds) (hh : IcsAt w vh hol) :
    Calls Try.prog 4 #[.agg #[Value.string nm, .int .i64 fr, .bool sl, zv, bv, rv, dv], .agg #[vh, .int .i64 u.id, .int .i64 u.kd, .int .i64 u.ac, .int .i64 u.sb, .string u.a, .string u.b, .int .i64 u.st, .int .i64 u.un, .int .i64 u.tr, .bool u.ib, .int .i64 u.so, .int .i64 u.se, .int .i64 free]] w (BoolTo true w) := by
  obtain ⟨W, hW⟩ : ∃ W, W = (w.alloc (Obj.cells #[Value.string nm, .int .i64 fr, .bool sl, zv, bv, rv, dv] 27)).alloc (Obj.cells #[vh, .int .i64 u.id, .int .i64 u.kd, .int .i64 u.ac, .int .i64 u.sb, .string u.a, .string u.b, .int .i64 u.st, .int .i64 u.un, .int .i64 u.tr, .bool u.ib, .int .i64 u.so, .int .i64 u.se, .int .i64 free] 42) := ⟨_, rfl⟩
  obtain ⟨hw0, hzW, r0, r1⟩ := rows2 hW
  have HSm := Lib.hid (small30_calls nm fr sl zv bv rv dv vh zs bs rs ds hol W (hz.below hw0) (hbs.below hw0) (hr.below hw0) (hd.below hw0) (hh.below hw0))
  have H1 := Lib.hid (fun w1 (hb : Below W.heap.size W w1) => scut_calls nm fr sl zv bv rv dv vh bs hol u free w1 hz.isSl hr.isSl hd.isSl ((hbs.below hw0).below hb) ((hh.below hw0).below hb))
  have H2 := Lib.hid (fun w1 (hb : Below W.heap.size W w1) => rscut_calls nm fr sl zv bv rv dv vh bs hol u free w1 hz.isSl hr.isSl hd.isSl ((hbs.below hw0).below hb) ((hh.below hw0).below hb))
  obtain ⟨za, zc, rfl, -, -, -⟩ := hz
  obtain ⟨ba, bc, rfl, -, -, -⟩ := hbs
  obtain ⟨ra, rc, rfl, -, -, -⟩ := hr
  obtain ⟨da, dc, rfl, -, -, -⟩ := hd
  obtain ⟨ha, hc, rfl, -, -, -⟩ := hh
  unfold Us.row at *
  have HM := Lib.hid (show ∀ w', Below W.heap.size W w' → w'.cell? ⟨w.heap.size, 0, none⟩ = some (Value.string nm) ∧ w'.cell? ⟨w.heap.size, 1, none⟩ = some (Value.int .i64 fr) ∧ w'.cell? ⟨w.heap.size, 2, none⟩ = some (Value.bool sl) ∧ w'.cell? ⟨w.heap.size, 3, none⟩ = some (Value.slice za zs.length zc) ∧ w'.cell? ⟨w.heap.size, 4, none⟩ = some (Value.slice ba bs.length bc) ∧ w'.cell? ⟨w.heap.size, 5, none⟩ = some (Value.slice ra rs.length rc) ∧ w'.cell? ⟨w.heap.size, 6, none⟩ = some (Value.slice da ds.length dc) ∧ w'.cell? ⟨w.heap.size + 1, 0, none⟩ = some (Value.slice ha hol.length hc) ∧ w'.cell? ⟨w.heap.size + 1, 1, none⟩ = some (.int .i64 u.id) ∧ w'.cell? ⟨w.heap.size + 1, 2, none⟩ = some (.int .i64 u.kd) ∧ w'.cell? ⟨w.heap.size + 1, 3, none⟩ = some (.int .i64 u.ac) ∧ w'.cell? ⟨w.heap.size + 1, 4, none⟩ = some (.int .i64 u.sb) ∧ w'.cell? ⟨w.heap.size + 1, 5, none⟩ = some (.string u.a) ∧ w'.cell? ⟨w.heap.size + 1, 6, none⟩ = some (.string u.b) ∧ w'.cell? ⟨w.heap.size + 1, 7, none⟩ = some (.int .i64 u.st) ∧ w'.cell? ⟨w.heap.size + 1, 8, none⟩ = some (.int .i64 u.un) ∧ w'.cell? ⟨w.heap.size + 1, 9, none⟩ = some (.int .i64 u.tr) ∧ w'.cell? ⟨w.heap.size + 1, 10, none⟩ = some (.bool u.ib) ∧ w'.cell? ⟨w.heap.size + 1, 11, none⟩ = some (.int .i64 u.so) ∧ w'.cell? ⟨w.heap.size + 1, 12, none⟩ = some (.int .i64 u.se) ∧ w'.cell? ⟨w.heap.size + 1, 13, none⟩ = some (.int .i64 free) from fun w' hb => by
    have g0 := (hb.block _ (by omega)).trans r0
    have g1 := (hb.block _ (by omega)).trans r1
    exact ⟨cell_of_row w' _ 0 _ _ _ g0, cell_of_row w' _ 1 _ _ _ g0, cell_of_row w' _ 2 _ _ _ g0, cell_of_row w' _ 3 _ _ _ g0, cell_of_row w' _ 4 _ _ _ g0, cell_of_row w' _ 5 _ _ _ g0, cell_of_row w' _ 6 _ _ _ g0, cell_of_row w' _ 0 _ _ _ g1, cell_of_row w' _ 1 _ _ _ g1, cell_of_row w' _ 2 _ _ _ g1, cell_of_row w' _ 3 _ _ _ g1, cell_of_row w' _ 4 _ _ _ g1, cell_of_row w' _ 5 _ _ _ g1, cell_of_row w' _ 6 _ _ _ g1, cell_of_row w' _ 7 _ _ _ g1, cell_of_row w' _ 8 _ _ _ g1, cell_of_row w' _ 9 _ _ _ g1, cell_of_row w' _ 10 _ _ _ g1, cell_of_row w' _ 11 _ _ _ g1, cell_of_row w' _ 12 _ _ _ g1, cell_of_row w' _ 13 _ _ _ g1⟩)
  have HW := Lib.hid hW
  have Hw0 := Lib.hid hw0
  clear hW hw0 r0 r1
  obtain ⟨t0, t1, t2, t3, t4, t5, t6, c0, c1, c2, c3, c4, c5, c6, c7, c8, c9, c10, c11, c12, c13⟩ := HM.out W (Below.refl _ _)
  go_enter Try.func4, Try.ntmps4
  go_upto_region 1 with (fail)
  rw [← HW.out]
  go_wp2_with fail
  refine HSm.out.mono ?_
  rintro e w1 ⟨r, rfl, hb1⟩
  clear t0 t1 t2 t3 t4 t5 t6 c0 c1 c2 c3 c4 c5 c6 c7 c8 c9 c10 c11 c12 c13
  cases r with
  | false =>
    go_wp2_with fail
    refine (awake30_calls _).mono ?_
    rintro e wz ⟨rfl, hbz⟩
    have hbz := hb1.trans (hbz.mono hb1.size)
    go_wp2
    go_ret
    exact ⟨rfl, Hw0.out.trans (hbz.mono Hw0.out.size)⟩
  | true =>
    have hr1 := Below.refl w1.heap.size w1
    have Mk := Lib.hid (show ∀ w' : World, Below w1.heap.size w1 w' → Below w1.heap.size w1 w' ∧ w'.cell? ⟨w.heap.size, 0, none⟩ = some (Value.string nm) ∧ w'.cell? ⟨w.heap.size, 1, none⟩ = some (Value.int .i64 fr) ∧ w'.cell? ⟨w.heap.size, 2, none⟩ = some (Value.bool sl) ∧ w'.cell? ⟨w.heap.size, 3, none⟩ = some (Value.slice za zs.length zc) ∧ w'.cell? ⟨w.heap.size, 4, none⟩ = some (Value.slice ba bs.length bc) ∧ w'.cell? ⟨w.heap.size, 5, none⟩ = some (Value.slice ra rs.length rc) ∧ w'.cell? ⟨w.heap.size, 6, none⟩ = some (Value.slice da ds.length dc) ∧ w'.cell? ⟨w.heap.size + 1, 0, none⟩ = some (Value.slice ha hol.length hc) ∧ w'.cell? ⟨w.heap.size + 1, 1, none⟩ = some (.int .i64 u.id) ∧ w'.cell? ⟨w.heap.size + 1, 2, none⟩ = some (.int .i64 u.kd) ∧ w'.cell? ⟨w.heap.size + 1, 3, none⟩ = some (.int .i64 u.ac) ∧ w'.cell? ⟨w.heap.size + 1, 4, none⟩ = some (.int .i64 u.sb) ∧ w'.cell? ⟨w.heap.size + 1, 5, none⟩ = some (.string u.a) ∧ w'.cell? ⟨w.heap.size + 1, 6, none⟩ = some (.string u.b) ∧ w'.cell? ⟨w.heap.size + 1, 7, none⟩ = some (.int .i64 u.st) ∧ w'.cell? ⟨w.heap.size + 1, 8, none⟩ = some (.int .i64 u.un) ∧ w'.cell? ⟨w.heap.size + 1, 9, none⟩ = some (.int .i64 u.tr) ∧ w'.cell? ⟨w.heap.size + 1, 10, none⟩ = some (.bool u.ib) ∧ w'.cell? ⟨w.heap.size + 1, 11, none⟩ = some (.int .i64 u.so) ∧ w'.cell? ⟨w.heap.size + 1, 12, none⟩ = some (.int .i64 u.se) ∧ w'.cell? ⟨w.heap.size + 1, 13, none⟩ = some (.int .i64 free) from fun w' h => ⟨h, HM.out w' (hb1.trans (h.mono hb1.size))⟩)
    go_upto_region 3 with (fail)
    go_region_held3 (fun w' : World => Below w1.heap.size w1 w' ∧ w'.cell? ⟨w.heap.size, 0, none⟩ = some (Value.string nm) ∧ w'.cell? ⟨w.heap.size, 1, none⟩ = some (Value.int .i64 fr) ∧ w'.cell? ⟨w.heap.size, 2, none⟩ = some (Value.bool sl) ∧ w'.cell? ⟨w.heap.size, 3, none⟩ = some (Value.slice za zs.length zc) ∧ w'.cell? ⟨w.heap.size, 4, none⟩ = some (Value.slice ba bs.length bc) ∧ w'.cell? ⟨w.heap.size, 5, none⟩ = some (Value.slice ra rs.length rc) ∧ w'.cell? ⟨w.heap.size, 6, none⟩ = some (Value.slice da ds.length dc) ∧ w'.cell? ⟨w.heap.size + 1, 0, none⟩ = some (Value.slice ha hol.length hc) ∧ w'.cell? ⟨w.heap.size + 1, 1, none⟩ = some (.int .i64 u.id) ∧ w'.cell? ⟨w.heap.size + 1, 2, none⟩ = some (.int .i64 u.kd) ∧ w'.cell? ⟨w.heap.size + 1, 3, none⟩ = some (.int .i64 u.ac) ∧ w'.cell? ⟨w.heap.size + 1, 4, none⟩ = some (.int .i64 u.sb) ∧ w'.cell? ⟨w.heap.size + 1, 5, none⟩ = some (.string u.a) ∧ w'.cell? ⟨w.heap.size + 1, 6, none⟩ = some (.string u.b) ∧ w'.cell? ⟨w.heap.size + 1, 7, none⟩ = some (.int .i64 u.st) ∧ w'.cell? ⟨w.heap.size + 1, 8, none⟩ = some (.int .i64 u.un) ∧ w'.cell? ⟨w.heap.size + 1, 9, none⟩ = some (.int .i64 u.tr) ∧ w'.cell? ⟨w.heap.size + 1, 10, none⟩ = some (.bool u.ib) ∧ w'.cell? ⟨w.heap.size + 1, 11, none⟩ = some (.int .i64 u.so) ∧ w'.cell? ⟨w.heap.size + 1, 12, none⟩ = some (.int .i64 u.se) ∧ w'.cell? ⟨w.heap.size + 1, 13, none⟩ = some (.int .i64 free))
      (first
        | with_reducible exact Mk.out _ (by assumption)
        | with_reducible exact Mk.out _ (Below.drew (by assumption)))
      (first
        | (go_at_call 22
           with_reducible (refine (H1.out _ (hb1.trans (Below.mono (And.left (by assumption)) hb1.size))).mono ?_)
           rintro e wa ⟨va, LA, rfl, hown, hSa, hbz⟩
           have hYa : Below w1.heap.size w1 wa := Below.trans (And.left (by assumption)) (hbz.mono (Below.size (And.left (by assumption))))
           have Hba := Lib.hid hbz
           have HSa := Lib.hid hSa
           have HPa := Lib.hid (SgsAt.own hown)
           obtain ⟨aa, ca, rfl, -, -⟩ := own_shape hown
           clear hbz hown hSa)
        | (go_at_call 23
           with_reducible (refine (H2.out _ (hb1.trans (Below.mono (And.left (by assumption)) hb1.size))).mono ?_)
           rintro e wb ⟨vb, LB, rfl, hown, hSb, hbz⟩
           have hYb : Below w1.heap.size w1 wb := Below.trans (And.left (by assumption)) (hbz.mono (Below.size (And.left (by assumption))))
           have Hbb := Lib.hid hbz
           have HSb := Lib.hid hSb
           have HPb := Lib.hid (SgsAt.own hown)
           obtain ⟨ab, cb, rfl, -, -⟩ := own_shape hown
           clear hbz hown hSb)
        | (go_at_call 21
           (first
             | refine (sgsame_calls _ _ LA _ (HPa.out.below Hbb.out) (SegR.one HSb.out HSa.out ▸ HPb.out)).mono ?_
             | refine (sgsame_calls _ _ LA _ HPa.out (SegR.one HSb.out HSa.out ▸ (HPb.out.below Hba.out))).mono ?_)
           rintro e wc ⟨rfl, hbz⟩
           have hYc : Below w1.heap.size w1 wc := Below.trans (And.left (by assumption)) (hbz.mono (Below.size (And.left (by assumption))))
           clear hbz)
        | (go_at_call 16
           with_reducible (refine (awake30_calls _).mono ?_)
           rintro e wg ⟨rfl, hbz⟩
           have hYg : Below w1.heap.size w1 wg := Below.trans (And.left (by assumption)) (hbz.mono (Below.size (And.left (by assumption))))
           clear hbz))
    all_goals
      go_wp2
      go_ret
      exact ⟨rfl, Hw0.out.trans ((hb1.trans (hYg.mono hb1.size)).mono Hw0.out.size)⟩

set_option maxRecDepth 100000 in
set_option maxHeartbeats 12800000 in
theorem prices30_law (nm : ByteArray) (fr : Int) (sl : Bool) (zv bv rv dv vh : Value) (zs : List Zn) (bs : List Bn) (rs : List Rt) (ds : List (Nat × List Value)) (hol : List Int) (u : Us) (free : Int) (w : World) (hz : ZnsAt w zv zs) (hbs : BnsAt w bv bs) (hr : RtsAt w rv rs) (hd : DssAt w dv ds) (hh : IcsAt w vh hol) (hub : u.b.size ≤ maxLen) (hsm : ∀ r ∈ rs, r.2.2.2.2.length ≤ 5864062014634) :
    Calls Try.prog 5 #[.agg #[Value.string nm, .int .i64 fr, .bool sl, zv, bv, rv, dv], .agg #[vh, .int .i64 u.id, .int .i64 u.kd, .int .i64 u.ac, .int .i64 u.sb, .string u.a, .string u.b, .int .i64 u.st, .int .i64 u.un, .int .i64 u.tr, .bool u.ib, .int .i64 u.so, .int .i64 u.se, .int .i64 free]] w (BoolTo true w) := by
  obtain ⟨W, hW⟩ : ∃ W, W = (w.alloc (Obj.cells #[Value.string nm, .int .i64 fr, .bool sl, zv, bv, rv, dv] 27)).alloc (Obj.cells #[vh, .int .i64 u.id, .int .i64 u.kd, .int .i64 u.ac, .int .i64 u.sb, .string u.a, .string u.b, .int .i64 u.st, .int .i64 u.un, .int .i64 u.tr, .bool u.ib, .int .i64 u.so, .int .i64 u.se, .int .i64 free] 42) := ⟨_, rfl⟩
  obtain ⟨hw0, hzW, r0, r1⟩ := rows2 hW
  have HSm := Lib.hid (small30_calls nm fr sl zv bv rv dv vh zs bs rs ds hol W (hz.below hw0) (hbs.below hw0) (hr.below hw0) (hd.below hw0) (hh.below hw0))
  have H1 := Lib.hid (fun w1 (hb : Below W.heap.size W w1) => sprice_calls nm fr sl zv bv rv dv vh zs bs rs hol u free w1 ((hz.below hw0).below hb) ((hbs.below hw0).below hb) ((hr.below hw0).below hb) hd.isSl ((hh.below hw0).below hb) hub hsm)
  have H2 := Lib.hid (fun w1 (hb : Below W.heap.size W w1) => rsprice_calls nm fr sl zv bv rv dv vh zs bs rs hol u free w1 ((hz.below hw0).below hb) ((hbs.below hw0).below hb) ((hr.below hw0).below hb) hd.isSl ((hh.below hw0).below hb) hub)
  obtain ⟨za, zc, rfl, -, -, -⟩ := hz
  obtain ⟨ba, bc, rfl, -, -, -⟩ := hbs
  obtain ⟨ra, rc, rfl, -, -, -⟩ := hr
  obtain ⟨da, dc, rfl, -, -, -⟩ := hd
  obtain ⟨ha, hc, rfl, -, -, -⟩ := hh
  unfold Us.row at *
  have HM := Lib.hid (show ∀ w', Below W.heap.size W w' → w'.cell? ⟨w.heap.size, 0, none⟩ = some (Value.string nm) ∧ w'.cell? ⟨w.heap.size, 1, none⟩ = some (Value.int .i64 fr) ∧ w'.cell? ⟨w.heap.size, 2, none⟩ = some (Value.bool sl) ∧ w'.cell? ⟨w.heap.size, 3, none⟩ = some (Value.slice za zs.length zc) ∧ w'.cell? ⟨w.heap.size, 4, none⟩ = some (Value.slice ba bs.length bc) ∧ w'.cell? ⟨w.heap.size, 5, none⟩ = some (Value.slice ra rs.length rc) ∧ w'.cell? ⟨w.heap.size, 6, none⟩ = some (Value.slice da ds.length dc) ∧ w'.cell? ⟨w.heap.size + 1, 0, none⟩ = some (Value.slice ha hol.length hc) ∧ w'.cell? ⟨w.heap.size + 1, 1, none⟩ = some (.int .i64 u.id) ∧ w'.cell? ⟨w.heap.size + 1, 2, none⟩ = some (.int .i64 u.kd) ∧ w'.cell? ⟨w.heap.size + 1, 3, none⟩ = some (.int .i64 u.ac) ∧ w'.cell? ⟨w.heap.size + 1, 4, none⟩ = some (.int .i64 u.sb) ∧ w'.cell? ⟨w.heap.size + 1, 5, none⟩ = some (.string u.a) ∧ w'.cell? ⟨w.heap.size + 1, 6, none⟩ = some (.string u.b) ∧ w'.cell? ⟨w.heap.size + 1, 7, none⟩ = some (.int .i64 u.st) ∧ w'.cell? ⟨w.heap.size + 1, 8, none⟩ = some (.int .i64 u.un) ∧ w'.cell? ⟨w.heap.size + 1, 9, none⟩ = some (.int .i64 u.tr) ∧ w'.cell? ⟨w.heap.size + 1, 10, none⟩ = some (.bool u.ib) ∧ w'.cell? ⟨w.heap.size + 1, 11, none⟩ = some (.int .i64 u.so) ∧ w'.cell? ⟨w.heap.size + 1, 12, none⟩ = some (.int .i64 u.se) ∧ w'.cell? ⟨w.heap.size + 1, 13, none⟩ = some (.int .i64 free) from fun w' hb => by
    have g0 := (hb.block _ (by omega)).trans r0
    have g1 := (hb.block _ (by omega)).trans r1
    exact ⟨cell_of_row w' _ 0 _ _ _ g0, cell_of_row w' _ 1 _ _ _ g0, cell_of_row w' _ 2 _ _ _ g0, cell_of_row w' _ 3 _ _ _ g0, cell_of_row w' _ 4 _ _ _ g0, cell_of_row w' _ 5 _ _ _ g0, cell_of_row w' _ 6 _ _ _ g0, cell_of_row w' _ 0 _ _ _ g1, cell_of_row w' _ 1 _ _ _ g1, cell_of_row w' _ 2 _ _ _ g1, cell_of_row w' _ 3 _ _ _ g1, cell_of_row w' _ 4 _ _ _ g1, cell_of_row w' _ 5 _ _ _ g1, cell_of_row w' _ 6 _ _ _ g1, cell_of_row w' _ 7 _ _ _ g1, cell_of_row w' _ 8 _ _ _ g1, cell_of_row w' _ 9 _ _ _ g1, cell_of_row w' _ 10 _ _ _ g1, cell_of_row w' _ 11 _ _ _ g1, cell_of_row w' _ 12 _ _ _ g1, cell_of_row w' _ 13 _ _ _ g1⟩)
  have HW := Lib.hid hW
  have Hw0 := Lib.hid hw0
  clear hW hw0 r0 r1
  obtain ⟨t0, t1, t2, t3, t4, t5, t6, c0, c1, c2, c3, c4, c5, c6, c7, c8, c9, c10, c11, c12, c13⟩ := HM.out W (Below.refl _ _)
  clear hsm
  go_enter Try.func5, Try.ntmps5
  go_upto_region 1 with (fail)
  rw [← HW.out]
  go_wp2_with fail
  refine HSm.out.mono ?_
  rintro e w1 ⟨r, rfl, hb1⟩
  clear t0 t1 t2 t3 t4 t5 t6 c0 c1 c2 c3 c4 c5 c6 c7 c8 c9 c10 c11 c12 c13
  obtain ⟨t0, t1, t2, t3, t4, t5, t6, c0, c1, c2, c3, c4, c5, c6, c7, c8, c9, c10, c11, c12, c13⟩ := HM.out w1 hb1
  cases r with
  | false =>
    go_wp2_with fail
    refine (awake30_calls _).mono ?_
    rintro e wz ⟨rfl, hbz⟩
    have hbz := hb1.trans (hbz.mono hb1.size)
    go_wp2
    go_ret
    exact ⟨rfl, Hw0.out.trans (hbz.mono Hw0.out.size)⟩
  | true =>
    by_cases hlb : (u.b.size : Int) > 300
    · go_wp2_with fail
      refine (awake30_calls _).mono ?_
      rintro e wz ⟨rfl, hbz⟩
      have hbz := hb1.trans (hbz.mono hb1.size)
      go_wp2
      go_ret
      exact ⟨rfl, Hw0.out.trans (hbz.mono Hw0.out.size)⟩
    · go_wp2_with fail
      refine (H1.out w1 hb1).mono ?_
      rintro e wa ⟨L, va, hSa, rfl, hPa, hbz⟩
      have hba := hb1.trans (hbz.mono hb1.size)
      clear t0 t1 t2 t3 t4 t5 t6 c0 c1 c2 c3 c4 c5 c6 c7 c8 c9 c10 c11 c12 c13 hbz
      obtain ⟨t0, t1, t2, t3, t4, t5, t6, c0, c1, c2, c3, c4, c5, c6, c7, c8, c9, c10, c11, c12, c13⟩ := HM.out wa hba
      have HSa := Lib.hid hSa
      have HPa := Lib.hid hPa
      clear hSa hPa
      go_wp2_with fail
      refine (H2.out wa hba).mono ?_
      rintro e wb ⟨M, vb, hSb, rfl, hPb, hbz⟩
      obtain rfl := SegR.one hSb HSa.out
      have hPa := HPa.out.below hbz
      have hbb := hba.trans (hbz.mono hba.size)
      generalize priceS rs u.kd (findZ zs u.b).1 M = p at *
      obtain ⟨Q, su, er⟩ := p
      dsimp only at hPa hPb ⊢
      have HSame := Lib.hid (sgsame_calls va vb Q wb hPa hPb)
      clear t0 t1 t2 t3 t4 t5 t6 c0 c1 c2 c3 c4 c5 c6 c7 c8 c9 c10 c11 c12 c13 hbz hSb HSa HPa
      obtain ⟨aa, ca, rfl, -, -, -⟩ := hPa
      obtain ⟨ab, cb, rfl, -, -, -⟩ := hPb
      go_wp2_with fail
      refine HSame.out.mono ?_
      rintro e wc ⟨rfl, hbz⟩
      have hbc := hbb.trans (hbz.mono hbb.size)
      clear hbz
      go_wp2_with fail
      refine (awake30_calls _).mono ?_
      rintro e wg ⟨rfl, hbz⟩
      have hbg := hbc.trans (hbz.mono hbc.size)
      go_wp2
      go_ret
      exact ⟨rfl, Hw0.out.trans (hbg.mono Hw0.out.size)⟩

set_option maxRecDepth 100000 in
set_option maxHeartbeats 12800000 in
theorem rates30_law (nm : ByteArray) (fr : Int) (sl : Bool) (zv bv rv dv : Value) (zs : List Zn) (bs : List Bn) (rs : List Rt) (ds : List (Nat × List Value)) (kd : Int) (zn bn : ByteArray) (w : World) (hz : ZnsAt w zv zs) (hbs : BnsAt w bv bs) (hr : RtsAt w rv rs) (hd : DssAt w dv ds) (hsm : ∀ r ∈ rs, r.2.2.2.2.length ≤ 5864062014634) :
    Calls Try.prog 3 #[.agg #[Value.string nm, .int .i64 fr, .bool sl, zv, bv, rv, dv], .int .i64 kd, .agg #[.string zn, .string bn]] w (BoolTo true w) := by
  obtain ⟨W, hW⟩ : ∃ W, W = (w.alloc (Obj.cells #[Value.string nm, .int .i64 fr, .bool sl, zv, bv, rv, dv] 27)).alloc (Obj.cells #[Value.string zn, .string bn] 28) := ⟨_, rfl⟩
  obtain ⟨hw0, hzW, r0, r1⟩ := rows2 hW
  have HSm := Lib.hid (small_calls nm fr sl zv bv rv dv zs bs rs ds W (hz.below hw0) (hbs.below hw0) (hr.below hw0) (hd.below hw0))
  have H1 := Lib.hid (fun w1 (hb : Below W.heap.size W w1) => rate_calls nm fr sl zv bv rv dv rs kd zn bn w1 hz.isSl hbs.isSl hd.isSl ((hr.below hw0).below hb) hsm)
  have H2 := Lib.hid (fun w1 (hb : Below W.heap.size W w1) => rrate_calls nm fr sl zv bv rv dv rs kd zn bn W w1 hb hz.isSl hbs.isSl hd.isSl (hr.below hw0))
  obtain ⟨za, zc, rfl, -, -, -⟩ := hz
  obtain ⟨ba, bc, rfl, -, -, -⟩ := hbs
  obtain ⟨ra, rc, rfl, -, -, -⟩ := hr
  obtain ⟨da, dc, rfl, -, -, -⟩ := hd
  have HM := Lib.hid (show ∀ w', Below W.heap.size W w' → w'.cell? ⟨w.heap.size, 0, none⟩ = some (Value.string nm) ∧ w'.cell? ⟨w.heap.size, 1, none⟩ = some (Value.int .i64 fr) ∧ w'.cell? ⟨w.heap.size, 2, none⟩ = some (Value.bool sl) ∧ w'.cell? ⟨w.heap.size, 3, none⟩ = some (Value.slice za zs.length zc) ∧ w'.cell? ⟨w.heap.size, 4, none⟩ = some (Value.slice ba bs.length bc) ∧ w'.cell? ⟨w.heap.size, 5, none⟩ = some (Value.slice ra rs.length rc) ∧ w'.cell? ⟨w.heap.size, 6, none⟩ = some (Value.slice da ds.length dc) ∧ w'.cell? ⟨w.heap.size + 1, 0, none⟩ = some (Value.string zn) ∧ w'.cell? ⟨w.heap.size + 1, 1, none⟩ = some (Value.string bn) from fun w' hb => by
    have g0 := (hb.block _ (by omega)).trans r0
    have g1 := (hb.block _ (by omega)).trans r1
    exact ⟨cell_of_row w' _ 0 _ _ _ g0, cell_of_row w' _ 1 _ _ _ g0, cell_of_row w' _ 2 _ _ _ g0, cell_of_row w' _ 3 _ _ _ g0, cell_of_row w' _ 4 _ _ _ g0, cell_of_row w' _ 5 _ _ _ g0, cell_of_row w' _ 6 _ _ _ g0, cell_of_row w' _ 0 _ _ _ g1, cell_of_row w' _ 1 _ _ _ g1⟩)
  generalize hro : rateF kd zn bn rs = ro at *
  obtain ⟨xr, hxr⟩ : ∃ xr, ro.getD zeroRt = xr := ⟨_, rfl⟩
  obtain ⟨xk, xz, xb, xs, xl⟩ := xr
  obtain ⟨ok, hok⟩ : ∃ ok, ro.isSome = ok := ⟨_, rfl⟩
  have K1 := Lib.hid (show ∀ w1, Below W.heap.size W w1 → Calls Try.prog 17 #[.agg #[Value.string nm, Value.int .i64 fr, Value.bool sl, Value.slice za zs.length zc, Value.slice ba bs.length bc, Value.slice ra rs.length rc, Value.slice da ds.length dc], .int .i64 kd, .string zn, .string bn] w1 fun e w' => ∃ sv, e = .returned (.tuple #[.agg #[.int .i64 xk, .string xz, .string xb, .int .i64 xs, sv], .bool ok]) ∧ StpAt w' sv xl ∧ Below w1.heap.size w1 w' ∧ ∀ g, sv.ownBlock = some g → w1.heap.size ≤ g from fun w1 hb => by
    have h := H1.out w1 hb
    unfold FreshTo at h
    rw [hxr, hok] at h
    exact h)
  have K2 := Lib.hid (show ∀ w1, Below W.heap.size W w1 → Calls Try.prog 18 #[.agg #[Value.string nm, Value.int .i64 fr, Value.bool sl, Value.slice za zs.length zc, Value.slice ba bs.length bc, Value.slice ra rs.length rc, Value.slice da ds.length dc], .int .i64 kd, .string zn, .string bn] w1 fun e w' => ∃ sv, e = .returned (.tuple #[.agg #[.int .i64 xk, .string xz, .string xb, .int .i64 xs, sv], .bool ok]) ∧ StpAt W sv xl ∧ Below w1.heap.size w1 w' from fun w1 hb => by
    have h := H2.out w1 hb
    unfold OldTo at h
    rw [hxr, hok] at h
    exact h)
  have HW := Lib.hid hW
  have Hw0 := Lib.hid hw0
  obtain ⟨t0, t1, t2, t3, t4, t5, t6, c0, c1⟩ := HM.out W (Below.refl _ _)
  clear hW hw0 r0 r1 hro hxr hok H1 H2 hsm
  go_enter Try.func3, Try.ntmps3
  go_upto_region 1 with (fail)
  rw [← HW.out]
  go_wp2_with fail
  refine HSm.out.mono ?_
  rintro e w1 ⟨r, rfl, hb1⟩
  clear t0 t1 t2 t3 t4 t5 t6 c0 c1
  obtain ⟨t0, t1, t2, t3, t4, t5, t6, c0, c1⟩ := HM.out w1 hb1
  cases r with
  | false =>
    go_wp2_with fail
    refine (awake30_calls _).mono ?_
    rintro e wz ⟨rfl, hbz⟩
    have hbz := hb1.trans (hbz.mono hb1.size)
    go_wp2
    go_ret
    exact ⟨rfl, Hw0.out.trans (hbz.mono Hw0.out.size)⟩
  | true =>
    go_wp2_with fail
    refine (K1.out w1 hb1).mono ?_
    rintro e wa ⟨sv, rfl, hst, hbz, -⟩
    have hba := hb1.trans (hbz.mono hb1.size)
    have HstA := Lib.hid hst
    obtain ⟨sa, sn, sc, rfl⟩ := SliceAt.isSl hst
    obtain ⟨X, hX⟩ : ∃ X, X = wa.alloc (Obj.cells #[Value.int .i64 xk, .string xz, .string xb, .int .i64 xs, .slice sa sn sc] 33) := ⟨_, rfl⟩
    have hbX : Below wa.heap.size wa X := by rw [hX]; exact (Below.refl _ _).alloc (Nat.le_refl _) _
    have rX : X.heap[wa.heap.size]? = some (Obj.cells #[Value.int .i64 xk, .string xz, .string xb, .int .i64 xs, .slice sa sn sc] 33) := by rw [hX]; exact heap_alloc_new _ _
    have hzX : wa.heap.size < X.heap.size := by rw [hX]; simp
    have HX := Lib.hid hX
    have hWX := hba.trans (hbX.mono hba.size)
    have HstX := Lib.hid (HstA.out.below hbX)
    have HrX := Lib.hid rX
    clear hst hbz hX rX t0 t1 t2 t3 t4 t5 t6 c0 c1
    obtain ⟨t0, t1, t2, t3, t4, t5, t6, c0, c1⟩ := HM.out X hWX
    go_upto_region 4 with (fail)
    rw [← HX.out]
    go_wp2_with fail
    refine (K2.out X hWX).mono ?_
    rintro e wb ⟨sv2, rfl, hst, hbz⟩
    have hbb := hWX.trans (hbz.mono hWX.size)
    obtain ⟨sa2, sn2, sc2, rfl⟩ := SliceAt.isSl hst
    obtain ⟨Y, hY⟩ : ∃ Y, Y = wb.alloc (Obj.cells #[Value.int .i64 xk, .string xz, .string xb, .int .i64 xs, .slice sa2 sn2 sc2] 33) := ⟨_, rfl⟩
    have hbY : Below wb.heap.size wb Y := by rw [hY]; exact (Below.refl _ _).alloc (Nat.le_refl _) _
    have rY : Y.heap[wb.heap.size]? = some (Obj.cells #[Value.int .i64 xk, .string xz, .string xb, .int .i64 xs, .slice sa2 sn2 sc2] 33) := by rw [hY]; exact heap_alloc_new _ _
    have hXY : Below X.heap.size X Y := hbz.trans (hbY.mono hbz.size)
    have rX2 := (hXY.block _ hzX).trans HrX.out
    have hWY := hWX.trans (hXY.mono hWX.size)
    have HSame := Lib.hid (rtsame_calls xk xz xb xs (.slice sa sn sc) (.slice sa2 sn2 sc2) xl Y (HstX.out.below hXY) (hst.below hWY))
    have q0 := cell_of_row Y _ 0 _ _ _ rX2
    have q1 := cell_of_row Y _ 1 _ _ _ rX2
    have q2 := cell_of_row Y _ 2 _ _ _ rX2
    have q3 := cell_of_row Y _ 3 _ _ _ rX2
    have q4 := cell_of_row Y _ 4 _ _ _ rX2
    have p0 := cell_of_row Y _ 0 _ _ _ rY
    have p1 := cell_of_row Y _ 1 _ _ _ rY
    have p2 := cell_of_row Y _ 2 _ _ _ rY
    have p3 := cell_of_row Y _ 3 _ _ _ rY
    have p4 := cell_of_row Y _ 4 _ _ _ rY
    have HY := Lib.hid hY
    clear hst hbz hY rY rX2 t0 t1 t2 t3 t4 t5 t6 c0 c1
    go_upto_region 5 with (fail)
    rw [← HY.out]
    cases ok
    all_goals
      go_wp2_with fail
      refine HSame.out.mono ?_
      rintro e wc ⟨rfl, hbz⟩
      have hbc := hWY.trans (hbz.mono hWY.size)
      go_wp2_with fail
      refine (awake30_calls _).mono ?_
      rintro e wg ⟨rfl, hbg⟩
      have hbg := hbc.trans (hbg.mono hbc.size)
      go_wp2
      go_ret
      exact ⟨rfl, Hw0.out.trans (hbg.mono Hw0.out.size)⟩
end Go.Proofs.Ytnekgkmlodeckaa
