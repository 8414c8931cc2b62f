/-
  The law of chapter 30 on free units: a call with free units is the call that begins that much later and is that much shorter.
-/
import Derived.Test.YtnekgkmlodeckaaMgbx
namespace Go.Proofs.Ytnekgkmlodeckaa
open Go.RowKit

/-- The call that begins later. -/
def laterU (u : Us) (free : Int) : Us := { u with st := u.st + free, un := u.un - free }
theorem segR_later {bs : List Bn} {hol : List Int} {sl : Bool} {u : Us} {free : Int} {L : List Sg} (h1 : u.kd = 1) (h2 : 0 ≤ free) (h3 : free < u.un) (h4 : u.un ≤ 604800) (h5 : 0 ≤ u.st) (h6 : u.st ≤ 12622780800 - u.un) (h : SegR bs hol sl (laterU u free) 0 L) : SegR bs hol sl u free L := by
  have p1 : properP u free = true := by
    unfold properP
    simp only [Bool.and_eq_true, Bool.or_eq_true, Bool.not_eq_true', Bool.or_eq_false_iff, decide_eq_true_eq, decide_eq_false_iff_not]
    omega
  have p2 : properP (laterU u free) 0 = true := by
    unfold properP laterU
    simp only [Bool.and_eq_true, Bool.or_eq_true, Bool.not_eq_true', Bool.or_eq_false_iff, decide_eq_true_eq, decide_eq_false_iff_not]
    omega
  have b1 : beginU u free = u.st + free := if_pos h1
  have b2 : beginU (laterU u free) 0 = u.st + free := by
    unfold beginU
    rw [if_pos (show (laterU u free).kd = 1 from h1)]
    show u.st + free + 0 = _
    omega
  have e1 : (laterU u free).st + (laterU u free).un = u.st + u.un := by show u.st + free + (u.un - free) = _; omega
  have e2 : (laterU u free).un - 0 = u.un - free := by show u.un - free - 0 = _; omega
  unfold SegR at h ⊢
  rw [p2, b2, e1, e2] at h
  rw [p1, b1]
  exact h
theorem rows3x {w V : World} {a b c : Obj} (hV : V = ((w.alloc a).alloc b).alloc c) : Below w.heap.size w V ∧ V.heap.size = w.heap.size + 3 ∧ V.heap[w.heap.size]? = some a ∧ V.heap[w.heap.size + 1]? = some b ∧ V.heap[w.heap.size + 2]? = some c := by
  subst hV
  have h1 : (w.alloc a).heap.size = w.heap.size + 1 := by simp
  have h2 : ((w.alloc a).alloc b).heap.size = w.heap.size + 2 := by simp
  refine ⟨(((Below.refl w.heap.size w).alloc (Nat.le_refl _) a).alloc (by simp) b).alloc (by simp; omega) c, by simp, ?_, ?_, ?_⟩
  · rw [Below.heap_alloc _ _ _ (by omega), Below.heap_alloc _ _ _ (by omega)]
    exact heap_alloc_new _ _
  · rw [Below.heap_alloc _ _ _ (by omega), ← h1]
    exact heap_alloc_new _ _
  · rw [← h2]
    exact heap_alloc_new _ _

set_option maxRecDepth 100000 in
set_option maxHeartbeats 12800000 in
theorem free30_law (nm : ByteArray) (fr : Int) (sl : Bool) (zv bv rv dv vh : Value) (zs : List Zn) (bs : List Bn) (rs : List Rt) (ds : List (Nat × List Value)) (hol : List Int) (u : Us) (free : Int) (w : World) (hz : ZnsAt w zv zs) (hbs : BnsAt w bv bs) (hr : RtsAt w rv rs) (hd : DssAt w dv ds) (hh : IcsAt w vh hol) (hub : u.b.size ≤ maxLen) (hsm : ∀ r ∈ rs, r.2.2.2.2.length ≤ 5864062014634) :
    Calls Try.prog 7 #[.agg #[Value.string nm, .int .i64 fr, .bool sl, zv, bv, rv, dv], .agg #[vh, .int .i64 u.id, .int .i64 u.kd, .int .i64 u.ac, .int .i64 u.sb, .string u.a, .string u.b, .int .i64 u.st, .int .i64 u.un, .int .i64 u.tr, .bool u.ib, .int .i64 u.so, .int .i64 u.se, .int .i64 free]] w (BoolTo true w) := by
  obtain ⟨W, hW⟩ : ∃ W, W = ((w.alloc (Obj.cells #[Value.string nm, .int .i64 fr, .bool sl, zv, bv, rv, dv] 27)).alloc (Obj.cells #[vh, .int .i64 u.id, .int .i64 u.kd, .int .i64 u.ac, .int .i64 u.sb, .string u.a, .string u.b, .int .i64 u.st, .int .i64 u.un, .int .i64 u.tr, .bool u.ib, .int .i64 u.so, .int .i64 u.se, .int .i64 free] 42)).alloc (Obj.cells #[Value.int .i64 u.id, .int .i64 u.kd, .int .i64 u.ac, .int .i64 u.sb, .string u.a, .string u.b, .int .i64 u.st, .int .i64 u.un, .int .i64 u.tr, .bool u.ib, .int .i64 u.so, .int .i64 u.se] 40) := ⟨_, rfl⟩
  obtain ⟨hw0, hzW, r0, r1, r2⟩ := rows3x hW
  have HSm := Lib.hid (small30_calls nm fr sl zv bv rv dv vh zs bs rs ds hol W (hz.below hw0) (hbs.below hw0) (hr.below hw0) (hd.below hw0) (hh.below hw0))
  have H1 := Lib.hid (fun w1 (hb : Below W.heap.size W w1) => sprice_calls nm fr sl zv bv rv dv vh zs bs rs hol u free w1 ((hz.below hw0).below hb) ((hbs.below hw0).below hb) ((hr.below hw0).below hb) hd.isSl ((hh.below hw0).below hb) hub hsm)
  have H2 := Lib.hid (fun w1 (hb : Below W.heap.size W w1) => sprice_calls nm fr sl zv bv rv dv vh zs bs rs hol (laterU u free) 0 w1 ((hz.below hw0).below hb) ((hbs.below hw0).below hb) ((hr.below hw0).below hb) hd.isSl ((hh.below hw0).below hb) hub hsm)
  have H3 := Lib.hid (fun w1 (hb : Below W.heap.size W w1) => scut_calls nm fr sl zv bv rv dv vh bs hol u free w1 hz.isSl hr.isSl hd.isSl ((hbs.below hw0).below hb) ((hh.below hw0).below hb))
  have H4 := Lib.hid (fun w1 (hb : Below W.heap.size W w1) => scut_calls nm fr sl zv bv rv dv vh bs hol (laterU u free) 0 w1 hz.isSl hr.isSl hd.isSl ((hbs.below hw0).below hb) ((hh.below hw0).below hb))
  obtain ⟨za, zc, rfl, -, -, -⟩ := hz
  obtain ⟨ba, bc, rfl, -, -, -⟩ := hbs
  obtain ⟨ra, rc, rfl, -, -, -⟩ := hr
  obtain ⟨da, dc, rfl, -, -, -⟩ := hd
  obtain ⟨ha, hc, rfl, -, -, -⟩ := hh
  unfold Us.row laterU at *
  dsimp only at H2 H4
  have HM := Lib.hid (show ∀ w', Below W.heap.size W w' → w'.cell? ⟨w.heap.size, 0, none⟩ = some (Value.string nm) ∧ w'.cell? ⟨w.heap.size, 1, none⟩ = some (Value.int .i64 fr) ∧ w'.cell? ⟨w.heap.size, 2, none⟩ = some (Value.bool sl) ∧ w'.cell? ⟨w.heap.size, 3, none⟩ = some (Value.slice za zs.length zc) ∧ w'.cell? ⟨w.heap.size, 4, none⟩ = some (Value.slice ba bs.length bc) ∧ w'.cell? ⟨w.heap.size, 5, none⟩ = some (Value.slice ra rs.length rc) ∧ w'.cell? ⟨w.heap.size, 6, none⟩ = some (Value.slice da ds.length dc) ∧ w'.cell? ⟨w.heap.size + 1, 0, none⟩ = some (Value.slice ha hol.length hc) ∧ w'.cell? ⟨w.heap.size + 1, 1, none⟩ = some (.int .i64 u.id) ∧ w'.cell? ⟨w.heap.size + 1, 2, none⟩ = some (.int .i64 u.kd) ∧ w'.cell? ⟨w.heap.size + 1, 3, none⟩ = some (.int .i64 u.ac) ∧ w'.cell? ⟨w.heap.size + 1, 4, none⟩ = some (.int .i64 u.sb) ∧ w'.cell? ⟨w.heap.size + 1, 5, none⟩ = some (.string u.a) ∧ w'.cell? ⟨w.heap.size + 1, 6, none⟩ = some (.string u.b) ∧ w'.cell? ⟨w.heap.size + 1, 7, none⟩ = some (.int .i64 u.st) ∧ w'.cell? ⟨w.heap.size + 1, 8, none⟩ = some (.int .i64 u.un) ∧ w'.cell? ⟨w.heap.size + 1, 9, none⟩ = some (.int .i64 u.tr) ∧ w'.cell? ⟨w.heap.size + 1, 10, none⟩ = some (.bool u.ib) ∧ w'.cell? ⟨w.heap.size + 1, 11, none⟩ = some (.int .i64 u.so) ∧ w'.cell? ⟨w.heap.size + 1, 12, none⟩ = some (.int .i64 u.se) ∧ w'.cell? ⟨w.heap.size + 1, 13, none⟩ = some (.int .i64 free) ∧ w'.cell? ⟨w.heap.size + 2, 0, none⟩ = some (.int .i64 u.id) ∧ w'.cell? ⟨w.heap.size + 2, 1, none⟩ = some (.int .i64 u.kd) ∧ w'.cell? ⟨w.heap.size + 2, 2, none⟩ = some (.int .i64 u.ac) ∧ w'.cell? ⟨w.heap.size + 2, 3, none⟩ = some (.int .i64 u.sb) ∧ w'.cell? ⟨w.heap.size + 2, 4, none⟩ = some (.string u.a) ∧ w'.cell? ⟨w.heap.size + 2, 5, none⟩ = some (.string u.b) ∧ w'.cell? ⟨w.heap.size + 2, 6, none⟩ = some (.int .i64 u.st) ∧ w'.cell? ⟨w.heap.size + 2, 7, none⟩ = some (.int .i64 u.un) ∧ w'.cell? ⟨w.heap.size + 2, 8, none⟩ = some (.int .i64 u.tr) ∧ w'.cell? ⟨w.heap.size + 2, 9, none⟩ = some (.bool u.ib) ∧ w'.cell? ⟨w.heap.size + 2, 10, none⟩ = some (.int .i64 u.so) ∧ w'.cell? ⟨w.heap.size + 2, 11, none⟩ = some (.int .i64 u.se) from fun w' hb => by
    have g0 := (hb.block _ (by omega)).trans r0
    have g1 := (hb.block _ (by omega)).trans r1
    have g2 := (hb.block _ (by omega)).trans r2
    exact ⟨cell_of_row w' _ 0 _ _ _ g0, cell_of_row w' _ 1 _ _ _ g0, cell_of_row w' _ 2 _ _ _ g0, cell_of_row w' _ 3 _ _ _ g0, cell_of_row w' _ 4 _ _ _ g0, cell_of_row w' _ 5 _ _ _ g0, cell_of_row w' _ 6 _ _ _ g0, cell_of_row w' _ 0 _ _ _ g1, cell_of_row w' _ 1 _ _ _ g1, cell_of_row w' _ 2 _ _ _ g1, cell_of_row w' _ 3 _ _ _ g1, cell_of_row w' _ 4 _ _ _ g1, cell_of_row w' _ 5 _ _ _ g1, cell_of_row w' _ 6 _ _ _ g1, cell_of_row w' _ 7 _ _ _ g1, cell_of_row w' _ 8 _ _ _ g1, cell_of_row w' _ 9 _ _ _ g1, cell_of_row w' _ 10 _ _ _ g1, cell_of_row w' _ 11 _ _ _ g1, cell_of_row w' _ 12 _ _ _ g1, cell_of_row w' _ 13 _ _ _ g1, cell_of_row w' _ 0 _ _ _ g2, cell_of_row w' _ 1 _ _ _ g2, cell_of_row w' _ 2 _ _ _ g2, cell_of_row w' _ 3 _ _ _ g2, cell_of_row w' _ 4 _ _ _ g2, cell_of_row w' _ 5 _ _ _ g2, cell_of_row w' _ 6 _ _ _ g2, cell_of_row w' _ 7 _ _ _ g2, cell_of_row w' _ 8 _ _ _ g2, cell_of_row w' _ 9 _ _ _ g2, cell_of_row w' _ 10 _ _ _ g2, cell_of_row w' _ 11 _ _ _ g2⟩)
  have HW := Lib.hid hW
  have Hw0 := Lib.hid hw0
  clear hW hw0 r0 r1 r2 hsm
  have q0 := HM.out
  obtain ⟨t0, t1, t2, t3, t4, t5, t6, c0, c1, c2, c3, c4, c5, c6, c7, c8, c9, c10, c11, c12, c13, -⟩ := HM.out W (Below.refl _ _)
  clear q0
  go_enter Try.func7, Try.ntmps7
  go_upto_region 2 with (fail)
  rw [← HW.out]
  go_wp2_with fail
  refine HSm.out.mono ?_
  rintro e w1 ⟨r, rfl, hb1⟩
  clear t0 t1 t2 t3 t4 t5 t6 c0 c1 c2 c3 c4 c5 c6 c7 c8 c9 c10 c11 c12 c13
  obtain ⟨t0, t1, t2, t3, t4, t5, t6, c0, c1, c2, c3, c4, c5, c6, c7, c8, c9, c10, c11, c12, c13, u0, u1, u2, u3, u4, u5, u6, u7, u8, u9, u10, u11⟩ := HM.out w1 hb1
  cases r with
  | false =>
    go_wp2_with fail
    refine (awake30_calls _).mono ?_
    rintro e wz ⟨rfl, hbz⟩
    have hbz := hb1.trans (hbz.mono hb1.size)
    go_wp2
    go_ret
    exact ⟨rfl, Hw0.out.trans (hbz.mono Hw0.out.size)⟩
  | true =>
    by_cases hg0 : (u.b.size : Int) > 300
    · skip
      go_wp2_with fail
      refine (awake30_calls _).mono ?_
      rintro e wz ⟨rfl, hbz⟩
      have hbz := hb1.trans (hbz.mono hb1.size)
      go_wp2
      go_ret
      exact ⟨rfl, Hw0.out.trans (hbz.mono Hw0.out.size)⟩
    by_cases hg1 : u.kd = 1
    rotate_left
    · have hkn : (u.kd != 1) = true := bne_iff_ne.2 hg1
      go_wp2_with fail
      refine (awake30_calls _).mono ?_
      rintro e wz ⟨rfl, hbz⟩
      have hbz := hb1.trans (hbz.mono hb1.size)
      go_wp2
      go_ret
      exact ⟨rfl, Hw0.out.trans (hbz.mono Hw0.out.size)⟩
    have hkn : (u.kd != 1) = false := bne_eq_false_iff_eq.2 hg1
    have HKd := Lib.hid hg1
    clear hg1
    by_cases hg2 : free < 0
    · skip
      go_wp2_with fail
      refine (awake30_calls _).mono ?_
      rintro e wz ⟨rfl, hbz⟩
      have hbz := hb1.trans (hbz.mono hb1.size)
      go_wp2
      go_ret
      exact ⟨rfl, Hw0.out.trans (hbz.mono Hw0.out.size)⟩
    by_cases hg3 : free ≥ u.un
    · skip
      go_wp2_with fail
      refine (awake30_calls _).mono ?_
      rintro e wz ⟨rfl, hbz⟩
      have hbz := hb1.trans (hbz.mono hb1.size)
      go_wp2
      go_ret
      exact ⟨rfl, Hw0.out.trans (hbz.mono Hw0.out.size)⟩
    by_cases hg4 : u.un > 604800
    · skip
      go_wp2_with fail
      refine (awake30_calls _).mono ?_
      rintro e wz ⟨rfl, hbz⟩
      have hbz := hb1.trans (hbz.mono hb1.size)
      go_wp2
      go_ret
      exact ⟨rfl, Hw0.out.trans (hbz.mono Hw0.out.size)⟩
    by_cases hg5 : u.st < 0
    · skip
      go_wp2_with fail
      refine (awake30_calls _).mono ?_
      rintro e wz ⟨rfl, hbz⟩
      have hbz := hb1.trans (hbz.mono hb1.size)
      go_wp2
      go_ret
      exact ⟨rfl, Hw0.out.trans (hbz.mono Hw0.out.size)⟩
    have hwf : IntKind.i64.wrap (12622780800 - u.un) = 12622780800 - u.un := IntWalk.i64_in _ (by omega)
    by_cases hg6 : u.st > 12622780800 - u.un
    · skip
      go_wp2_with fail
      refine (awake30_calls _).mono ?_
      rintro e wz ⟨rfl, hbz⟩
      have hbz := hb1.trans (hbz.mono hb1.size)
      go_wp2
      go_ret
      exact ⟨rfl, Hw0.out.trans (hbz.mono Hw0.out.size)⟩
    have hws : IntKind.i64.wrap (u.st + free) = u.st + free := IntWalk.i64_in _ (by omega)
    have hwu : IntKind.i64.wrap (u.un - free) = u.un - free := IntWalk.i64_in _ (by omega)
    have HLt := Lib.hid (fun L (h : SegR bs hol sl (laterU u free) 0 L) => segR_later HKd.out (by omega) (by omega) (by omega) (by omega) (by omega) h)
    unfold laterU at HLt
    try dsimp only at HLt
    go_wp2_with fail
    refine (H1.out w1 hb1).mono ?_
    rintro e wa ⟨L, va, hSa, rfl, hPa, hbz⟩
    have hba := hb1.trans (hbz.mono hb1.size)
    obtain ⟨Y, hY⟩ : ∃ Y, Y = wa.alloc (Obj.cells #[Value.int .i64 u.id, .int .i64 u.kd, .int .i64 u.ac, .int .i64 u.sb, .string u.a, .string u.b, .int .i64 (u.st + free), .int .i64 (u.un - free), .int .i64 u.tr, .bool u.ib, .int .i64 u.so, .int .i64 u.se] 40) := ⟨_, rfl⟩
    have hbY : Below wa.heap.size wa Y := by rw [hY]; exact (Below.refl _ _).alloc (Nat.le_refl _) _
    have rY : Y.heap[wa.heap.size]? = some (Obj.cells #[Value.int .i64 u.id, .int .i64 u.kd, .int .i64 u.ac, .int .i64 u.sb, .string u.a, .string u.b, .int .i64 (u.st + free), .int .i64 (u.un - free), .int .i64 u.tr, .bool u.ib, .int .i64 u.so, .int .i64 u.se] 40) := by rw [hY]; exact heap_alloc_new _ _
    have hzY : wa.heap.size < Y.heap.size := by rw [hY]; simp
    have hWY := hba.trans (hbY.mono hba.size)
    have Mk := Lib.hid (show ∀ w' : World, Below Y.heap.size Y w' → (fun w' : World => Below Y.heap.size Y w' ∧ w'.cell? ⟨w.heap.size, 0, none⟩ = some (Value.string nm) ∧ w'.cell? ⟨w.heap.size, 1, none⟩ = some (Value.int .i64 fr) ∧ w'.cell? ⟨w.heap.size, 2, none⟩ = some (Value.bool sl) ∧ w'.cell? ⟨w.heap.size, 3, none⟩ = some (Value.slice za zs.length zc) ∧ w'.cell? ⟨w.heap.size, 4, none⟩ = some (Value.slice ba bs.length bc) ∧ w'.cell? ⟨w.heap.size, 5, none⟩ = some (Value.slice ra rs.length rc) ∧ w'.cell? ⟨w.heap.size, 6, none⟩ = some (Value.slice da ds.length dc) ∧ w'.cell? ⟨w.heap.size + 1, 0, none⟩ = some (Value.slice ha hol.length hc) ∧ w'.cell? ⟨w.heap.size + 1, 13, none⟩ = some (.int .i64 free) ∧ w'.cell? ⟨w.heap.size + 2, 0, none⟩ = some (.int .i64 u.id) ∧ w'.cell? ⟨w.heap.size + 2, 1, none⟩ = some (.int .i64 u.kd) ∧ w'.cell? ⟨w.heap.size + 2, 2, none⟩ = some (.int .i64 u.ac) ∧ w'.cell? ⟨w.heap.size + 2, 3, none⟩ = some (.int .i64 u.sb) ∧ w'.cell? ⟨w.heap.size + 2, 4, none⟩ = some (.string u.a) ∧ w'.cell? ⟨w.heap.size + 2, 5, none⟩ = some (.string u.b) ∧ w'.cell? ⟨w.heap.size + 2, 6, none⟩ = some (.int .i64 u.st) ∧ w'.cell? ⟨w.heap.size + 2, 7, none⟩ = some (.int .i64 u.un) ∧ w'.cell? ⟨w.heap.size + 2, 8, none⟩ = some (.int .i64 u.tr) ∧ w'.cell? ⟨w.heap.size + 2, 9, none⟩ = some (.bool u.ib) ∧ w'.cell? ⟨w.heap.size + 2, 10, none⟩ = some (.int .i64 u.so) ∧ w'.cell? ⟨w.heap.size + 2, 11, none⟩ = some (.int .i64 u.se) ∧ w'.cell? ⟨wa.heap.size, 0, none⟩ = some (.int .i64 u.id) ∧ w'.cell? ⟨wa.heap.size, 1, none⟩ = some (.int .i64 u.kd) ∧ w'.cell? ⟨wa.heap.size, 2, none⟩ = some (.int .i64 u.ac) ∧ w'.cell? ⟨wa.heap.size, 3, none⟩ = some (.int .i64 u.sb) ∧ w'.cell? ⟨wa.heap.size, 4, none⟩ = some (.string u.a) ∧ w'.cell? ⟨wa.heap.size, 5, none⟩ = some (.string u.b) ∧ w'.cell? ⟨wa.heap.size, 6, none⟩ = some (.int .i64 (u.st + free)) ∧ w'.cell? ⟨wa.heap.size, 7, none⟩ = some (.int .i64 (u.un - free)) ∧ w'.cell? ⟨wa.heap.size, 8, none⟩ = some (.int .i64 u.tr) ∧ w'.cell? ⟨wa.heap.size, 9, none⟩ = some (.bool u.ib) ∧ w'.cell? ⟨wa.heap.size, 10, none⟩ = some (.int .i64 u.so) ∧ w'.cell? ⟨wa.heap.size, 11, none⟩ = some (.int .i64 u.se)) w' from fun w' h => by
      obtain ⟨t0, t1, t2, t3, t4, t5, t6, c0, c1, c2, c3, c4, c5, c6, c7, c8, c9, c10, c11, c12, c13, u0, u1, u2, u3, u4, u5, u6, u7, u8, u9, u10, u11⟩ := HM.out w' (hWY.trans (h.mono hWY.size))
      have g0 := (h.block _ hzY).trans rY
      exact ⟨h, t0, t1, t2, t3, t4, t5, t6, c0, c13, u0, u1, u2, u3, u4, u5, u6, u7, u8, u9, u10, u11, cell_of_row w' _ 0 _ _ _ g0, cell_of_row w' _ 1 _ _ _ g0, cell_of_row w' _ 2 _ _ _ g0, cell_of_row w' _ 3 _ _ _ g0, cell_of_row w' _ 4 _ _ _ g0, cell_of_row w' _ 5 _ _ _ g0, cell_of_row w' _ 6 _ _ _ g0, cell_of_row w' _ 7 _ _ _ g0, cell_of_row w' _ 8 _ _ _ g0, cell_of_row w' _ 9 _ _ _ g0, cell_of_row w' _ 10 _ _ _ g0, cell_of_row w' _ 11 _ _ _ g0⟩)
    have HY := Lib.hid hY
    have HSa := Lib.hid hSa
    have HPa := Lib.hid (hPa.below hbY)
    have Hba := Lib.hid hba
    clear t0 t1 t2 t3 t4 t5 t6 c0 c1 c2 c3 c4 c5 c6 c7 c8 c9 c10 c11 c12 c13 u0 u1 u2 u3 u4 u5 u6 u7 u8 u9 u10 u11 hbz hSa hPa hY rY hba
    obtain ⟨t0, t1, t2, t3, t4, t5, t6, c0, c1, c2, c3, c4, c5, c6, c7, c8, c9, c10, c11, c12, c13, u0, u1, u2, u3, u4, u5, u6, u7, u8, u9, u10, u11⟩ := HM.out wa Hba.out
    have z2 : w.heap.size + 2 < wa.heap.size := by have := Hba.out.size; omega
    have z1 : w.heap.size + 1 < wa.heap.size := by omega
    have z0 : w.heap.size < wa.heap.size := by omega
    have n2 : ¬ w.heap.size + 2 = wa.heap.size := by omega
    have n1 : ¬ w.heap.size + 1 = wa.heap.size := by omega
    have n0 : ¬ w.heap.size = wa.heap.size := by omega
    go_upto_region 8 with (fail)
    clear z2 z1 z0 n2 n1 n0
    rw [← HY.out]
    clear t0 t1 t2 t3 t4 t5 t6 c0 c1 c2 c3 c4 c5 c6 c7 c8 c9 c10 c11 c12 c13 u0 u1 u2 u3 u4 u5 u6 u7 u8 u9 u10 u11
    obtain ⟨-, t0, t1, t2, t3, t4, t5, t6, c0, c13, u0, u1, u2, u3, u4, u5, u6, u7, u8, u9, u10, u11, v0, v1, v2, v3, v4, v5, v6, v7, v8, v9, v10, v11⟩ := Mk.out Y (Below.refl _ _)
    go_wp2_with fail
    refine (H2.out Y hWY).mono ?_
    rintro e wb ⟨M, vb, hSb, rfl, hPb, hbz⟩
    obtain rfl := SegR.one (HLt.out M hSb) HSa.out
    have hPa := HPa.out.below hbz
    have HLb := Lib.hid hSb
    clear t0 t1 t2 t3 t4 t5 t6 c0 c13 u0 u1 u2 u3 u4 u5 u6 u7 u8 u9 u10 u11 v0 v1 v2 v3 v4 v5 v6 v7 v8 v9 v10 v11 hSb HPa
    generalize priceS rs u.kd (findZ zs u.b).1 M = p at *
    obtain ⟨Q, su, er⟩ := p
    dsimp only at hPa hPb ⊢
    have HQa := Lib.hid (fun w' (h : Below wb.heap.size wb w') => sgsame_calls va vb Q w' (hPa.below h) (hPb.below h))
    obtain ⟨aa, ca, rfl, -, -, -⟩ := hPa
    obtain ⟨ab, cb, rfl, -, -, -⟩ := hPb
    have e1 : (su == su) = true := beq_self_eq_true _
    have e2 : (er == er) = true := beq_self_eq_true _
    have Hbz := Lib.hid hbz
    obtain ⟨-, t0, t1, t2, t3, t4, t5, t6, c0, c13, u0, u1, u2, u3, u4, u5, u6, u7, u8, u9, u10, u11, v0, v1, v2, v3, v4, v5, v6, v7, v8, v9, v10, v11⟩ := Mk.out wb hbz
    have Mk2 := Lib.hid (show ∀ w' : World, Below wb.heap.size wb w' → (fun w' : World => Below wb.heap.size wb w' ∧ w'.cell? ⟨w.heap.size, 0, none⟩ = some (Value.string nm) ∧ w'.cell? ⟨w.heap.size, 1, none⟩ = some (Value.int .i64 fr) ∧ w'.cell? ⟨w.heap.size, 2, none⟩ = some (Value.bool sl) ∧ w'.cell? ⟨w.heap.size, 3, none⟩ = some (Value.slice za zs.length zc) ∧ w'.cell? ⟨w.heap.size, 4, none⟩ = some (Value.slice ba bs.length bc) ∧ w'.cell? ⟨w.heap.size, 5, none⟩ = some (Value.slice ra rs.length rc) ∧ w'.cell? ⟨w.heap.size, 6, none⟩ = some (Value.slice da ds.length dc) ∧ w'.cell? ⟨w.heap.size + 1, 0, none⟩ = some (Value.slice ha hol.length hc) ∧ w'.cell? ⟨w.heap.size + 1, 13, none⟩ = some (.int .i64 free) ∧ w'.cell? ⟨w.heap.size + 2, 0, none⟩ = some (.int .i64 u.id) ∧ w'.cell? ⟨w.heap.size + 2, 1, none⟩ = some (.int .i64 u.kd) ∧ w'.cell? ⟨w.heap.size + 2, 2, none⟩ = some (.int .i64 u.ac) ∧ w'.cell? ⟨w.heap.size + 2, 3, none⟩ = some (.int .i64 u.sb) ∧ w'.cell? ⟨w.heap.size + 2, 4, none⟩ = some (.string u.a) ∧ w'.cell? ⟨w.heap.size + 2, 5, none⟩ = some (.string u.b) ∧ w'.cell? ⟨w.heap.size + 2, 6, none⟩ = some (.int .i64 u.st) ∧ w'.cell? ⟨w.heap.size + 2, 7, none⟩ = some (.int .i64 u.un) ∧ w'.cell? ⟨w.heap.size + 2, 8, none⟩ = some (.int .i64 u.tr) ∧ w'.cell? ⟨w.heap.size + 2, 9, none⟩ = some (.bool u.ib) ∧ w'.cell? ⟨w.heap.size + 2, 10, none⟩ = some (.int .i64 u.so) ∧ w'.cell? ⟨w.heap.size + 2, 11, none⟩ = some (.int .i64 u.se) ∧ w'.cell? ⟨wa.heap.size, 0, none⟩ = some (.int .i64 u.id) ∧ w'.cell? ⟨wa.heap.size, 1, none⟩ = some (.int .i64 u.kd) ∧ w'.cell? ⟨wa.heap.size, 2, none⟩ = some (.int .i64 u.ac) ∧ w'.cell? ⟨wa.heap.size, 3, none⟩ = some (.int .i64 u.sb) ∧ w'.cell? ⟨wa.heap.size, 4, none⟩ = some (.string u.a) ∧ w'.cell? ⟨wa.heap.size, 5, none⟩ = some (.string u.b) ∧ w'.cell? ⟨wa.heap.size, 6, none⟩ = some (.int .i64 (u.st + free)) ∧ w'.cell? ⟨wa.heap.size, 7, none⟩ = some (.int .i64 (u.un - free)) ∧ w'.cell? ⟨wa.heap.size, 8, none⟩ = some (.int .i64 u.tr) ∧ w'.cell? ⟨wa.heap.size, 9, none⟩ = some (.bool u.ib) ∧ w'.cell? ⟨wa.heap.size, 10, none⟩ = some (.int .i64 u.so) ∧ w'.cell? ⟨wa.heap.size, 11, none⟩ = some (.int .i64 u.se)) w' from fun w' h => ⟨h, (Mk.out w' (Hbz.out.trans (h.mono Hbz.out.size))).2⟩)
    have hWb := hWY.trans (hbz.mono hWY.size)
    have hrb := Below.refl wb.heap.size wb
    clear hbz Mk
    go_upto_region 9 with (fail)
    go_region_held3 (fun w' : World => Below wb.heap.size wb w' ∧ w'.cell? ⟨w.heap.size, 0, none⟩ = some (Value.string nm) ∧ w'.cell? ⟨w.heap.size, 1, none⟩ = some (Value.int .i64 fr) ∧ w'.cell? ⟨w.heap.size, 2, none⟩ = some (Value.bool sl) ∧ w'.cell? ⟨w.heap.size, 3, none⟩ = some (Value.slice za zs.length zc) ∧ w'.cell? ⟨w.heap.size, 4, none⟩ = some (Value.slice ba bs.length bc) ∧ w'.cell? ⟨w.heap.size, 5, none⟩ = some (Value.slice ra rs.length rc) ∧ w'.cell? ⟨w.heap.size, 6, none⟩ = some (Value.slice da ds.length dc) ∧ w'.cell? ⟨w.heap.size + 1, 0, none⟩ = some (Value.slice ha hol.length hc) ∧ w'.cell? ⟨w.heap.size + 1, 13, none⟩ = some (.int .i64 free) ∧ w'.cell? ⟨w.heap.size + 2, 0, none⟩ = some (.int .i64 u.id) ∧ w'.cell? ⟨w.heap.size + 2, 1, none⟩ = some (.int .i64 u.kd) ∧ w'.cell? ⟨w.heap.size + 2, 2, none⟩ = some (.int .i64 u.ac) ∧ w'.cell? ⟨w.heap.size + 2, 3, none⟩ = some (.int .i64 u.sb) ∧ w'.cell? ⟨w.heap.size + 2, 4, none⟩ = some (.string u.a) ∧ w'.cell? ⟨w.heap.size + 2, 5, none⟩ = some (.string u.b) ∧ w'.cell? ⟨w.heap.size + 2, 6, none⟩ = some (.int .i64 u.st) ∧ w'.cell? ⟨w.heap.size + 2, 7, none⟩ = some (.int .i64 u.un) ∧ w'.cell? ⟨w.heap.size + 2, 8, none⟩ = some (.int .i64 u.tr) ∧ w'.cell? ⟨w.heap.size + 2, 9, none⟩ = some (.bool u.ib) ∧ w'.cell? ⟨w.heap.size + 2, 10, none⟩ = some (.int .i64 u.so) ∧ w'.cell? ⟨w.heap.size + 2, 11, none⟩ = some (.int .i64 u.se) ∧ w'.cell? ⟨wa.heap.size, 0, none⟩ = some (.int .i64 u.id) ∧ w'.cell? ⟨wa.heap.size, 1, none⟩ = some (.int .i64 u.kd) ∧ w'.cell? ⟨wa.heap.size, 2, none⟩ = some (.int .i64 u.ac) ∧ w'.cell? ⟨wa.heap.size, 3, none⟩ = some (.int .i64 u.sb) ∧ w'.cell? ⟨wa.heap.size, 4, none⟩ = some (.string u.a) ∧ w'.cell? ⟨wa.heap.size, 5, none⟩ = some (.string u.b) ∧ w'.cell? ⟨wa.heap.size, 6, none⟩ = some (.int .i64 (u.st + free)) ∧ w'.cell? ⟨wa.heap.size, 7, none⟩ = some (.int .i64 (u.un - free)) ∧ w'.cell? ⟨wa.heap.size, 8, none⟩ = some (.int .i64 u.tr) ∧ w'.cell? ⟨wa.heap.size, 9, none⟩ = some (.bool u.ib) ∧ w'.cell? ⟨wa.heap.size, 10, none⟩ = some (.int .i64 u.so) ∧ w'.cell? ⟨wa.heap.size, 11, none⟩ = some (.int .i64 u.se))
      (first
        | with_reducible exact Mk2.out _ (by assumption)
        | with_reducible exact Mk2.out _ (Below.drew (by assumption)))
      (first
        | (go_at_call 21
           with_reducible (refine (HQa.out _ (And.left (by assumption))).mono ?_)
           rintro e wc ⟨rfl, hbz⟩
           have hYc : Below wb.heap.size wb wc := Below.trans (And.left (by assumption)) (hbz.mono (Below.size (And.left (by assumption))))
           clear hbz)
        | (go_at_call 22
           with_reducible (refine (H3.out _ (hWb.trans (Below.mono (And.left (by assumption)) hWb.size))).mono ?_)
           rintro e wd ⟨vd, LA, rfl, hown, hSd, hbz⟩
           have hYd : Below wb.heap.size wb wd := Below.trans (And.left (by assumption)) (hbz.mono (Below.size (And.left (by assumption))))
           have Hbd := Lib.hid hbz
           have HSd := Lib.hid hSd
           have HPd := Lib.hid (SgsAt.own hown)
           obtain ⟨ad, cd, rfl, -, -⟩ := own_shape hown
           clear hbz hown hSd)
        | (go_at_call 22
           with_reducible (refine (H4.out _ (hWb.trans (Below.mono (And.left (by assumption)) hWb.size))).mono ?_)
           rintro e wf ⟨vf, LB, rfl, hown, hSf, hbz⟩
           have hYf : Below wb.heap.size wb wf := Below.trans (And.left (by assumption)) (hbz.mono (Below.size (And.left (by assumption))))
           have Hbf := Lib.hid hbz
           have HSf := Lib.hid (HLt.out LB hSf)
           have HPf := Lib.hid (SgsAt.own hown)
           obtain ⟨af, cf, rfl, -, -⟩ := own_shape hown
           clear hbz hown hSf)
        | (go_at_call 21
           (first
             | refine (sgsame_calls _ _ LA _ (HPd.out.below Hbf.out) (SegR.one HSf.out HSd.out ▸ HPf.out)).mono ?_
             | refine (sgsame_calls _ _ LA _ HPd.out (SegR.one HSf.out HSd.out ▸ (HPf.out.below Hbd.out))).mono ?_)
           rintro e wh ⟨rfl, hbz⟩
           have hYh : Below wb.heap.size wb wh := Below.trans (And.left (by assumption)) (hbz.mono (Below.size (And.left (by assumption))))
           clear hbz)
        | (go_at_call 16
           with_reducible (refine (awake30_calls _).mono ?_)
           rintro e wg ⟨rfl, hbz⟩
           have hYg : Below wb.heap.size wb wg := Below.trans (And.left (by assumption)) (hbz.mono (Below.size (And.left (by assumption))))
           clear hbz))
    all_goals
      go_wp2
      go_ret
      exact ⟨rfl, Hw0.out.trans ((hWb.trans (hYg.mono hWb.size)).mono Hw0.out.size)⟩
end Go.Proofs.Ytnekgkmlodeckaa
