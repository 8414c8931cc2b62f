/-
  The walk of the reference's price of a usage.
-/
import Derived.Test.YtnekgkmlodeckaaMgbt
import Derived.Test.YtnekgkmlodeckaaMgbo
import Derived.Test.YtnekgkmlodeckaaMgbs
namespace Go.Proofs.Ytnekgkmlodeckaa
open Go.RowKit

/-- A text that a call returns. -/
def TextTo (s : ByteArray) (w : World) (e : Ending) (w' : World) : Prop := e = .returned (.string s) ∧ Below w.heap.size w w'
theorem rzone30_calls (nm : ByteArray) (fr : Int) (sl : Bool) (zv bv rv dv : Value) (zs : List Zn) (u : Us) (w : World) (hz : ZnsAt w zv zs) (hb : IsSl bv) (hr : IsSl rv) (hd : IsSl dv) (hub : u.b.size ≤ maxLen) :
    Calls Try.prog 57 #[.agg #[.string nm, .int .i64 fr, .bool sl, zv, bv, rv, dv], .agg u.row] w (TextTo (findZ zs u.b).1 w) := by
  obtain ⟨W, hW⟩ : ∃ W, W = (w.alloc (Obj.cells #[Value.string nm, .int .i64 fr, .bool sl, zv, bv, rv, dv] 27)).alloc (Obj.cells u.row 40) := ⟨_, rfl⟩
  have hw0 : Below w.heap.size w W := by rw [hW]; go_grown
  have r0 : W.heap[w.heap.size]? = some (Obj.cells #[Value.string nm, .int .i64 fr, .bool sl, zv, bv, rv, dv] 27) := by
    rw [hW, Below.heap_alloc _ _ _ (by simp)]
    exact heap_alloc_new _ _
  have r1 : W.heap[w.heap.size + 1]? = some (Obj.cells u.row 40) := by
    rw [hW]
    simpa using heap_alloc_new (w.alloc (Obj.cells #[Value.string nm, .int .i64 fr, .bool sl, zv, bv, rv, dv] 27)) (Obj.cells u.row 40)
  have HF := Lib.hid (rFind_calls zv zs u.b W (hz.below hw0) hub)
  rw [← findZ_eq] at HF
  generalize findZ zs u.b = fz at *
  obtain ⟨z, zok⟩ := fz
  obtain ⟨za, zc, rfl, -, -, -⟩ := hz
  obtain ⟨ba, bl, bc, rfl⟩ := hb
  obtain ⟨ra, rl, rc, rfl⟩ := hr
  obtain ⟨da, dl, dc, rfl⟩ := hd
  have HW := Lib.hid hW
  have Hw0 := Lib.hid hw0
  unfold Us.row at *
  obtain ⟨id, kd, ac, sb, ua, ub, st, un, tr, ib, so, se⟩ := u
  dsimp only at r1 HW HF ⊢
  have t3 := cell_of_row W _ 3 _ _ _ r0
  have u5 := cell_of_row W _ 5 _ _ _ r1
  clear hW hw0 r0 r1
  go_enter Try.func57, Try.ntmps57
  go_upto_region 1 with (fail)
  rw [← HW.out]
  go_wp2_with fail
  refine HF.out.mono ?_
  rintro e w1 ⟨rfl, hb1⟩
  clear t3 u5
  have HB := Lib.hid (Hw0.out.trans (hb1.mono Hw0.out.size))
  go_wp2
  go_ret
  exact ⟨rfl, HB.out⟩
/-- The segments priced so far. -/
theorem withA_step {L : List Sg} {k : Nat} {am : List Int} (h : am.length = k) (hk : k < L.length) (a : Int) : withA (L.take (k + 1)) (am ++ [a]) = withA (L.take k) am ++ [(L[k].1, L[k].2.1, L[k].2.2.1, a)] := by
  unfold withA
  rw [List.take_succ_eq_append_getElem hk, List.zipWith_append (by rw [List.length_take]; omega)]
  rfl
theorem withA_len {L : List Sg} {k : Nat} {am : List Int} (h : am.length = k) (hk : k ≤ L.length) : (withA (L.take k) am).length = k := by
  unfold withA; rw [List.length_zipWith, List.length_take]; omega

set_option maxRecDepth 100000 in
set_option maxHeartbeats 12800000 in
theorem rsprice_calls (nm : ByteArray) (fr : Int) (sl : Bool) (zv bv rv dv vh : Value) (zs : List Zn) (bs : List Bn) (rs : List Rt) (hol : List Int) (u : Us) (free : Int) (w : World) (hz : ZnsAt w zv zs) (hbs : BnsAt w bv bs) (hr : RtsAt w rv rs) (hd : IsSl dv) (hh : IcsAt w vh hol) (hub : u.b.size ≤ maxLen) :
    Calls Try.prog 25 #[.agg #[.string nm, .int .i64 fr, .bool sl, zv, bv, rv, dv], vh, .agg u.row, .int .i64 free] w (PriceTo bs hol sl u free rs (findZ zs u.b).1 w) := by
  obtain ⟨W, hW⟩ : ∃ W, W = (w.alloc (Obj.cells #[Value.string nm, .int .i64 fr, .bool sl, zv, bv, rv, dv] 27)).alloc (Obj.cells u.row 40) := ⟨_, rfl⟩
  have hw0 : Below w.heap.size w W := by rw [hW]; go_grown
  have hzW : W.heap.size = w.heap.size + 2 := by rw [hW]; simp
  have r0 : W.heap[w.heap.size]? = some (Obj.cells #[Value.string nm, .int .i64 fr, .bool sl, zv, bv, rv, dv] 27) := by
    rw [hW, Below.heap_alloc _ _ _ (by simp)]
    exact heap_alloc_new _ _
  have r1 : W.heap[w.heap.size + 1]? = some (Obj.cells u.row 40) := by
    rw [hW]
    simpa using heap_alloc_new (w.alloc (Obj.cells #[Value.string nm, .int .i64 fr, .bool sl, zv, bv, rv, dv] 27)) (Obj.cells u.row 40)
  have HM := Lib.hid (show ∀ w', Below W.heap.size W w' → w'.heap[w.heap.size]? = some (Obj.cells #[Value.string nm, .int .i64 fr, .bool sl, zv, bv, rv, dv] 27) ∧ w'.heap[w.heap.size + 1]? = some (Obj.cells u.row 40) from fun w' hb => ⟨(hb.block _ (by omega)).trans r0, (hb.block _ (by omega)).trans r1⟩)
  have HW := Lib.hid hW
  have Hw0 := Lib.hid hw0
  have HCt := Lib.hid (fun w1 (hb : Below W.heap.size W w1) => rscut_calls nm fr sl zv bv rv dv vh bs hol u free w1 hz.isSl hr.isSl hd ((hbs.below hw0).below hb) ((hh.below hw0).below hb))
  have HRt := Lib.hid (fun kd zn bn w1 (hb : Below W.heap.size W w1) => rrate_calls nm fr sl zv bv rv dv rs kd zn bn W w1 hb hz.isSl hbs.isSl hd (hr.below hw0))
  have HZ := Lib.hid (fun w1 (hb : Below W.heap.size W w1) => rzone30_calls nm fr sl zv bv rv dv zs u w1 ((hz.below hw0).below hb) hbs.isSl hr.isSl hd hub)
  obtain ⟨za, zc, rfl, -, -, -⟩ := hz
  obtain ⟨ba, bc, rfl, -, -, -⟩ := hbs
  obtain ⟨ra, rc, rfl, -, -, -⟩ := hr
  obtain ⟨da, dl, dc, rfl⟩ := hd
  obtain ⟨ha, hc, rfl, -, -, -⟩ := hh
  have HPE := Lib.hid (fun L w' n (hL : SegR bs hol sl u free L) (h : priceS rs u.kd (findZ zs u.b).1 L = ([], 0, n)) (hb : Below w.heap.size w w') => priceTo_err hL h hb)
  have HPT := Lib.hid (show ∀ e w', PriceTo bs hol sl u free rs (findZ zs u.b).1 w e w' ↔ ∃ L v, SegR bs hol sl u free L ∧ e = .returned (.tuple #[v, .int .i64 (priceS rs u.kd (findZ zs u.b).1 L).2.1, .int .i64 (priceS rs u.kd (findZ zs u.b).1 L).2.2]) ∧ SgsAt w' v (priceS rs u.kd (findZ zs u.b).1 L).1 ∧ Below w.heap.size w w' from fun e w' => Iff.rfl)
  unfold Us.row at *
  obtain ⟨id, kd, ac, sb, ua, ub, st, un, tr, ib, so, se⟩ := u
  dsimp only at HM HW HZ HCt HPE HPT hub ⊢
  generalize hfz : findZ zs ub = fz at *
  obtain ⟨z, zok⟩ := fz
  dsimp only at HPE HPT HZ ⊢
  have HCt1 := Lib.hid (HCt.out W (Below.refl _ _))
  obtain ⟨m0, m1⟩ := HM.out W (Below.refl _ _)
  have y := fun j => cell_of_row W (w.heap.size + 1) j _ _ _ m1
  have u0 := y 0
  have u1 := y 1
  have u2 := y 2
  have u3 := y 3
  have u4 := y 4
  have u5 := y 5
  have u6 := y 6
  have u7 := y 7
  have u8 := y 8
  have u9 := y 9
  have u10 := y 10
  have u11 := y 11
  have x := fun j => cell_of_row W (w.heap.size) j _ _ _ m0
  have t0 := x 0
  have t1 := x 1
  have t2 := x 2
  have t3 := x 3
  have t4 := x 4
  have t5 := x 5
  have t6 := x 6
  clear hW hw0 r0 r1 m0 m1 x y hfz
  go_enter Try.func25, Try.ntmps25
  go_upto_region 1 with (fail)
  rw [← HW.out]
  go_wp2_with fail
  refine HCt1.out.mono ?_
  rintro e w3 ⟨vL, L, rfl, hown, hSeg, hb3⟩
  clear u0 u1 u2 u3 u4 u5 u6 u7 u8 u9 u10 u11 t0 t1 t2 t3 t4 t5 t6
  have HPE2 := Lib.hid (fun w' n h hb => HPE.out L w' n hSeg h hb)
  have HSeg := Lib.hid hSeg
  obtain ⟨hL1, hL2⟩ := segR_bounds hSeg
  have HL2 := Lib.hid hL2
  have HW3 := Lib.hid (show ∀ w', Below w3.heap.size w3 w' → Below W.heap.size W w' from fun w' h => hb3.trans (h.mono hb3.size))
  have HSL := Lib.hid (SgsAt.own hown)
  have h13 := hb3.size
  obtain ⟨aL, cL, rfl, hcl, hcm⟩ := own_shape hown
  unfold maxLen at hcm
  clear hSeg hL2 hown hb3
  go_wp2_with fail
  go_loopw [12, 13, 14, 15, 16] (fun vo bf su sm i wr => ∃ k : Nat, k ≤ L.length ∧ i = .int .i64 k ∧ su = .int .i64 (setupK rs kd z L k) ∧ ∃ (am : List Int) (b s : Int), PrSt rs kd z L k am b s ∧ sm = .int .i64 s ∧ bf = .int .i64 b ∧ 0 ≤ b ∧ b ≤ 1099511627776 * k ∧ 0 ≤ s ∧ s ≤ 1125899906842625 ∧ wr.ownsRow w3.heap.size 52 4 vo k ((withA (L.take k) am).flatMap sgCells) ∧ Below w3.heap.size w3 wr) (fun _ _ _ _ i _ => L.length - (intOf i).toNat)
  case atStart => exact ⟨0, Nat.zero_le _, rfl, rfl, [], 0, 0, prSt_zero _ _ _ _, rfl, rfl, Int.le_refl _, by simp, Int.le_refl _, by decide, ⟨rfl, Or.inl ⟨rfl, rfl⟩⟩, Below.refl _ _⟩
  case round =>
    obtain ⟨k, hk, rfl, rfl, am, b, sm, hPr, rfl, rfl, hb0, hb1', hs0, hs1, hownk, hbr⟩ := hrel
    have HPr := Lib.hid hPr
    obtain ⟨ao, co, rfl, hco, hcom⟩ := own_shape hownk
    unfold maxLen at hcom
    have HownK := Lib.hid hownk
    have Hbr := Lib.hid hbr
    clear hPr hownk
    by_cases hlt : k < L.length
    · have HWr := Lib.hid (HW3.out wr hbr)
      obtain ⟨m0, m1⟩ := HM.out wr HWr.out
      have t0 := cell_of_row wr _ 0 _ _ _ m0
      have t1 := cell_of_row wr _ 1 _ _ _ m0
      have t2 := cell_of_row wr _ 2 _ _ _ m0
      have t3 := cell_of_row wr _ 3 _ _ _ m0
      have t4 := cell_of_row wr _ 4 _ _ _ m0
      have t5 := cell_of_row wr _ 5 _ _ _ m0
      have t6 := cell_of_row wr _ 6 _ _ _ m0
      have u0 := cell_of_row wr _ 0 _ _ _ m1
      have u1 := cell_of_row wr _ 1 _ _ _ m1
      have u2 := cell_of_row wr _ 2 _ _ _ m1
      have u3 := cell_of_row wr _ 3 _ _ _ m1
      have u4 := cell_of_row wr _ 4 _ _ _ m1
      have u5 := cell_of_row wr _ 5 _ _ _ m1
      have u6 := cell_of_row wr _ 6 _ _ _ m1
      have u7 := cell_of_row wr _ 7 _ _ _ m1
      have u8 := cell_of_row wr _ 8 _ _ _ m1
      have u9 := cell_of_row wr _ 9 _ _ _ m1
      have u10 := cell_of_row wr _ 10 _ _ _ m1
      have u11 := cell_of_row wr _ 11 _ _ _ m1
      obtain ⟨aL2, cL2, e2, -, -, hx⟩ := HSL.out
      cases e2
      obtain ⟨gL, oL, rfl, hB3, hx⟩ := hx (by rintro rfl; cases hlt)
      obtain ⟨d0, d1, d2, d3⟩ := hx k hlt
      have c0 := (hbr.cell (p := ⟨gL, _, none⟩) hB3).trans d0
      have c1 := (hbr.cell (p := ⟨gL, _, none⟩) hB3).trans d1
      have c2 := (hbr.cell (p := ⟨gL, _, none⟩) hB3).trans d2
      have c3 := (hbr.cell (p := ⟨gL, _, none⟩) hB3).trans d3
      have hBr : gL < wr.heap.size := Nat.lt_of_lt_of_le hB3 hbr.size
      clear hx d0 d1 d2 d3
      have hun := HL2.out L[k] (List.getElem_mem hlt)
      have HNone := Lib.hid (fun h => prSt_none HPr.out hlt h)
      have HErr := Lib.hid (fun x h1 h2 => prSt_err HPr.out hlt (x := x) h1 h2)
      have HStp := Lib.hid (fun x h1 h2 => prSt_step HPr.out hlt (x := x) h1 h2)
      have HSet := Lib.hid (fun a => withA_step HPr.out.1 hlt a)
      have HSu := Lib.hid (show k = 0 → setupF rs kd z L = ((rateF kd z L[k].1 rs).getD zeroRt).2.2.2.1 from fun e => by
        subst e
        cases L with
        | nil => exact absurd hlt (by simp)
        | cons g r => rfl)
      have hk0 : (0 : Int) ≤ (k : Int) := Int.natCast_nonneg _
      have hk1 : (k : Int) < (L.length : Int) := by omega
      clear m0 m1
      generalize L[k] = g at *
      obtain ⟨gn, gs, gu, ga⟩ := g
      dsimp only at hun HNone HErr HStp HSu HSet c0 c1 c2 c3
      have HRt1 := Lib.hid (fun w1 hb => HRt.out kd z gn w1 hb)
      generalize hro : rateF kd z gn rs = ro at *
      have hws1 : w.heap.size + 2 ≤ wr.heap.size := by have := HWr.out.size; omega
      have Mk := Lib.hid (show ∀ w' : World, Below wr.heap.size wr w' → (fun w' => Below wr.heap.size wr w' ∧ w'.cell? ⟨w.heap.size, 0, none⟩ = some (Value.string nm) ∧ w'.cell? ⟨w.heap.size, 1, none⟩ = some (Value.int .i64 fr) ∧ w'.cell? ⟨w.heap.size, 2, none⟩ = some (Value.bool sl) ∧ w'.cell? ⟨w.heap.size, 3, none⟩ = some (Value.slice za zs.length zc) ∧ w'.cell? ⟨w.heap.size, 4, none⟩ = some (Value.slice ba bs.length bc) ∧ w'.cell? ⟨w.heap.size, 5, none⟩ = some (Value.slice ra rs.length rc) ∧ w'.cell? ⟨w.heap.size, 6, none⟩ = some (Value.slice da dl dc) ∧ w'.cell? ⟨w.heap.size + 1, 0, none⟩ = some (.int .i64 id) ∧ w'.cell? ⟨w.heap.size + 1, 1, none⟩ = some (.int .i64 kd) ∧ w'.cell? ⟨w.heap.size + 1, 2, none⟩ = some (.int .i64 ac) ∧ w'.cell? ⟨w.heap.size + 1, 3, none⟩ = some (.int .i64 sb) ∧ w'.cell? ⟨w.heap.size + 1, 4, none⟩ = some (.string ua) ∧ w'.cell? ⟨w.heap.size + 1, 5, none⟩ = some (.string ub) ∧ w'.cell? ⟨w.heap.size + 1, 6, none⟩ = some (.int .i64 st) ∧ w'.cell? ⟨w.heap.size + 1, 7, none⟩ = some (.int .i64 un) ∧ w'.cell? ⟨w.heap.size + 1, 8, none⟩ = some (.int .i64 tr) ∧ w'.cell? ⟨w.heap.size + 1, 9, none⟩ = some (.bool ib) ∧ w'.cell? ⟨w.heap.size + 1, 10, none⟩ = some (.int .i64 so) ∧ w'.cell? ⟨w.heap.size + 1, 11, none⟩ = some (.int .i64 se) ∧ w'.cell? ⟨gL, oL + k * 4, none⟩ = some (.string gn)) w' from fun w' h => ⟨h, (h.cell (p := ⟨w.heap.size, _, none⟩) (by show w.heap.size < _; omega)).trans t0, (h.cell (p := ⟨w.heap.size, _, none⟩) (by show w.heap.size < _; omega)).trans t1, (h.cell (p := ⟨w.heap.size, _, none⟩) (by show w.heap.size < _; omega)).trans t2, (h.cell (p := ⟨w.heap.size, _, none⟩) (by show w.heap.size < _; omega)).trans t3, (h.cell (p := ⟨w.heap.size, _, none⟩) (by show w.heap.size < _; omega)).trans t4, (h.cell (p := ⟨w.heap.size, _, none⟩) (by show w.heap.size < _; omega)).trans t5, (h.cell (p := ⟨w.heap.size, _, none⟩) (by show w.heap.size < _; omega)).trans t6, (h.cell (p := ⟨w.heap.size + 1, _, none⟩) (by show w.heap.size + 1 < _; omega)).trans u0, (h.cell (p := ⟨w.heap.size + 1, _, none⟩) (by show w.heap.size + 1 < _; omega)).trans u1, (h.cell (p := ⟨w.heap.size + 1, _, none⟩) (by show w.heap.size + 1 < _; omega)).trans u2, (h.cell (p := ⟨w.heap.size + 1, _, none⟩) (by show w.heap.size + 1 < _; omega)).trans u3, (h.cell (p := ⟨w.heap.size + 1, _, none⟩) (by show w.heap.size + 1 < _; omega)).trans u4, (h.cell (p := ⟨w.heap.size + 1, _, none⟩) (by show w.heap.size + 1 < _; omega)).trans u5, (h.cell (p := ⟨w.heap.size + 1, _, none⟩) (by show w.heap.size + 1 < _; omega)).trans u6, (h.cell (p := ⟨w.heap.size + 1, _, none⟩) (by show w.heap.size + 1 < _; omega)).trans u7, (h.cell (p := ⟨w.heap.size + 1, _, none⟩) (by show w.heap.size + 1 < _; omega)).trans u8, (h.cell (p := ⟨w.heap.size + 1, _, none⟩) (by show w.heap.size + 1 < _; omega)).trans u9, (h.cell (p := ⟨w.heap.size + 1, _, none⟩) (by show w.heap.size + 1 < _; omega)).trans u10, (h.cell (p := ⟨w.heap.size + 1, _, none⟩) (by show w.heap.size + 1 < _; omega)).trans u11, (h.cell (p := ⟨gL, _, none⟩) hBr).trans c0⟩)
      have hr := Below.refl wr.heap.size wr
      obtain ⟨xr, hxr⟩ : ∃ xr, ro.getD zeroRt = xr := ⟨_, rfl⟩
      obtain ⟨xk, xz, xb, xs, xl⟩ := xr
      obtain ⟨ok, hok⟩ : ∃ ok, ro.isSome = ok := ⟨_, rfl⟩
      have HRx := Lib.hid (show ∀ w1, Below W.heap.size W w1 → Calls Try.prog 18 #[.agg #[.string nm, .int .i64 fr, .bool sl, .slice za zs.length zc, .slice ba bs.length bc, .slice ra rs.length rc, .slice da dl dc], .int .i64 kd, .string z, .string gn] w1 fun e w' => ∃ sv, e = .returned (.tuple #[.agg #[.int .i64 xk, .string xz, .string xb, .int .i64 xs, sv], .bool ok]) ∧ StpAt W sv xl ∧ Below w1.heap.size w1 w' from fun w1 hb => by
        have h := HRt1.out w1 hb
        unfold OldTo at h
        rw [hxr, hok] at h
        exact h)
      have Hxr := Lib.hid hxr
      have Hok := Lib.hid hok
      have C1 := Lib.hid c1
      have C2 := Lib.hid c2
      have C3 := Lib.hid c3
      clear hro hxr hok c1 c2 c3 HRt1
      go_upto_region 7 with (fail)
      go_cut [17, 18] (fun s17 s18 wx => ∃ (bx : Nat) (sa : Option Addr) (sn sc : Nat), s17 = .pointer (some ⟨bx, 0, none⟩) ∧ s18 = .bool ok ∧ wr.heap.size ≤ bx ∧ bx < wx.heap.size ∧ Below wr.heap.size wr wx ∧ StpAt W (.slice sa sn sc) xl ∧ wx.cell? ⟨bx, 0, none⟩ = some (.int .i64 xk) ∧ wx.cell? ⟨bx, 1, none⟩ = some (.string xz) ∧ wx.cell? ⟨bx, 2, none⟩ = some (.string xb) ∧ wx.cell? ⟨bx, 3, none⟩ = some (.int .i64 xs) ∧ wx.cell? ⟨bx, 4, none⟩ = some (.slice sa sn sc))
      case first =>
        go_region_held3 (fun w' : World => Below wr.heap.size wr w' ∧ w'.cell? ⟨w.heap.size, 0, none⟩ = some (Value.string nm) ∧ w'.cell? ⟨w.heap.size, 1, none⟩ = some (Value.int .i64 fr) ∧ w'.cell? ⟨w.heap.size, 2, none⟩ = some (Value.bool sl) ∧ w'.cell? ⟨w.heap.size, 3, none⟩ = some (Value.slice za zs.length zc) ∧ w'.cell? ⟨w.heap.size, 4, none⟩ = some (Value.slice ba bs.length bc) ∧ w'.cell? ⟨w.heap.size, 5, none⟩ = some (Value.slice ra rs.length rc) ∧ w'.cell? ⟨w.heap.size, 6, none⟩ = some (Value.slice da dl dc) ∧ w'.cell? ⟨w.heap.size + 1, 0, none⟩ = some (.int .i64 id) ∧ w'.cell? ⟨w.heap.size + 1, 1, none⟩ = some (.int .i64 kd) ∧ w'.cell? ⟨w.heap.size + 1, 2, none⟩ = some (.int .i64 ac) ∧ w'.cell? ⟨w.heap.size + 1, 3, none⟩ = some (.int .i64 sb) ∧ w'.cell? ⟨w.heap.size + 1, 4, none⟩ = some (.string ua) ∧ w'.cell? ⟨w.heap.size + 1, 5, none⟩ = some (.string ub) ∧ w'.cell? ⟨w.heap.size + 1, 6, none⟩ = some (.int .i64 st) ∧ w'.cell? ⟨w.heap.size + 1, 7, none⟩ = some (.int .i64 un) ∧ w'.cell? ⟨w.heap.size + 1, 8, none⟩ = some (.int .i64 tr) ∧ w'.cell? ⟨w.heap.size + 1, 9, none⟩ = some (.bool ib) ∧ w'.cell? ⟨w.heap.size + 1, 10, none⟩ = some (.int .i64 so) ∧ w'.cell? ⟨w.heap.size + 1, 11, none⟩ = some (.int .i64 se) ∧ w'.cell? ⟨gL, oL + k * 4, none⟩ = some (.string gn))
          (first
            | with_reducible exact Mk.out _ (set5_below hY6 (Nat.le_refl _))
            | with_reducible exact Mk.out _ (set5_below hY6 hYz.size)
            | with_reducible exact Mk.out _ (by assumption)
            | with_reducible exact Mk.out _ (Below.drew (by assumption))
            | with_reducible exact Mk.out _ (Below.alloc hY6 hY6.size _)
            | with_reducible exact Mk.out _ (Below.alloc hYz hYz.size _)
            | exact Mk.out _ (Below.alloc (And.left (by assumption)) (Below.size (And.left (by assumption))) _))
          (first
            | (go_at_call 57
               with_reducible (refine (HZ.out _ (HWr.out.trans (Below.mono (And.left (by assumption)) HWr.out.size))).mono ?_)
               rintro e wz ⟨he, hbz⟩
               subst he
               have hYz : Below wr.heap.size wr wz := Below.trans (And.left (by assumption)) (hbz.mono (Below.size (And.left (by assumption))))
               have hzz := hYz.size
               (first
                 | (refine (fun (rB : wz.heap[wr.heap.size]? = some (Obj.cells #[.int .i64 0, .string { data := #[] }, .string { data := #[] }, .int .i64 0, .slice none 0 0] 33)) => ?_) ((hbz.block wr.heap.size ?_).trans ?_)
                    rotate_left
                    · (simp; done)
                    · (first | exact heap_alloc_new _ _ | (simp [go_sem]; done))
                    have RBz := Lib.hid rB
                    have hzz2 : wr.heap.size < wz.heap.size := (Array.getElem?_eq_some_iff.1 rB).1
                    clear rB)
                 | skip)
               clear hbz)
            | (go_at_call 18
               with_reducible (refine (HRx.out _ (HWr.out.trans (Below.mono (And.left (by assumption)) HWr.out.size))).mono ?_)
               rintro e w6 ⟨sv, he, hst, hb6⟩
               obtain ⟨sa, sn, sc, rfl⟩ := SliceAt.isSl hst
               subst he
               have hY6 : Below wr.heap.size wr w6 := Below.trans (And.left (by assumption)) (hb6.mono (Below.size (And.left (by assumption))))
               have hz6 := hY6.size
               have Hst := Lib.hid hst
               clear hst
               (first
                 | (refine (fun (rB : w6.heap[wr.heap.size]? = some (Obj.cells #[.int .i64 0, .string { data := #[] }, .string { data := #[] }, .int .i64 0, .slice none 0 0] 33)) => ?_) ((hb6.block wr.heap.size ?_).trans ?_)
                    rotate_left
                    · (first | exact hzz2 | (simp; exact hzz2))
                    · (first | exact RBz.out | (simp [go_sem]; exact RBz.out))
                    have tokA : True := trivial
                    have hzb : wr.heap.size < w6.heap.size := (Array.getElem?_eq_some_iff.1 rB).1
                    have z0 := cell_of_row w6 _ 0 _ _ _ rB
                    have z1 := cell_of_row w6 _ 1 _ _ _ rB
                    have z2 := cell_of_row w6 _ 2 _ _ _ rB
                    have z3 := cell_of_row w6 _ 3 _ _ _ rB
                    have z4 := cell_of_row w6 _ 4 _ _ _ rB
                    have f0 : w6.frozen? ⟨wr.heap.size, 0, none⟩ = false := by simp [World.frozen?, rB]
                    have f1 : w6.frozen? ⟨wr.heap.size, 1, none⟩ = false := by simp [World.frozen?, rB]
                    have f2 : w6.frozen? ⟨wr.heap.size, 2, none⟩ = false := by simp [World.frozen?, rB]
                    have f3 : w6.frozen? ⟨wr.heap.size, 3, none⟩ = false := by simp [World.frozen?, rB]
                    have f4 : w6.frozen? ⟨wr.heap.size, 4, none⟩ = false := by simp [World.frozen?, rB]
                    clear rB)
                 | (refine (fun (rB : w6.heap[wz.heap.size]? = some (Obj.cells #[.int .i64 0, .string { data := #[] }, .string { data := #[] }, .int .i64 0, .slice none 0 0] 33)) => ?_) ((hb6.block wz.heap.size ?_).trans ?_)
                    rotate_left
                    · (simp; done)
                    · (first | exact heap_alloc_new _ _ | (simp [go_sem]; done))
                    have tokB : True := trivial
                    have hzb : wz.heap.size < w6.heap.size := (Array.getElem?_eq_some_iff.1 rB).1
                    have z0 := cell_of_row w6 _ 0 _ _ _ rB
                    have z1 := cell_of_row w6 _ 1 _ _ _ rB
                    have z2 := cell_of_row w6 _ 2 _ _ _ rB
                    have z3 := cell_of_row w6 _ 3 _ _ _ rB
                    have z4 := cell_of_row w6 _ 4 _ _ _ rB
                    have f0 : w6.frozen? ⟨wz.heap.size, 0, none⟩ = false := by simp [World.frozen?, rB]
                    have f1 : w6.frozen? ⟨wz.heap.size, 1, none⟩ = false := by simp [World.frozen?, rB]
                    have f2 : w6.frozen? ⟨wz.heap.size, 2, none⟩ = false := by simp [World.frozen?, rB]
                    have f3 : w6.frozen? ⟨wz.heap.size, 3, none⟩ = false := by simp [World.frozen?, rB]
                    have f4 : w6.frozen? ⟨wz.heap.size, 4, none⟩ = false := by simp [World.frozen?, rB]
                    clear rB)
                 | skip)
               clear hb6))
        all_goals
          go_wp2_with fail
          go_meet
          first
            | (have _t := tokA; exact ⟨wr.heap.size, sa, sn, sc, rfl, rfl, Nat.le_refl _, by simpa using hzb, set5_below hY6 (Nat.le_refl _), Hst.out, set5_cells z0 z1 z2 z3 z4⟩)
            | (have _t := tokB; exact ⟨wz.heap.size, sa, sn, sc, rfl, rfl, hzz, by simpa using hzb, set5_below hY6 hzz, Hst.out, set5_cells z0 z1 z2 z3 z4⟩)
            | exact ⟨w6.heap.size, sa, sn, sc, rfl, rfl, hz6, by simp, hY6.alloc hz6 _, Hst.out, box5 w6 _ _ _ _ _ _⟩
      case rest =>
        obtain ⟨bx, sa, sn, sc, rfl, rfl, hbx, hbx2, hQ, hst, q0, q1, q2, q3, q4⟩ := hcut
        cases ok with
        | false =>
          have hro0 : ro = none := by
            cases ro with
            | none => rfl
            | some x => cases Hok.out
          have HE := Lib.hid (HPE2.out wc 18 (priceS_err (HNone.out hro0) (by decide)) (Hw0.out.trans ((HWr.out.trans (hQ.mono HWr.out.size)).mono Hw0.out.size)))
          clear hro0
          go_wp2
          refine bodyPost_ret (v := .tuple #[.slice none 0 0, .int .i64 0, .int .i64 18]) (by simp [results, Try.results25, go_sem]) rfl HE.out
        | true =>
          obtain ⟨wd, rfl⟩ : ∃ wd : World, wd = wc := ⟨_, rfl⟩
          have hro1 : ro = some (xk, xz, xb, xs, xl) := by
            cases ro with
            | none => cases Hok.out
            | some x => exact congrArg some Hxr.out
          have HErr2 := Lib.hid (HErr.out (xk, xz, xb, xs, xl) hro1)
          have HStp2 := Lib.hid (HStp.out (xk, xz, xb, xs, xl) hro1)
          have HSu2 := Lib.hid (show k = 0 → setupF rs kd z L = xs from fun e => by rw [HSu.out e, Hxr.out])
          dsimp only at HErr2 HStp2
          clear hro1
          have hWc := HWr.out.trans (hQ.mono HWr.out.size)
          have hszQ := hQ.size
          have g0 := (hQ.cell (p := ⟨gL, _, none⟩) hBr).trans c0
          have g1 := (hQ.cell (p := ⟨gL, _, none⟩) hBr).trans C1.out
          have g2 := (hQ.cell (p := ⟨gL, _, none⟩) hBr).trans C2.out
          have g3 := (hQ.cell (p := ⟨gL, _, none⟩) hBr).trans C3.out
          have Howd := Lib.hid (ownsRow_below HownK.out hQ)
          have HB2 := Lib.hid (fun w1 (hb : Below wd.heap.size wd w1) => rbetween_pub (.slice sa sn sc) xl b gu w1 ((hst.below (hWc.trans (hb.mono hWc.size))).steps) (by omega) (by omega))
          have HBb := Lib.hid (fun h => betweenL_bd (l := xl) (f := b) (n := gu) h)
          generalize betweenL xl b gu = bt at *
          obtain ⟨ba1, be1⟩ := bt
          dsimp only at HErr2 HStp2 HBb
          have hgLc : gL < wd.heap.size := Nat.lt_of_lt_of_le hBr hszQ
          have HQ := Lib.hid hQ
          have HWc := Lib.hid hWc
          obtain ⟨su, hsu⟩ : ∃ su, su = setupK rs kd z L k := ⟨_, rfl⟩
          rw [← hsu]
          have HSK := Lib.hid (show setupK rs kd z L (k + 1) = (if k = 0 then xs else su) by
            unfold setupK at hsu ⊢
            rw [if_neg (by omega)]
            by_cases e : k = 0
            · rw [if_pos e]; exact HSu2.out e
            · rw [if_neg e, hsu, if_neg e])
          obtain ⟨su2, hsu2⟩ : ∃ su2, su2 = (if k = 0 then xs else su) := ⟨_, rfl⟩
          rw [← hsu2] at HSK
          have Hs0 := Lib.hid (fun h : k = 0 => hsu2.trans (if_pos h))
          have Hs1 := Lib.hid (fun h : ¬ k = 0 => hsu2.trans (if_neg h))
          clear hsu hsu2 hQ hst hWc c0
          go_upto_region 10 with (fail)
          have hrc := Below.refl wd.heap.size wd
          have Mk2 := Lib.hid (show ∀ w' : World, Below wd.heap.size wd w' → (fun w' => Below wd.heap.size wd w' ∧ w'.cell? ⟨bx, 4, none⟩ = some (.slice sa sn sc) ∧ w'.cell? ⟨gL, oL + k * 4 + 2, none⟩ = some (.int .i64 gu)) w' from fun w' h => ⟨h, (h.cell (p := ⟨bx, _, none⟩) hbx2).trans q4, (h.cell (p := ⟨gL, _, none⟩) hgLc).trans g2⟩)
          go_cut [19, 20] (fun s19 s20 wx => s19 = .int .i64 ba1 ∧ s20 = .int .i64 be1 ∧ Below wd.heap.size wd wx)
          case first =>
            go_region_held3 (fun w' : World => Below wd.heap.size wd w' ∧ w'.cell? ⟨bx, 4, none⟩ = some (.slice sa sn sc) ∧ w'.cell? ⟨gL, oL + k * 4 + 2, none⟩ = some (.int .i64 gu))
              (first
                | with_reducible exact Mk2.out _ (by assumption)
                | with_reducible exact Mk2.out _ (Below.drew (by assumption)))
              (first
                | (go_at_call 42
                   with_reducible (refine (HB2.out _ (And.left (by assumption))).mono ?_)
                   rintro e w7 ⟨rfl, hb7⟩
                   unfold priceTup
                   dsimp only
                   have hY7 : Below wd.heap.size wd w7 := Below.trans (And.left (by assumption)) (hb7.mono (Below.size (And.left (by assumption))))
                   clear hb7))
            all_goals
              go_wp2_with fail
              go_meet
              exact ⟨rfl, rfl, hY7⟩
          case rest =>
            obtain ⟨rfl, rfl, hYd⟩ := hcut
            obtain ⟨we, rfl⟩ : ∃ we : World, we = wc := ⟨_, rfl⟩
            have hWe := HWc.out.trans (hYd.mono HWc.out.size)
            have Hwe := Lib.hid (Hw0.out.trans (hWe.mono Hw0.out.size))
            have hHQ := HQ.out.trans (hYd.mono HQ.out.size)
            have hbr2 := Hbr.out.trans (hHQ.mono (by have := Hbr.out.size; omega))
            have Ho3 := Lib.hid (ownsRow_below Howd.out hYd)
            have k0 := (hYd.cell (p := ⟨gL, _, none⟩) hgLc).trans g0
            have k1 := (hYd.cell (p := ⟨gL, _, none⟩) hgLc).trans g1
            have k2 := (hYd.cell (p := ⟨gL, _, none⟩) hgLc).trans g2
            have k3 := (hYd.cell (p := ⟨gL, _, none⟩) hgLc).trans g3
            have r3 := (hYd.cell (p := ⟨bx, _, none⟩) hbx2).trans q3
            by_cases hbe : be1 = 0
            · have hbz : (be1 != 0) = false := bne_eq_false_iff_eq.2 hbe
              have HStp3 := Lib.hid (HStp2.out hbe)
              obtain ⟨v1, v2⟩ := HBb.out hbe
              have HSet3 := Lib.hid (HSet.out ba1)
              have hwb : IntKind.i64.wrap (b + gu) = b + gu := IntWalk.i64_in _ (by omega)
              have hws : IntKind.i64.wrap (sm + ba1) = sm + ba1 := IntWalk.i64_in _ (by omega)
              have Hbr2 := Lib.hid hbr2
              have hgLe : gL < we.heap.size := Nat.lt_of_lt_of_le hgLc hYd.size
              have hbxe : bx < we.heap.size := Nat.lt_of_lt_of_le hbx2 hYd.size
              have hwe3 := hbr2.size
              obtain ⟨X, hX⟩ : ∃ X, X = we.alloc (Obj.cells #[Value.string gn, .int .i64 gs, .int .i64 gu, .int .i64 ba1] 52) := ⟨_, rfl⟩
              have hbX : Below we.heap.size we X := by rw [hX]; exact (Below.refl _ _).alloc (Nat.le_refl _) _
              have rX : X.heap[we.heap.size]? = some (Obj.cells #[Value.string gn, .int .i64 gs, .int .i64 gu, .int .i64 ba1] 52) := by rw [hX]; exact heap_alloc_new _ _
              have hzX : we.heap.size < X.heap.size := by rw [hX]; simp
              have x0 := cell_of_row X _ 0 _ _ _ rX
              have x1 := cell_of_row X _ 1 _ _ _ rX
              have x2 := cell_of_row X _ 2 _ _ _ rX
              have x3 := cell_of_row X _ 3 _ _ _ rX
              have hwX := hbr2.trans (hbX.mono hbr2.size)
              have hxs := hwX.size
              have HownX := Lib.hid (ownsRow_below Ho3.out hbX)
              have HX := Lib.hid hX
              obtain ⟨i0, hi, hz0, hz1, hz2⟩ := info_parts Try.segInfo
              have Hi := Lib.hid (And.intro hi (And.intro hz0 (And.intro hz1 hz2)))
              clear hi hz0 hz1 hz2 hX rX Mk2 g0 g1 g2 g3 q0 q1 q2 q3 q4 hrc hWe hHQ hbr2
              by_cases hkz : k = 0
              · have hkb : ((k : Int) == 0) = true := beq_iff_eq.2 (by omega)
                have HS2 := Lib.hid (HSK.out.trans (Hs0.out hkz))
                clear hkz Hs0 Hs1 HSK
                go_upto_region 17 with (fail)
                rw [← HX.out]
                clear k0 k1 k2 k3 r3
                go_wp2_with (at_builtin; refine wpList_append_own _ rfl _ _ 45 rfl w3.heap.size 52 i0 _ 4 40 Try.underlying45 Hi.out.1 Hi.out.2.1 Hi.out.2.2.1 Hi.out.2.2.2 rfl (by decide) _ _ _ rfl (HownX.out.alloc _) ⟨X.heap.size, 0, none⟩ 1 1 [.string gn, .int .i64 gs, .int .i64 gu, .int .i64 ba1] rfl rfl (World.news_of_block (cs := #[.string gn, .int .i64 gs, .int .i64 gu, .int .i64 ba1]) (t := 52) (fr := (0, 0)) (heap_alloc_new _ _)) ?paq2 ?paq3 ?paq4 ?paq5 ?_)
                case paq2 => simp [Value.oneCell']
                case paq3 => unfold maxLen; omega
                case paq4 => omega
                case paq5 => (try simp); omega
                intro v2 w9 hown9 hgrow _
                have hb9 := (hwX.alloc hxs (Obj.cells #[.string gn, .int .i64 gs, .int .i64 gu, .int .i64 ba1] 52)).grown hgrow (by simp; omega) (fun g hg => (ownsRow_block HownX.out g hg).1)
                have y2 : w9.cell? ⟨we.heap.size, 2, none⟩ = some (.int .i64 gu) := hgrow.cell ((((Below.refl X.heap.size X).alloc (Nat.le_refl _) _).cell (p := ⟨we.heap.size, 2, none⟩) hzX).trans x2) (fun e => by have := (ownsRow_block Ho3.out we.heap.size e.symm).2; omega)
                have Hown9 := Lib.hid hown9
                have Hb9 := Lib.hid hb9
                clear hown9 hgrow x0 x1 x2 x3 hb9
                go_wp2
                refine ⟨⟨k + 1, by omega, by go_num, by rw [HS2.out], am ++ [ba1], b + gu, min (sm + ba1) 1125899906842625, HStp3.out, rfl, rfl, by omega, by omega, by omega, by omega, ?_, Hb9.out⟩, by simp [intOf]; omega⟩
                rw [HSet3.out, List.flatMap_append]
                exact Hown9.out
              · have hkb : ((k : Int) == 0) = false := beq_eq_false_iff_ne.2 (by omega)
                have HS2 := Lib.hid (HSK.out.trans (Hs1.out hkz))
                clear hkz Hs0 Hs1 HSK
                go_upto_region 17 with (fail)
                rw [← HX.out]
                clear k0 k1 k2 k3 r3
                go_wp2_with (at_builtin; refine wpList_append_own _ rfl _ _ 45 rfl w3.heap.size 52 i0 _ 4 40 Try.underlying45 Hi.out.1 Hi.out.2.1 Hi.out.2.2.1 Hi.out.2.2.2 rfl (by decide) _ _ _ rfl (HownX.out.alloc _) ⟨X.heap.size, 0, none⟩ 1 1 [.string gn, .int .i64 gs, .int .i64 gu, .int .i64 ba1] rfl rfl (World.news_of_block (cs := #[.string gn, .int .i64 gs, .int .i64 gu, .int .i64 ba1]) (t := 52) (fr := (0, 0)) (heap_alloc_new _ _)) ?qaq2 ?qaq3 ?qaq4 ?qaq5 ?_)
                case qaq2 => simp [Value.oneCell']
                case qaq3 => unfold maxLen; omega
                case qaq4 => omega
                case qaq5 => (try simp); omega
                intro v2 w9 hown9 hgrow _
                have hb9 := (hwX.alloc hxs (Obj.cells #[.string gn, .int .i64 gs, .int .i64 gu, .int .i64 ba1] 52)).grown hgrow (by simp; omega) (fun g hg => (ownsRow_block HownX.out g hg).1)
                have y2 : w9.cell? ⟨we.heap.size, 2, none⟩ = some (.int .i64 gu) := hgrow.cell ((((Below.refl X.heap.size X).alloc (Nat.le_refl _) _).cell (p := ⟨we.heap.size, 2, none⟩) hzX).trans x2) (fun e => by have := (ownsRow_block Ho3.out we.heap.size e.symm).2; omega)
                have Hown9 := Lib.hid hown9
                have Hb9 := Lib.hid hb9
                clear hown9 hgrow x0 x1 x2 x3 hb9
                go_wp2
                refine ⟨⟨k + 1, by omega, by go_num, by rw [HS2.out], am ++ [ba1], b + gu, min (sm + ba1) 1125899906842625, HStp3.out, rfl, rfl, by omega, by omega, by omega, by omega, ?_, Hb9.out⟩, by simp [intOf]; omega⟩
                rw [HSet3.out, List.flatMap_append]
                exact Hown9.out
            · have hbz : (be1 != 0) = true := bne_iff_ne.2 hbe
              have HE := Lib.hid (HPE2.out we be1 (priceS_err (HErr2.out hbe) hbe) Hwe.out)
              clear Mk2 g0 g1 g2 g3 q0 q1 q2 q3 q4 hrc hWe hHQ hbr2 k0 k1 k2 k3
              go_wp2
              refine bodyPost_ret (v := .tuple #[.slice none 0 0, .int .i64 0, .int .i64 be1]) (by simp [results, Try.results25, go_sem]) rfl HE.out
    · have HPS := Lib.hid (priceS_end HPr.out (by omega) hk)
      have HB := Lib.hid (Hw0.out.trans ((HW3.out wr hbr).mono Hw0.out.size))
      have HSg := Lib.hid (show SgsAt wr (.slice ao k co) (midA L k am) by
        have e : midA L k am = withA (L.take k) am := by unfold midA; rw [List.drop_eq_nil_of_le (by omega), List.append_nil]
        rw [e]
        exact SgsAt.own (by rw [withA_len HPr.out.1 hk]; exact HownK.out))
      obtain ⟨su, hsu⟩ : ∃ su, su = setupK rs kd z L k := ⟨_, rfl⟩
      rw [← hsu] at HPS ⊢
      clear hsu
      by_cases hA : su < 0 ∨ 1125899906842624 < su ∨ 1125899906842624 < su + sm
      · have HE := Lib.hid (HPE2.out wr 6 (HPS.out.trans (if_pos hA)) HB.out)
        clear HPS
        by_cases hA1 : su < 0
        · clear hA
          go_wp2
          refine bodyPost_ret (v := .tuple #[.slice none 0 0, .int .i64 0, .int .i64 6]) (by simp [results, Try.results25, go_sem]) rfl HE.out
        · by_cases hA2 : 1125899906842624 < su
          · clear hA
            go_wp2
            refine bodyPost_ret (v := .tuple #[.slice none 0 0, .int .i64 0, .int .i64 6]) (by simp [results, Try.results25, go_sem]) rfl HE.out
          · have hA3 : 1125899906842624 < sm + su := by omega
            have hw3 : IntKind.i64.wrap (sm + su) = sm + su := IntWalk.i64_in _ (by omega)
            clear hA
            go_wp2
            refine bodyPost_ret (v := .tuple #[.slice none 0 0, .int .i64 0, .int .i64 6]) (by simp [results, Try.results25, go_sem]) rfl HE.out
      · have HE := Lib.hid (show PriceTo bs hol sl ⟨id, kd, ac, sb, ua, ub, st, un, tr, ib, so, se⟩ free rs z w (.returned (.tuple #[.slice ao k co, .int .i64 su, .int .i64 0])) wr from (HPT.out _ _).2 ⟨L, _, HSeg.out, by rw [HPS.out.trans (if_neg hA)], by rw [HPS.out.trans (if_neg hA)]; exact HSg.out, HB.out⟩)
        have hA1 : ¬ su < 0 := by omega
        have hA2 : ¬ 1125899906842624 < su := by omega
        have hA3 : ¬ 1125899906842624 < sm + su := by omega
        have hw3 : IntKind.i64.wrap (sm + su) = sm + su := IntWalk.i64_in _ (by omega)
        clear hA HPS
        go_wp2
        refine bodyPost_ret (v := .tuple #[.slice ao k co, .int .i64 su, .int .i64 0]) (by simp [results, Try.results25, go_sem]) rfl HE.out
end Go.Proofs.Ytnekgkmlodeckaa
