/-
  The walk of segment.Price.
-/
import Derived.Test.YtnekgkmlodeckaaMgbq
import Derived.Test.YtnekgkmlodeckaaMgbs
import Derived.Deep.DeepCutAuto
import Derived.Deep.RegionHeld3
import Derived.Laws.OwnMore
import Derived.WalkMore
namespace Go.Proofs.Ytnekgkmlodeckaa
open Go.RowKit

theorem box5 (w : World) (a b c d e : Value) (t : TypeId) : (w.alloc (Obj.cells #[a, b, c, d, e] t)).cell? ⟨w.heap.size, 0, none⟩ = some a ∧ (w.alloc (Obj.cells #[a, b, c, d, e] t)).cell? ⟨w.heap.size, 1, none⟩ = some b ∧ (w.alloc (Obj.cells #[a, b, c, d, e] t)).cell? ⟨w.heap.size, 2, none⟩ = some c ∧ (w.alloc (Obj.cells #[a, b, c, d, e] t)).cell? ⟨w.heap.size, 3, none⟩ = some d ∧ (w.alloc (Obj.cells #[a, b, c, d, e] t)).cell? ⟨w.heap.size, 4, none⟩ = some e :=
  ⟨cell_of_row _ _ 0 _ _ _ (heap_alloc_new _ _), cell_of_row _ _ 1 _ _ _ (heap_alloc_new _ _), cell_of_row _ _ 2 _ _ _ (heap_alloc_new _ _), cell_of_row _ _ 3 _ _ _ (heap_alloc_new _ _), cell_of_row _ _ 4 _ _ _ (heap_alloc_new _ _)⟩

theorem set5_below {B g : Nat} {a w : World} {v0 v1 v2 v3 v4 : Value} (h : Below B a w) (hB : B ≤ g) : Below B a (((((w.setCell ⟨g, 0, none⟩ v0).setCell ⟨g, 1, none⟩ v1).setCell ⟨g, 2, none⟩ v2).setCell ⟨g, 3, none⟩ v3).setCell ⟨g, 4, none⟩ v4) :=
  ((((h.setCell (p := ⟨g, 0, none⟩) hB v0).setCell (p := ⟨g, 1, none⟩) hB v1).setCell (p := ⟨g, 2, none⟩) hB v2).setCell (p := ⟨g, 3, none⟩) hB v3).setCell (p := ⟨g, 4, none⟩) hB v4
theorem set5_cells {w : World} {g : Nat} {a0 a1 a2 a3 a4 v0 v1 v2 v3 v4 : Value} (h0 : w.cell? ⟨g, 0, none⟩ = some a0) (h1 : w.cell? ⟨g, 1, none⟩ = some a1) (h2 : w.cell? ⟨g, 2, none⟩ = some a2) (h3 : w.cell? ⟨g, 3, none⟩ = some a3) (h4 : w.cell? ⟨g, 4, none⟩ = some a4) :
    let W := (((((w.setCell ⟨g, 0, none⟩ v0).setCell ⟨g, 1, none⟩ v1).setCell ⟨g, 2, none⟩ v2).setCell ⟨g, 3, none⟩ v3).setCell ⟨g, 4, none⟩ v4)
    W.cell? ⟨g, 0, none⟩ = some v0 ∧ W.cell? ⟨g, 1, none⟩ = some v1 ∧ W.cell? ⟨g, 2, none⟩ = some v2 ∧ W.cell? ⟨g, 3, none⟩ = some v3 ∧ W.cell? ⟨g, 4, none⟩ = some v4 := by
  have o := fun (w : World) (i j : Nat) (v : Value) (h : i ≠ j) => World.cell?_setCell_other w ⟨g, i, none⟩ ⟨g, j, none⟩ v (by intro e; exact h (by simp at e))
  refine ⟨?_, ?_, ?_, ?_, ?_⟩
  · rw [o _ 4 0 _ (by decide), o _ 3 0 _ (by decide), o _ 2 0 _ (by decide), o _ 1 0 _ (by decide)]
    exact World.cell?_setCell_same _ _ _ h0
  · rw [o _ 4 1 _ (by decide), o _ 3 1 _ (by decide), o _ 2 1 _ (by decide)]
    exact World.cell?_setCell_same _ _ _ ((o _ 0 1 _ (by decide)).trans h1)
  · rw [o _ 4 2 _ (by decide), o _ 3 2 _ (by decide)]
    exact World.cell?_setCell_same _ _ _ (((o _ 1 2 _ (by decide)).trans ((o _ 0 2 _ (by decide)).trans h2)))
  · rw [o _ 4 3 _ (by decide)]
    exact World.cell?_setCell_same _ _ _ ((o _ 2 3 _ (by decide)).trans ((o _ 1 3 _ (by decide)).trans ((o _ 0 3 _ (by decide)).trans h3)))
  · exact World.cell?_setCell_same _ _ _ ((o _ 3 4 _ (by decide)).trans ((o _ 2 4 _ (by decide)).trans ((o _ 1 4 _ (by decide)).trans ((o _ 0 4 _ (by decide)).trans h4))))
theorem stp_set5 {w : World} {g : Nat} {v0 v1 v2 v3 v4 v : Value} {L : List St} (h : StpAt w v L) (hb : ∀ k, v.ownBlock = some k → k ≠ g) : StpAt (((((w.setCell ⟨g, 0, none⟩ v0).setCell ⟨g, 1, none⟩ v1).setCell ⟨g, 2, none⟩ v2).setCell ⟨g, 3, none⟩ v3).setCell ⟨g, 4, none⟩ v4) v L :=
  stp_set (stp_set (stp_set (stp_set (stp_set h hb) hb) hb) hb) hb
/-- The setup, behind k segments. -/
def setupK (rs : List Rt) (kd : Int) (z : ByteArray) (L : List Sg) (k : Nat) : Int := if k = 0 then 0 else setupF rs kd z L
/-- The segments and their price. -/
def PriceTo (bs : List Bn) (hol : List Int) (sl : Bool) (u : Us) (free : Int) (rs : List Rt) (z : ByteArray) (w : World) (e : Ending) (w' : World) : Prop :=
  ∃ L v, SegR bs hol sl u free L ∧ e = .returned (.tuple #[v, .int .i64 (priceS rs u.kd z L).2.1, .int .i64 (priceS rs u.kd z L).2.2]) ∧ SgsAt w' v (priceS rs u.kd z L).1 ∧ Below w.heap.size w w'
theorem priceS_err {rs : List Rt} {kd : Int} {z : ByteArray} {L : List Sg} {n : Int} (h : (prF rs kd z L 0 0).1 = n) (hn : n ≠ 0) : priceS rs kd z L = ([], 0, n) := by
  unfold priceS
  rw [h, if_pos hn]
theorem priceTo_err {bs : List Bn} {hol : List Int} {sl : Bool} {u : Us} {free : Int} {rs : List Rt} {z : ByteArray} {L : List Sg} {w w' : World} {n : Int} (hL : SegR bs hol sl u free L) (h : priceS rs u.kd z L = ([], 0, n)) (hb : Below w.heap.size w w') : PriceTo bs hol sl u free rs z w (.returned (.tuple #[.slice none 0 0, .int .i64 0, .int .i64 n])) w' :=
  ⟨L, .slice none 0 0, hL, by rw [h], by rw [h]; exact SliceAt.nil _, hb⟩

theorem priceS_nil (rs : List Rt) (kd : Int) (z : ByteArray) : priceS rs kd z [] = ([], 0, 0) := rfl
theorem priceS_end {rs : List Rt} {kd : Int} {z : ByteArray} {L : List Sg} {i : Nat} {am : List Int} {b s : Int} (h : PrSt rs kd z L i am b s) (hi : L.length ≤ i) (hi2 : i ≤ L.length) :
    priceS rs kd z L = if setupK rs kd z L i < 0 ∨ 1125899906842624 < setupK rs kd z L i ∨ 1125899906842624 < setupK rs kd z L i + s then ([], 0, 6) else (midA L i am, setupK rs kd z L i, 0) := by
  have e : setupK rs kd z L i = setupF rs kd z L := by
    obtain rfl : i = L.length := by omega
    unfold setupK
    cases L with
    | nil => rfl
    | cons g r => rw [if_neg (by simp)]
  rw [e, midA_end hi]
  unfold priceS
  rw [prSt_end h hi]
  rfl

set_option maxRecDepth 100000 in
set_option maxHeartbeats 12800000 in
theorem sprice_calls (nm : ByteArray) (fr : Int) (sl : Bool) (zv bv rv dv vh : Value) (zs : List Zn) (bs : List Bn) (rs : List Rt) (hol : List Int) (u : Us) (free : Int) (w : World) (hz : ZnsAt w zv zs) (hbs : BnsAt w bv bs) (hr : RtsAt w rv rs) (hd : IsSl dv) (hh : IcsAt w vh hol) (hub : u.b.size ≤ maxLen) (hsm : ∀ r ∈ rs, r.2.2.2.2.length ≤ 5864062014634) :
    Calls Try.prog 24 #[.agg #[.string nm, .int .i64 fr, .bool sl, zv, bv, rv, dv], vh, .agg u.row, .int .i64 free] w (PriceTo bs hol sl u free rs (findZ zs u.b).1 w) := by
  obtain ⟨W, hW⟩ : ∃ W, W = (w.alloc (Obj.cells #[Value.string nm, .int .i64 fr, .bool sl, zv, bv, rv, dv] 27)).alloc (Obj.cells u.row 40) := ⟨_, rfl⟩
  have hw0 : Below w.heap.size w W := by rw [hW]; go_grown
  have hzW : W.heap.size = w.heap.size + 2 := by rw [hW]; simp
  have r0 : W.heap[w.heap.size]? = some (Obj.cells #[Value.string nm, .int .i64 fr, .bool sl, zv, bv, rv, dv] 27) := by
    rw [hW, Below.heap_alloc _ _ _ (by simp)]
    exact heap_alloc_new _ _
  have r1 : W.heap[w.heap.size + 1]? = some (Obj.cells u.row 40) := by
    rw [hW]
    simpa using heap_alloc_new (w.alloc (Obj.cells #[Value.string nm, .int .i64 fr, .bool sl, zv, bv, rv, dv] 27)) (Obj.cells u.row 40)
  have HM := Lib.hid (show ∀ w', Below W.heap.size W w' → w'.heap[w.heap.size]? = some (Obj.cells #[Value.string nm, .int .i64 fr, .bool sl, zv, bv, rv, dv] 27) ∧ w'.heap[w.heap.size + 1]? = some (Obj.cells u.row 40) from fun w' hb => ⟨(hb.block _ (by omega)).trans r0, (hb.block _ (by omega)).trans r1⟩)
  have HW := Lib.hid hW
  have Hw0 := Lib.hid hw0
  have HF := Lib.hid (zfind_calls zv zs u.b W (hz.below hw0) hub)
  have HCt := Lib.hid (fun w1 (hb : Below W.heap.size W w1) => scut_calls nm fr sl zv bv rv dv vh bs hol u free w1 hz.isSl hr.isSl hd ((hbs.below hw0).below hb) ((hh.below hw0).below hb))
  have HRt := Lib.hid (fun kd zn bn w1 (hb : Below W.heap.size W w1) => rate_calls nm fr sl zv bv rv dv rs kd zn bn w1 hz.isSl hbs.isSl hd ((hr.below hw0).below hb) hsm)
  obtain ⟨za, zc, rfl, -, -, -⟩ := hz
  obtain ⟨ba, bc, rfl, -, -, -⟩ := hbs
  obtain ⟨ra, rc, rfl, -, -, -⟩ := hr
  obtain ⟨da, dl, dc, rfl⟩ := hd
  obtain ⟨ha, hc, rfl, -, -, -⟩ := hh
  have HPE := Lib.hid (fun L w' n (hL : SegR bs hol sl u free L) (h : priceS rs u.kd (findZ zs u.b).1 L = ([], 0, n)) (hb : Below w.heap.size w w') => priceTo_err hL h hb)
  have HPT := Lib.hid (show ∀ e w', PriceTo bs hol sl u free rs (findZ zs u.b).1 w e w' ↔ ∃ L v, SegR bs hol sl u free L ∧ e = .returned (.tuple #[v, .int .i64 (priceS rs u.kd (findZ zs u.b).1 L).2.1, .int .i64 (priceS rs u.kd (findZ zs u.b).1 L).2.2]) ∧ SgsAt w' v (priceS rs u.kd (findZ zs u.b).1 L).1 ∧ Below w.heap.size w w' from fun e w' => Iff.rfl)
  unfold Us.row at *
  obtain ⟨id, kd, ac, sb, ua, ub, st, un, tr, ib, so, se⟩ := u
  dsimp only at HM HW HF HCt HPE HPT hub ⊢
  generalize hfz : findZ zs ub = fz at *
  obtain ⟨z, zok⟩ := fz
  dsimp only at HPE HPT ⊢
  obtain ⟨m0, m1⟩ := HM.out W (Below.refl _ _)
  have t3 := cell_of_row W _ 3 _ _ _ m0
  have u5 := cell_of_row W _ 5 _ _ _ m1
  clear hW hw0 r0 r1 m0 m1 hfz hsm
  go_enter Try.func24, Try.ntmps24
  go_upto_region 1 with (fail)
  rw [← HW.out]
  go_step3
  go_wp2_with fail
  refine HF.out.mono ?_
  rintro e w1 ⟨rfl, hb1⟩
  clear t3 u5
  have HCt1 := Lib.hid (HCt.out w1 hb1)
  obtain ⟨m0, m1⟩ := HM.out w1 hb1
  have y := fun j => cell_of_row w1 (w.heap.size + 1) j _ _ _ m1
  have u0 := y 0
  have u1 := y 1
  have u2 := y 2
  have u3 := y 3
  have u4 := y 4
  have u5 := y 5
  have u6 := y 6
  have u7 := y 7
  have u8 := y 8
  have u9 := y 9
  have u10 := y 10
  have u11 := y 11
  have x := fun j => cell_of_row w1 (w.heap.size) j _ _ _ m0
  have t0 := x 0
  have t1 := x 1
  have t2 := x 2
  have t3 := x 3
  have t4 := x 4
  have t5 := x 5
  have t6 := x 6
  clear x y m0 m1
  go_wp2_with fail
  refine HCt1.out.mono ?_
  rintro e w3 ⟨vL, L, rfl, hown, hSeg, hb3⟩
  clear u0 u1 u2 u3 u4 u5 u6 u7 u8 u9 u10 u11 t0 t1 t2 t3 t4 t5 t6
  have HPE2 := Lib.hid (fun w' n h hb => HPE.out L w' n hSeg h hb)
  have HSeg := Lib.hid hSeg
  obtain ⟨hL1, hL2⟩ := segR_bounds hSeg
  have HL2 := Lib.hid hL2
  have hb13 := hb1.trans (hb3.mono hb1.size)
  have HW3 := Lib.hid (show ∀ w', Below w1.heap.size w3 w' → Below W.heap.size W w' from fun w' h => hb13.trans (h.mono hb1.size))
  have Hown := Lib.hid hown
  have h13 := hb3.size
  clear hSeg hL2
  rcases hown.2 with ⟨hv, h0⟩ | ⟨gL, cL, cur, hv, hgL, -⟩
  · obtain rfl : L = [] := List.length_eq_zero_iff.1 h0
    subst hv
    have HE := Lib.hid (show ∀ w', Below w1.heap.size w3 w' → PriceTo bs hol sl ⟨id, kd, ac, sb, ua, ub, st, un, tr, ib, so, se⟩ free rs z w (.returned (.tuple #[.slice none 0 0, .int .i64 0, .int .i64 0])) w' from fun w' h => (HPT.out _ _).2 ⟨[], .slice none 0 0, HSeg.out, rfl, SliceAt.nil _, Hw0.out.trans ((HW3.out w' h).mono Hw0.out.size)⟩)
    clear hown h0
    go_wp2_with fail
    go_step3
    go_wp2_with fail
    go_loopw [14, 15, 16, 17, 38] (fun su sm bf er i wr => i = .int .i64 0 ∧ er = .int .i64 0 ∧ su = .int .i64 0 ∧ sm = .int .i64 0 ∧ bf = .int .i64 0 ∧ Below w1.heap.size w3 wr) (fun _ _ _ _ _ _ => 0)
    case atStart => exact ⟨rfl, rfl, rfl, rfl, rfl, Below.refl _ _⟩
    case round =>
      obtain ⟨rfl, rfl, rfl, rfl, rfl, hbr⟩ := hrel
      go_wp2
      refine bodyPost_ret (v := .tuple #[.slice none 0 0, .int .i64 0, .int .i64 0]) (by simp [results, Try.results24, go_sem]) rfl (HE.out _ hbr)
  · subst hv
    have hgl2 := (ownsRow_block hown gL rfl).2
    clear hown
    go_wp2_with fail
    go_step3
    go_wp2_with fail
    go_loopw [14, 15, 16, 17, 38] (fun su sm bf er i wr => ∃ k : Nat, k ≤ L.length ∧ i = .int .i64 k ∧ er = .int .i64 0 ∧ su = .int .i64 (setupK rs kd z L k) ∧ ∃ (am : List Int) (b s : Int), PrSt rs kd z L k am b s ∧ sm = .int .i64 s ∧ bf = .int .i64 b ∧ 0 ≤ b ∧ b ≤ 1099511627776 * k ∧ 0 ≤ s ∧ s ≤ 1125899906842625 ∧ wr.ownsRow w1.heap.size 52 4 (.slice (some ⟨gL, 0, none⟩) L.length cL) L.length ((midA L k am).flatMap sgCells) ∧ Below w1.heap.size w3 wr) (fun _ _ _ _ i _ => L.length - (intOf i).toNat)
    case atStart => exact ⟨0, Nat.zero_le _, rfl, rfl, rfl, [], 0, 0, prSt_zero _ _ _ _, rfl, rfl, Int.le_refl _, by simp, Int.le_refl _, by decide, by rw [midA_zero]; exact Hown.out, Below.refl _ _⟩
    case round =>
      obtain ⟨k, hk, rfl, rfl, rfl, am, b, sm, hPr, rfl, rfl, hb0, hb1', hs0, hs1, hownk, hbr⟩ := hrel
      have HPr := Lib.hid hPr
      have HownK := Lib.hid hownk
      have Hbr := Lib.hid hbr
      clear hPr hownk
      by_cases hlt : k < L.length
      · have HWr := Lib.hid (HW3.out wr hbr)
        obtain ⟨m0, m1⟩ := HM.out wr HWr.out
        have u1 := cell_of_row wr _ 1 _ _ _ m1
        have t0 := cell_of_row wr _ 0 _ _ _ m0
        have t1 := cell_of_row wr _ 1 _ _ _ m0
        have t2 := cell_of_row wr _ 2 _ _ _ m0
        have t3 := cell_of_row wr _ 3 _ _ _ m0
        have t4 := cell_of_row wr _ 4 _ _ _ m0
        have t5 := cell_of_row wr _ 5 _ _ _ m0
        have t6 := cell_of_row wr _ 6 _ _ _ m0
        have hmL := midA_length (HPr.out.1) hk
        have hgk : ∀ h, (midA L k am)[k]'h = L[k] := fun h => midA_get HPr.out.1 hlt h
        have hkm : k < (midA L k am).length := by rw [hmL]; exact hlt
        have cc := fun j (hj : j < 4) => (HownK.out.cellAt (k * 4 + j) (by omega)).trans (flat_get sgCells 4 (fun _ => rfl) (midA L k am) k j hkm hj)
        rw [hgk] at cc
        have c0 := cc 0 (by omega)
        have c2 := cc 2 (by omega)
        have c3 := cc 3 (by omega)
        rw [Nat.add_zero] at c0
        have hfz3 : wr.frozen? ⟨gL, k * 4 + 3, none⟩ = false := HownK.out.frozenAt _
        have hgL2 := (ownsRow_block HownK.out gL rfl)
        have hun := HL2.out L[k] (List.getElem_mem hlt)
        have HNone := Lib.hid (fun h => prSt_none HPr.out hlt h)
        have HErr := Lib.hid (fun x h1 h2 => prSt_err HPr.out hlt (x := x) h1 h2)
        have HStp := Lib.hid (fun x h1 h2 => prSt_step HPr.out hlt (x := x) h1 h2)
        have HSet := Lib.hid (fun a => midA_set HPr.out.1 hlt a)
        have HSu := Lib.hid (show k = 0 → setupF rs kd z L = ((rateF kd z L[k].1 rs).getD zeroRt).2.2.2.1 from fun e => by
          subst e
          cases L with
          | nil => exact absurd hlt (by simp)
          | cons g r => rfl)
        have hk0 : (0 : Int) ≤ (k : Int) := Int.natCast_nonneg _
        have hk1 : (k : Int) < (L.length : Int) := by omega
        clear cc m0 m1 hgk hmL hkm
        generalize L[k] = g at *
        obtain ⟨gn, gs, gu, ga⟩ := g
        dsimp only at hun HNone HErr HStp HSu
        have c0 : wr.cell? ⟨gL, k * 4, none⟩ = some (.string gn) := c0
        have c2 : wr.cell? ⟨gL, k * 4 + 2, none⟩ = some (.int .i64 gu) := c2
        have c3 : wr.cell? ⟨gL, k * 4 + 3, none⟩ = some (.int .i64 ga) := c3
        have HRt1 := Lib.hid (fun w1 hb => HRt.out kd z gn w1 hb)
        generalize hro : rateF kd z gn rs = ro at *
        have hws1 : w.heap.size + 2 ≤ wr.heap.size := by have := HWr.out.size; omega
        have Mk := Lib.hid (show ∀ w' : World, Below wr.heap.size wr w' → (fun w' => Below wr.heap.size wr w' ∧ w'.cell? ⟨w.heap.size, 0, none⟩ = some (Value.string nm) ∧ w'.cell? ⟨w.heap.size, 1, none⟩ = some (Value.int .i64 fr) ∧ w'.cell? ⟨w.heap.size, 2, none⟩ = some (Value.bool sl) ∧ w'.cell? ⟨w.heap.size, 3, none⟩ = some (Value.slice za zs.length zc) ∧ w'.cell? ⟨w.heap.size, 4, none⟩ = some (Value.slice ba bs.length bc) ∧ w'.cell? ⟨w.heap.size, 5, none⟩ = some (Value.slice ra rs.length rc) ∧ w'.cell? ⟨w.heap.size, 6, none⟩ = some (Value.slice da dl dc) ∧ w'.cell? ⟨w.heap.size + 1, 1, none⟩ = some (.int .i64 kd) ∧ w'.cell? ⟨gL, k * 4, none⟩ = some (.string gn)) w' from fun w' h => ⟨h, (h.cell (p := ⟨w.heap.size, _, none⟩) (by show w.heap.size < _; omega)).trans t0, (h.cell (p := ⟨w.heap.size, _, none⟩) (by show w.heap.size < _; omega)).trans t1, (h.cell (p := ⟨w.heap.size, _, none⟩) (by show w.heap.size < _; omega)).trans t2, (h.cell (p := ⟨w.heap.size, _, none⟩) (by show w.heap.size < _; omega)).trans t3, (h.cell (p := ⟨w.heap.size, _, none⟩) (by show w.heap.size < _; omega)).trans t4, (h.cell (p := ⟨w.heap.size, _, none⟩) (by show w.heap.size < _; omega)).trans t5, (h.cell (p := ⟨w.heap.size, _, none⟩) (by show w.heap.size < _; omega)).trans t6, (h.cell (p := ⟨w.heap.size + 1, _, none⟩) (by show w.heap.size + 1 < _; omega)).trans u1, (h.cell (p := ⟨gL, _, none⟩) hgL2.2).trans c0⟩)
        have hr := Below.refl wr.heap.size wr
        obtain ⟨xr, hxr⟩ : ∃ xr, ro.getD zeroRt = xr := ⟨_, rfl⟩
        obtain ⟨xk, xz, xb, xs, xl⟩ := xr
        obtain ⟨ok, hok⟩ : ∃ ok, ro.isSome = ok := ⟨_, rfl⟩
        have HRx := Lib.hid (show ∀ w1, Below W.heap.size W w1 → Calls Try.prog 17 #[.agg #[.string nm, .int .i64 fr, .bool sl, .slice za zs.length zc, .slice ba bs.length bc, .slice ra rs.length rc, .slice da dl dc], .int .i64 kd, .string z, .string gn] w1 fun e w' => ∃ sv, e = .returned (.tuple #[.agg #[.int .i64 xk, .string xz, .string xb, .int .i64 xs, sv], .bool ok]) ∧ StpAt w' sv xl ∧ Below w1.heap.size w1 w' ∧ ∀ g, sv.ownBlock = some g → w1.heap.size ≤ g from fun w1 hb => by
          have h := HRt1.out w1 hb
          unfold FreshTo at h
          rw [hxr, hok] at h
          exact h)
        have Hxr := Lib.hid hxr
        have Hok := Lib.hid hok
        have C2 := Lib.hid c2
        have C3 := Lib.hid c3
        have Fz3 := Lib.hid hfz3
        have HgL2 := Lib.hid hgL2
        clear hro hxr hok c2 c3 hfz3 HRt1
        go_upto_region 7 with (fail)
        go_cut [19, 20] (fun s19 s20 wx => ∃ (bx : Nat) (sa : Option Addr) (sn sc : Nat), s19 = .pointer (some ⟨bx, 0, none⟩) ∧ s20 = .bool ok ∧ wr.heap.size ≤ bx ∧ bx < wx.heap.size ∧ Below wr.heap.size wr wx ∧ StpAt wx (.slice sa sn sc) xl ∧ wx.cell? ⟨bx, 0, none⟩ = some (.int .i64 xk) ∧ wx.cell? ⟨bx, 1, none⟩ = some (.string xz) ∧ wx.cell? ⟨bx, 2, none⟩ = some (.string xb) ∧ wx.cell? ⟨bx, 3, none⟩ = some (.int .i64 xs) ∧ wx.cell? ⟨bx, 4, none⟩ = some (.slice sa sn sc))
        case first =>
          go_region_held3 (fun w' : World => Below wr.heap.size wr w' ∧ w'.cell? ⟨w.heap.size, 0, none⟩ = some (Value.string nm) ∧ w'.cell? ⟨w.heap.size, 1, none⟩ = some (Value.int .i64 fr) ∧ w'.cell? ⟨w.heap.size, 2, none⟩ = some (Value.bool sl) ∧ w'.cell? ⟨w.heap.size, 3, none⟩ = some (Value.slice za zs.length zc) ∧ w'.cell? ⟨w.heap.size, 4, none⟩ = some (Value.slice ba bs.length bc) ∧ w'.cell? ⟨w.heap.size, 5, none⟩ = some (Value.slice ra rs.length rc) ∧ w'.cell? ⟨w.heap.size, 6, none⟩ = some (Value.slice da dl dc) ∧ w'.cell? ⟨w.heap.size + 1, 1, none⟩ = some (.int .i64 kd) ∧ w'.cell? ⟨gL, k * 4, none⟩ = some (.string gn))
            (first
              | with_reducible exact Mk.out _ (set5_below hY6 (Nat.le_refl _))
              | with_reducible exact Mk.out _ (by assumption)
              | with_reducible exact Mk.out _ (Below.drew (by assumption))
              | with_reducible exact Mk.out _ (Below.alloc hY6 hY6.size _)
              | exact Mk.out _ (Below.alloc (And.left (by assumption)) (Below.size (And.left (by assumption))) _))
            (first
              | (go_at_call 17
                 with_reducible (refine (HRx.out _ (HWr.out.trans (Below.mono (And.left (by assumption)) HWr.out.size))).mono ?_)
                 rintro e w6 ⟨sv, he, hst, hb6, hfr⟩
                 obtain ⟨sa, sn, sc, rfl⟩ := SliceAt.isSl hst
                 subst he
                 have hY6 : Below wr.heap.size wr w6 := Below.trans (And.left (by assumption)) (hb6.mono (Below.size (And.left (by assumption))))
                 have hz6 := hY6.size
                 have Hfr := Lib.hid hfr
                 have Hst := Lib.hid hst
                 clear hfr hst
                 (first
                   | (refine (fun (rB : w6.heap[wr.heap.size]? = some (Obj.cells #[.int .i64 0, .string { data := #[] }, .string { data := #[] }, .int .i64 0, .slice none 0 0] 33)) => ?_) ((hb6.block wr.heap.size ?_).trans ?_)
                      rotate_left
                      · (simp; done)
                      · (first | exact heap_alloc_new _ _ | (simp [go_sem]; done))
                      have hzb : wr.heap.size < w6.heap.size := (Array.getElem?_eq_some_iff.1 rB).1
                      have z0 := cell_of_row w6 _ 0 _ _ _ rB
                      have z1 := cell_of_row w6 _ 1 _ _ _ rB
                      have z2 := cell_of_row w6 _ 2 _ _ _ rB
                      have z3 := cell_of_row w6 _ 3 _ _ _ rB
                      have z4 := cell_of_row w6 _ 4 _ _ _ rB
                      have f0 : w6.frozen? ⟨wr.heap.size, 0, none⟩ = false := by simp [World.frozen?, rB]
                      have f1 : w6.frozen? ⟨wr.heap.size, 1, none⟩ = false := by simp [World.frozen?, rB]
                      have f2 : w6.frozen? ⟨wr.heap.size, 2, none⟩ = false := by simp [World.frozen?, rB]
                      have f3 : w6.frozen? ⟨wr.heap.size, 3, none⟩ = false := by simp [World.frozen?, rB]
                      have f4 : w6.frozen? ⟨wr.heap.size, 4, none⟩ = false := by simp [World.frozen?, rB]
                      clear rB)
                   | skip)
                 clear hb6))
          all_goals
            go_wp2_with fail
            go_meet
            first
              | exact ⟨w6.heap.size, sa, sn, sc, rfl, rfl, hz6, by simp, hY6.alloc hz6 _, Hst.out.below ((Below.refl _ _).alloc (Nat.le_refl _) _), box5 w6 _ _ _ _ _ _⟩
              | exact ⟨wr.heap.size, sa, sn, sc, rfl, rfl, Nat.le_refl _, by simpa using hzb, set5_below hY6 (Nat.le_refl _), stp_set5 Hst.out (fun g e => by have := Hfr.out g e; simp at this; omega), set5_cells z0 z1 z2 z3 z4⟩
        case rest =>
          obtain ⟨bx, sa, sn, sc, rfl, rfl, hbx, hbx2, hQ, hst, q0, q1, q2, q3, q4⟩ := hcut
          cases ok with
          | false =>
            have hro0 : ro = none := by
              cases ro with
              | none => rfl
              | some x => cases Hok.out
            have HE := Lib.hid (HPE2.out wc 18 (priceS_err (HNone.out hro0) (by decide)) (Hw0.out.trans ((HWr.out.trans (hQ.mono HWr.out.size)).mono Hw0.out.size)))
            clear hro0
            go_wp2
            refine bodyPost_ret (v := .tuple #[.slice none 0 0, .int .i64 0, .int .i64 18]) (by simp [results, Try.results24, go_sem]) rfl HE.out
          | true =>
            obtain ⟨wd, rfl⟩ : ∃ wd : World, wd = wc := ⟨_, rfl⟩
            have hro1 : ro = some (xk, xz, xb, xs, xl) := by
              cases ro with
              | none => cases Hok.out
              | some x => exact congrArg some Hxr.out
            have HErr2 := Lib.hid (HErr.out (xk, xz, xb, xs, xl) hro1)
            have HStp2 := Lib.hid (HStp.out (xk, xz, xb, xs, xl) hro1)
            have HSu2 := Lib.hid (show k = 0 → setupF rs kd z L = xs from fun e => by rw [HSu.out e, Hxr.out])
            dsimp only at HErr2 HStp2
            clear hro1
            have hWc := HWr.out.trans (hQ.mono HWr.out.size)
            have hszQ := hQ.size
            have g2 := (hQ.cell (p := ⟨gL, _, none⟩) HgL2.out.2).trans C2.out
            have g3 := (hQ.cell (p := ⟨gL, _, none⟩) HgL2.out.2).trans C3.out
            have Howd := Lib.hid (ownsRow_below HownK.out hQ)
            have HB2 := Lib.hid (fun w1 (hb : Below wd.heap.size wd w1) => between_pub (.slice sa sn sc) xl b gu w1 ((hst.below hb).steps) (by omega) (by omega))
            have HBb := Lib.hid (fun h => betweenL_bd (l := xl) (f := b) (n := gu) h)
            generalize betweenL xl b gu = bt at *
            obtain ⟨ba1, be1⟩ := bt
            dsimp only at HErr2 HStp2 HBb
            have hgLc : gL < wd.heap.size := Nat.lt_of_lt_of_le HgL2.out.2 hszQ
            have HQ := Lib.hid hQ
            have HWc := Lib.hid hWc
            obtain ⟨su, hsu⟩ : ∃ su, su = setupK rs kd z L k := ⟨_, rfl⟩
            rw [← hsu]
            have HSK := Lib.hid (show setupK rs kd z L (k + 1) = (if k = 0 then xs else su) by
              unfold setupK at hsu ⊢
              rw [if_neg (by omega)]
              by_cases e : k = 0
              · rw [if_pos e]; exact HSu2.out e
              · rw [if_neg e, hsu, if_neg e])
            obtain ⟨su2, hsu2⟩ : ∃ su2, su2 = (if k = 0 then xs else su) := ⟨_, rfl⟩
            rw [← hsu2] at HSK
            have Hs0 := Lib.hid (fun h : k = 0 => hsu2.trans (if_pos h))
            have Hs1 := Lib.hid (fun h : ¬ k = 0 => hsu2.trans (if_neg h))
            clear hsu hsu2 hQ hst hWc
            by_cases hkz : k = 0
            · have hkb : ((k : Int) == 0) = true := beq_iff_eq.2 (by omega)
              have HS2 := Lib.hid (HSK.out.trans (Hs0.out hkz))
              clear hkz Hs0 Hs1 HSK
              go_upto_region 12 with (fail)
              have hrc := Below.refl wd.heap.size wd
              have Mk2 := Lib.hid (show ∀ w' : World, Below wd.heap.size wd w' → (fun w' => Below wd.heap.size wd w' ∧ w'.cell? ⟨bx, 4, none⟩ = some (.slice sa sn sc) ∧ w'.cell? ⟨gL, k * 4 + 2, none⟩ = some (.int .i64 gu)) w' from fun w' h => ⟨h, (h.cell (p := ⟨bx, _, none⟩) hbx2).trans q4, (h.cell (p := ⟨gL, _, none⟩) hgLc).trans g2⟩)
              go_cut [21, 22] (fun s21 s22 wx => s21 = .int .i64 ba1 ∧ s22 = .int .i64 be1 ∧ Below wd.heap.size wd wx)
              case first =>
                go_region_held3 (fun w' : World => Below wd.heap.size wd w' ∧ w'.cell? ⟨bx, 4, none⟩ = some (.slice sa sn sc) ∧ w'.cell? ⟨gL, k * 4 + 2, none⟩ = some (.int .i64 gu))
                  (first
                    | with_reducible exact Mk2.out _ (by assumption)
                    | with_reducible exact Mk2.out _ (Below.drew (by assumption)))
                  (first
                    | (go_at_call 41
                       with_reducible (refine (HB2.out _ (And.left (by assumption))).mono ?_)
                       rintro e w7 ⟨rfl, hb7⟩
                       unfold priceTup
                       dsimp only
                       have hY7 : Below wd.heap.size wd w7 := Below.trans (And.left (by assumption)) (hb7.mono (Below.size (And.left (by assumption))))
                       clear hb7))
                all_goals
                  go_wp2_with fail
                  go_meet
                  exact ⟨rfl, rfl, hY7⟩
              case rest =>
                obtain ⟨rfl, rfl, hYd⟩ := hcut
                have hWe := HWc.out.trans (hYd.mono HWc.out.size)
                have Hwe := Lib.hid (Hw0.out.trans (hWe.mono Hw0.out.size))
                have hHQ := HQ.out.trans (hYd.mono HQ.out.size)
                have hbr2 := Hbr.out.trans (hHQ.mono (by have := Hbr.out.size; omega))
                have Ho3 := Lib.hid (ownsRow_below Howd.out hYd)
                have k2 := (hYd.cell (p := ⟨gL, _, none⟩) hgLc).trans g2
                have k3 := (hYd.cell (p := ⟨gL, _, none⟩) hgLc).trans g3
                have kf : wc.frozen? ⟨gL, k * 4 + 3, none⟩ = false := Ho3.out.frozenAt _
                by_cases hbe : be1 = 0
                · have hbz : (be1 != 0) = false := bne_eq_false_iff_eq.2 hbe
                  have HStp3 := Lib.hid (HStp2.out hbe)
                  obtain ⟨v1, v2⟩ := HBb.out hbe
                  have Hst3 := Lib.hid (Ho3.out.stored (k * 4 + 3) (.int .i64 ba1)).1
                  rw [HSet.out ba1] at Hst3
                  have hwb : IntKind.i64.wrap (b + gu) = b + gu := IntWalk.i64_in _ (by omega)
                  have hws : IntKind.i64.wrap (sm + ba1) = sm + ba1 := IntWalk.i64_in _ (by omega)
                  have Hbr2 := Lib.hid hbr2
                  clear Mk2 g2 g3 q0 q1 q2 q3 q4 hrc hWe hHQ hbr2
                  go_wp2
                  refine ⟨⟨k + 1, by omega, by go_num, rfl, by rw [HS2.out], am ++ [ba1], b + gu, min (sm + ba1) 1125899906842625, HStp3.out, rfl, rfl, by omega, by omega, by omega, by omega, Hst3.out, Hbr2.out.setCell (p := ⟨gL, _, none⟩) HgL2.out.1 _⟩, by simp [intOf]; omega⟩
                · have hbz : (be1 != 0) = true := bne_iff_ne.2 hbe
                  have HE := Lib.hid (HPE2.out wc be1 (priceS_err (HErr2.out hbe) hbe) Hwe.out)
                  clear Mk2 g2 g3 q0 q1 q2 q3 q4 hrc hWe hHQ hbr2 k2 k3 kf
                  go_wp2
                  refine bodyPost_ret (v := .tuple #[.slice none 0 0, .int .i64 0, .int .i64 be1]) (by simp [results, Try.results24, go_sem]) rfl HE.out
            · have hkb : ((k : Int) == 0) = false := beq_eq_false_iff_ne.2 (by omega)
              have HS2 := Lib.hid (HSK.out.trans (Hs1.out hkz))
              clear hkz Hs0 Hs1 HSK
              go_upto_region 12 with (fail)
              have hrc := Below.refl wd.heap.size wd
              have Mk2 := Lib.hid (show ∀ w' : World, Below wd.heap.size wd w' → (fun w' => Below wd.heap.size wd w' ∧ w'.cell? ⟨bx, 4, none⟩ = some (.slice sa sn sc) ∧ w'.cell? ⟨gL, k * 4 + 2, none⟩ = some (.int .i64 gu)) w' from fun w' h => ⟨h, (h.cell (p := ⟨bx, _, none⟩) hbx2).trans q4, (h.cell (p := ⟨gL, _, none⟩) hgLc).trans g2⟩)
              go_cut [21, 22] (fun s21 s22 wx => s21 = .int .i64 ba1 ∧ s22 = .int .i64 be1 ∧ Below wd.heap.size wd wx)
              case first =>
                go_region_held3 (fun w' : World => Below wd.heap.size wd w' ∧ w'.cell? ⟨bx, 4, none⟩ = some (.slice sa sn sc) ∧ w'.cell? ⟨gL, k * 4 + 2, none⟩ = some (.int .i64 gu))
                  (first
                    | with_reducible exact Mk2.out _ (by assumption)
                    | with_reducible exact Mk2.out _ (Below.drew (by assumption)))
                  (first
                    | (go_at_call 41
                       with_reducible (refine (HB2.out _ (And.left (by assumption))).mono ?_)
                       rintro e w7 ⟨rfl, hb7⟩
                       unfold priceTup
                       dsimp only
                       have hY7 : Below wd.heap.size wd w7 := Below.trans (And.left (by assumption)) (hb7.mono (Below.size (And.left (by assumption))))
                       clear hb7))
                all_goals
                  go_wp2_with fail
                  go_meet
                  exact ⟨rfl, rfl, hY7⟩
              case rest =>
                obtain ⟨rfl, rfl, hYd⟩ := hcut
                have hWe := HWc.out.trans (hYd.mono HWc.out.size)
                have Hwe := Lib.hid (Hw0.out.trans (hWe.mono Hw0.out.size))
                have hHQ := HQ.out.trans (hYd.mono HQ.out.size)
                have hbr2 := Hbr.out.trans (hHQ.mono (by have := Hbr.out.size; omega))
                have Ho3 := Lib.hid (ownsRow_below Howd.out hYd)
                have k2 := (hYd.cell (p := ⟨gL, _, none⟩) hgLc).trans g2
                have k3 := (hYd.cell (p := ⟨gL, _, none⟩) hgLc).trans g3
                have kf : wc.frozen? ⟨gL, k * 4 + 3, none⟩ = false := Ho3.out.frozenAt _
                by_cases hbe : be1 = 0
                · have hbz : (be1 != 0) = false := bne_eq_false_iff_eq.2 hbe
                  have HStp3 := Lib.hid (HStp2.out hbe)
                  obtain ⟨v1, v2⟩ := HBb.out hbe
                  have Hst3 := Lib.hid (Ho3.out.stored (k * 4 + 3) (.int .i64 ba1)).1
                  rw [HSet.out ba1] at Hst3
                  have hwb : IntKind.i64.wrap (b + gu) = b + gu := IntWalk.i64_in _ (by omega)
                  have hws : IntKind.i64.wrap (sm + ba1) = sm + ba1 := IntWalk.i64_in _ (by omega)
                  have Hbr2 := Lib.hid hbr2
                  clear Mk2 g2 g3 q0 q1 q2 q3 q4 hrc hWe hHQ hbr2
                  go_wp2
                  refine ⟨⟨k + 1, by omega, by go_num, rfl, by rw [HS2.out], am ++ [ba1], b + gu, min (sm + ba1) 1125899906842625, HStp3.out, rfl, rfl, by omega, by omega, by omega, by omega, Hst3.out, Hbr2.out.setCell (p := ⟨gL, _, none⟩) HgL2.out.1 _⟩, by simp [intOf]; omega⟩
                · have hbz : (be1 != 0) = true := bne_iff_ne.2 hbe
                  have HE := Lib.hid (HPE2.out wc be1 (priceS_err (HErr2.out hbe) hbe) Hwe.out)
                  clear Mk2 g2 g3 q0 q1 q2 q3 q4 hrc hWe hHQ hbr2 k2 k3 kf
                  go_wp2
                  refine bodyPost_ret (v := .tuple #[.slice none 0 0, .int .i64 0, .int .i64 be1]) (by simp [results, Try.results24, go_sem]) rfl HE.out
      · have HPS := Lib.hid (priceS_end HPr.out (by omega) hk)
        have HB := Lib.hid (Hw0.out.trans ((HW3.out wr hbr).mono Hw0.out.size))
        have HSg := Lib.hid (show SgsAt wr (.slice (some ⟨gL, 0, none⟩) L.length cL) (midA L k am) from SgsAt.own (by rw [midA_length HPr.out.1 hk]; exact HownK.out))
        obtain ⟨su, hsu⟩ : ∃ su, su = setupK rs kd z L k := ⟨_, rfl⟩
        rw [← hsu] at HPS ⊢
        clear hsu
        by_cases hA : su < 0 ∨ 1125899906842624 < su ∨ 1125899906842624 < su + sm
        · have HE := Lib.hid (HPE2.out wr 6 (HPS.out.trans (if_pos hA)) HB.out)
          clear HPS
          by_cases hA1 : su < 0
          · clear hA
            go_wp2
            refine bodyPost_ret (v := .tuple #[.slice none 0 0, .int .i64 0, .int .i64 6]) (by simp [results, Try.results24, go_sem]) rfl HE.out
          · by_cases hA2 : 1125899906842624 < su
            · clear hA
              go_wp2
              refine bodyPost_ret (v := .tuple #[.slice none 0 0, .int .i64 0, .int .i64 6]) (by simp [results, Try.results24, go_sem]) rfl HE.out
            · have hA3 : 1125899906842624 < su + sm := by omega
              have hw3 : IntKind.i64.wrap (su + sm) = su + sm := IntWalk.i64_in _ (by omega)
              clear hA
              go_wp2
              refine bodyPost_ret (v := .tuple #[.slice none 0 0, .int .i64 0, .int .i64 6]) (by simp [results, Try.results24, go_sem]) rfl HE.out
        · have HE := Lib.hid (show PriceTo bs hol sl ⟨id, kd, ac, sb, ua, ub, st, un, tr, ib, so, se⟩ free rs z w (.returned (.tuple #[.slice (some ⟨gL, 0, none⟩) L.length cL, .int .i64 su, .int .i64 0])) wr from (HPT.out _ _).2 ⟨L, _, HSeg.out, by rw [HPS.out.trans (if_neg hA)], by rw [HPS.out.trans (if_neg hA)]; exact HSg.out, HB.out⟩)
          have hA1 : ¬ su < 0 := by omega
          have hA2 : ¬ 1125899906842624 < su := by omega
          have hA3 : ¬ 1125899906842624 < su + sm := by omega
          have hw3 : IntKind.i64.wrap (su + sm) = su + sm := IntWalk.i64_in _ (by omega)
          clear hA HPS
          go_wp2
          refine bodyPost_ret (v := .tuple #[.slice (some ⟨gL, 0, none⟩) L.length cL, .int .i64 su, .int .i64 0]) (by simp [results, Try.results24, go_sem]) rfl HE.out
end Go.Proofs.Ytnekgkmlodeckaa
