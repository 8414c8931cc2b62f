/-
  How many periods the holdings of an account have, and how many cycles they touch: plainly.
-/
import Derived.Test.YtngippiilgdnoaaGreatMkbg
import Derived.Test.YtngippiilgdnoaaGreatMkay
set_option maxRecDepth 100000
set_option maxHeartbeats 25600000
namespace Go.Proofs.YtngippiilgdnoaaGreat
open Go.RowKit
structure BuX where
 b : Bu
 za : Option Addr
 zn : Nat
 zc : Nat
def buCells (x : BuX) : List Value := [.int .i64 x.b.ac, .int .i64 x.b.sb, .string x.b.pr, .int .i64 x.b.ix, .int .i64 x.b.kd, .slice x.za x.zn x.zc, .int .i64 x.b.f, .int .i64 x.b.t, .int .i64 x.b.un, .int .i64 x.b.lf, .int .i64 x.b.pt, .bool x.b.sh]
def buVal (x : BuX) : Value := .agg #[.int .i64 x.b.ac, .int .i64 x.b.sb, .string x.b.pr, .int .i64 x.b.ix, .int .i64 x.b.kd, .slice x.za x.zn x.zc, .int .i64 x.b.f, .int .i64 x.b.t, .int .i64 x.b.un, .int .i64 x.b.lf, .int .i64 x.b.pt, .bool x.b.sh]
theorem bu12 {w : World} {b o : Nat} {x : BuX} (h : RecR buCells 12 w b o x) : w.cell? ⟨b, o, none⟩ = some (.int .i64 x.b.ac) ∧ w.cell? ⟨b, o + 1, none⟩ = some (.int .i64 x.b.sb) ∧ w.cell? ⟨b, o + 2, none⟩ = some (.string x.b.pr) ∧ w.cell? ⟨b, o + 3, none⟩ = some (.int .i64 x.b.ix) ∧ w.cell? ⟨b, o + 4, none⟩ = some (.int .i64 x.b.kd) ∧ w.cell? ⟨b, o + 5, none⟩ = some (.slice x.za x.zn x.zc) ∧ w.cell? ⟨b, o + 6, none⟩ = some (.int .i64 x.b.f) ∧ w.cell? ⟨b, o + 7, none⟩ = some (.int .i64 x.b.t) ∧ w.cell? ⟨b, o + 8, none⟩ = some (.int .i64 x.b.un) ∧ w.cell? ⟨b, o + 9, none⟩ = some (.int .i64 x.b.lf) ∧ w.cell? ⟨b, o + 10, none⟩ = some (.int .i64 x.b.pt) ∧ w.cell? ⟨b, o + 11, none⟩ = some (.bool x.b.sh) := ⟨h 0 (by decide), h 1 (by decide), h 2 (by decide), h 3 (by decide), h 4 (by decide), h 5 (by decide), h 6 (by decide), h 7 (by decide), h 8 (by decide), h 9 (by decide), h 10 (by decide), h 11 (by decide)⟩
def buRow (x : BuX) : Obj := Obj.cells #[.int .i64 x.b.ac, .int .i64 x.b.sb, .string x.b.pr, .int .i64 x.b.ix, .int .i64 x.b.kd, .slice x.za x.zn x.zc, .int .i64 x.b.f, .int .i64 x.b.t, .int .i64 x.b.un, .int .i64 x.b.lf, .int .i64 x.b.pt, .bool x.b.sh] 60
theorem bu_cells {w : World} {g : Nat} {x : BuX} (h : w.heap[g]? = some (buRow x)) : w.cell? ⟨g, 0, none⟩ = some (.int .i64 x.b.ac) ∧ w.cell? ⟨g, 1, none⟩ = some (.int .i64 x.b.sb) ∧ w.cell? ⟨g, 2, none⟩ = some (.string x.b.pr) ∧ w.cell? ⟨g, 3, none⟩ = some (.int .i64 x.b.ix) ∧ w.cell? ⟨g, 4, none⟩ = some (.int .i64 x.b.kd) ∧ w.cell? ⟨g, 5, none⟩ = some (.slice x.za x.zn x.zc) ∧ w.cell? ⟨g, 6, none⟩ = some (.int .i64 x.b.f) ∧ w.cell? ⟨g, 7, none⟩ = some (.int .i64 x.b.t) ∧ w.cell? ⟨g, 8, none⟩ = some (.int .i64 x.b.un) ∧ w.cell? ⟨g, 9, none⟩ = some (.int .i64 x.b.lf) ∧ w.cell? ⟨g, 10, none⟩ = some (.int .i64 x.b.pt) ∧ w.cell? ⟨g, 11, none⟩ = some (.bool x.b.sh) := by
 unfold buRow at h
 exact ⟨cell_of_row w _ 0 _ _ _ h, cell_of_row w _ 1 _ _ _ h, cell_of_row w _ 2 _ _ _ h, cell_of_row w _ 3 _ _ _ h, cell_of_row w _ 4 _ _ _ h, cell_of_row w _ 5 _ _ _ h, cell_of_row w _ 6 _ _ _ h, cell_of_row w _ 7 _ _ _ h, cell_of_row w _ 8 _ _ _ h, cell_of_row w _ 9 _ _ _ h, cell_of_row w _ 10 _ _ _ h, cell_of_row w _ 11 _ _ _ h⟩
structure BuRd (w : World) (x : BuX) : Prop where
 z : StrsAt w (.slice x.za x.zn x.zc) x.b.zs
 p : x.b.pr.size ≤ maxLen
 len : x.b.zs.length * 16 ≤ 140737488355328
theorem BuRd.below {w w' : World} {x : BuX} (h : BuRd w x) (hb : Below w.heap.size w w') : BuRd w' x := ⟨h.z.below hb, h.p, h.len⟩
def BusAt (w : World) (v : Value) (X : List BuX) : Prop := RecAt buCells 12 w v X ∧ ∀ x ∈ X, BuRd w x
theorem BusAt.below {w w' : World} {v : Value} {X : List BuX} (h : BusAt w v X) (hb : Below w.heap.size w w') : BusAt w' v X := ⟨h.1.below hb, fun x hx => (h.2 x hx).below hb⟩
def plB (X : List BuX) : List Bu := X.map (·.b)
theorem plB_len (X : List BuX) : (plB X).length = X.length := List.length_map ..
theorem prec_calls (x y : BuX) (w : World) :
 Calls Tryz.prog 94 #[buVal x, buVal y] w fun e w' => e = .returned (.bool (precB x.b y.b)) ∧ Below w.heap.size w w' := by
 obtain ⟨W, hW, r0, r1, hw0, hz⟩ := two_rows2 w (buRow x) (buRow y)
 have HW := hZ9 hW
 have Hb := hZ9 hw0
 obtain ⟨x0, x1, x2, x3, x4, -, x6, x7, -, -, -, -⟩ := bu_cells r0
 obtain ⟨y0, y1, y2, y3, y4, -, y6, y7, -, -, -, -⟩ := bu_cells r1
 unfold buRow at HW
 have HD := hZ9 (show precB x.b y.b = precB x.b y.b from rfl)
 unfold precB at HD
 clear hW r0 r1 hw0 hz
 unfold buVal
 obtain ⟨⟨a0, a1, a2, a3, a4, azs, a6, a7, a8, a9, a10, a11⟩, za, zn, zc⟩ := x
 obtain ⟨⟨b0, b1, b2, b3, b4, bzs, b6, b7, b8, b9, b10, b11⟩, ya, yn, yc⟩ := y
 dsimp only at *
 by_cases h0 : a1 = b1
 · have k0 : (a1 == b1) = true := beq_iff_eq.2 h0
   by_cases h1 : sameS a2 b2 = true
   · have k1 : (a2.toList == b2.toList) = true := h1
     by_cases h2 : a3 = b3
     · have k2 : (a3 == b3) = true := beq_iff_eq.2 h2
       by_cases h3 : a4 = b4
       · have k3 : (a4 == b4) = true := beq_iff_eq.2 h3
         by_cases h4 : a7 = b6
         · have k4 : (a7 == b6) = true := beq_iff_eq.2 h4
           have HE := hZ9 (show precB ⟨a0, a1, a2, a3, a4, azs, a6, a7, a8, a9, a10, a11⟩ ⟨b0, b1, b2, b3, b4, bzs, b6, b7, b8, b9, b10, b11⟩ = true by unfold precB; simp [h0, h1, h2, h3, h4])
           rw [HE.out]
           clear HD h0 h1 h2 h3 h4
           go_enter Tryz.func94, Tryz.ntmps94
           go_upto_region 1 with (fail)
           rw [← HW.out]
           go_wp2_with fail
           go_ret
           exact ⟨ret_bool (by first | rfl | simp), Hb.out⟩
         have k4 : (a7 == b6) = false := beq_eq_false_iff_ne.2 h4
         have HE := hZ9 (show precB ⟨a0, a1, a2, a3, a4, azs, a6, a7, a8, a9, a10, a11⟩ ⟨b0, b1, b2, b3, b4, bzs, b6, b7, b8, b9, b10, b11⟩ = false by unfold precB; simp [h4])
         rw [HE.out]
         clear HD h0 h1 h2 h3 h4
         go_enter Tryz.func94, Tryz.ntmps94
         go_upto_region 1 with (fail)
         rw [← HW.out]
         go_wp2_with fail
         go_ret
         exact ⟨ret_bool (by first | rfl | simp), Hb.out⟩
       have k3 : (a4 == b4) = false := beq_eq_false_iff_ne.2 h3
       have HE := hZ9 (show precB ⟨a0, a1, a2, a3, a4, azs, a6, a7, a8, a9, a10, a11⟩ ⟨b0, b1, b2, b3, b4, bzs, b6, b7, b8, b9, b10, b11⟩ = false by unfold precB; simp [h3])
       rw [HE.out]
       clear HD h0 h1 h2 h3
       go_enter Tryz.func94, Tryz.ntmps94
       go_upto_region 1 with (fail)
       rw [← HW.out]
       go_wp2_with fail
       go_ret
       exact ⟨ret_bool (by first | rfl | simp), Hb.out⟩
     have k2 : (a3 == b3) = false := beq_eq_false_iff_ne.2 h2
     have HE := hZ9 (show precB ⟨a0, a1, a2, a3, a4, azs, a6, a7, a8, a9, a10, a11⟩ ⟨b0, b1, b2, b3, b4, bzs, b6, b7, b8, b9, b10, b11⟩ = false by unfold precB; simp [h2])
     rw [HE.out]
     clear HD h0 h1 h2
     go_enter Tryz.func94, Tryz.ntmps94
     go_upto_region 1 with (fail)
     rw [← HW.out]
     go_wp2_with fail
     go_ret
     exact ⟨ret_bool (by first | rfl | simp), Hb.out⟩
   have h1 : sameS a2 b2 = false := by simpa using h1
   have k1 : (a2.toList == b2.toList) = false := h1
   have HE := hZ9 (show precB ⟨a0, a1, a2, a3, a4, azs, a6, a7, a8, a9, a10, a11⟩ ⟨b0, b1, b2, b3, b4, bzs, b6, b7, b8, b9, b10, b11⟩ = false by unfold precB; simp [h1])
   rw [HE.out]
   clear HD h0 h1
   go_enter Tryz.func94, Tryz.ntmps94
   go_upto_region 1 with (fail)
   rw [← HW.out]
   go_wp2_with fail
   go_ret
   exact ⟨ret_bool (by first | rfl | simp), Hb.out⟩
 have k0 : (a1 == b1) = false := beq_eq_false_iff_ne.2 h0
 have HE := hZ9 (show precB ⟨a0, a1, a2, a3, a4, azs, a6, a7, a8, a9, a10, a11⟩ ⟨b0, b1, b2, b3, b4, bzs, b6, b7, b8, b9, b10, b11⟩ = false by unfold precB; simp [h0])
 rw [HE.out]
 clear HD h0
 go_enter Tryz.func94, Tryz.ntmps94
 go_upto_region 1 with (fail)
 rw [← HW.out]
 go_wp2_with fail
 go_ret
 exact ⟨ret_bool (by first | rfl | simp), Hb.out⟩
theorem earl_calls (x y : BuX) (w : World) :
 Calls Tryz.prog 96 #[buVal x, buVal y] w fun e w' => e = .returned (.bool (earlB x.b y.b)) ∧ Below w.heap.size w w' := by
 obtain ⟨W, hW, r0, r1, hw0, hz⟩ := two_rows2 w (buRow x) (buRow y)
 have HW := hZ9 hW
 have Hb := hZ9 hw0
 obtain ⟨x0, x1, x2, x3, x4, -, x6, x7, -, -, -, -⟩ := bu_cells r0
 obtain ⟨y0, y1, y2, y3, y4, -, y6, y7, -, -, -, -⟩ := bu_cells r1
 unfold buRow at HW
 have HD := hZ9 (show earlB x.b y.b = earlB x.b y.b from rfl)
 unfold earlB at HD
 clear hW r0 r1 hw0 hz
 unfold buVal
 obtain ⟨⟨a0, a1, a2, a3, a4, azs, a6, a7, a8, a9, a10, a11⟩, za, zn, zc⟩ := x
 obtain ⟨⟨b0, b1, b2, b3, b4, bzs, b6, b7, b8, b9, b10, b11⟩, ya, yn, yc⟩ := y
 dsimp only at *
 by_cases h0 : a0 = b0
 · have k0 : (a0 != b0) = false := bne_eq_false_iff_eq.2 h0
   by_cases h1 : a1 = b1
   · have k1 : (a1 != b1) = false := bne_eq_false_iff_eq.2 h1
     by_cases h2 : sameS a2 b2 = true
     · have k2 : (a2.toList == b2.toList) = true := h2
       by_cases h3 : a3 = b3
       · have k3 : (a3 != b3) = false := bne_eq_false_iff_eq.2 h3
         have HE := hZ9 (show earlB ⟨a0, a1, a2, a3, a4, azs, a6, a7, a8, a9, a10, a11⟩ ⟨b0, b1, b2, b3, b4, bzs, b6, b7, b8, b9, b10, b11⟩ = decide (a6 < b6) by unfold earlB; simp [h0, h1, h2, h3])
         clear HD h0 h1 h2 h3
         rw [HE.out]
         go_enter Tryz.func96, Tryz.ntmps96
         go_upto_region 1 with (fail)
         rw [← HW.out]
         go_wp2_with fail
         go_ret
         exact ⟨ret_bool (by first | rfl | simp), Hb.out⟩
       have k3 : (a3 != b3) = true := bne_iff_ne.2 h3
       have HE := hZ9 (show earlB ⟨a0, a1, a2, a3, a4, azs, a6, a7, a8, a9, a10, a11⟩ ⟨b0, b1, b2, b3, b4, bzs, b6, b7, b8, b9, b10, b11⟩ = decide (a3 < b3) by unfold earlB; simp [h0, h1, h2, h3])
       clear HD h0 h1 h2 h3
       rw [HE.out]
       go_enter Tryz.func96, Tryz.ntmps96
       go_upto_region 1 with (fail)
       rw [← HW.out]
       go_wp2_with fail
       go_ret
       exact ⟨ret_bool (by first | rfl | simp), Hb.out⟩
     have h2 : sameS a2 b2 = false := by simpa using h2
     have k2 : (a2.toList == b2.toList) = false := h2
     have HE := hZ9 (show earlB ⟨a0, a1, a2, a3, a4, azs, a6, a7, a8, a9, a10, a11⟩ ⟨b0, b1, b2, b3, b4, bzs, b6, b7, b8, b9, b10, b11⟩ = ltS a2 b2 by unfold earlB; simp [h0, h1, h2])
     clear HD h0 h1 h2
     rw [HE.out]
     go_enter Tryz.func96, Tryz.ntmps96
     go_upto_region 1 with (fail)
     rw [← HW.out]
     go_wp2_with fail
     go_ret
     exact ⟨ret_bool (by first | rfl | simp), Hb.out⟩
   have k1 : (a1 != b1) = true := bne_iff_ne.2 h1
   have HE := hZ9 (show earlB ⟨a0, a1, a2, a3, a4, azs, a6, a7, a8, a9, a10, a11⟩ ⟨b0, b1, b2, b3, b4, bzs, b6, b7, b8, b9, b10, b11⟩ = decide (a1 < b1) by unfold earlB; simp [h0, h1])
   clear HD h0 h1
   rw [HE.out]
   go_enter Tryz.func96, Tryz.ntmps96
   go_upto_region 1 with (fail)
   rw [← HW.out]
   go_wp2_with fail
   go_ret
   exact ⟨ret_bool (by first | rfl | simp), Hb.out⟩
 have k0 : (a0 != b0) = true := bne_iff_ne.2 h0
 have HE := hZ9 (show earlB ⟨a0, a1, a2, a3, a4, azs, a6, a7, a8, a9, a10, a11⟩ ⟨b0, b1, b2, b3, b4, bzs, b6, b7, b8, b9, b10, b11⟩ = decide (a0 < b0) by unfold earlB; simp [h0])
 clear HD h0
 rw [HE.out]
 go_enter Tryz.func96, Tryz.ntmps96
 go_upto_region 1 with (fail)
 rw [← HW.out]
 go_wp2_with fail
 go_ret
 exact ⟨ret_bool (by first | rfl | simp), Hb.out⟩
theorem rearl_calls (x y : BuX) (w : World) :
 Calls Tryz.prog 48 #[buVal x, buVal y] w fun e w' => e = .returned (.bool (earlB x.b y.b)) ∧ Below w.heap.size w w' := by
 obtain ⟨W, hW, r0, r1, hw0, hz⟩ := two_rows2 w (buRow x) (buRow y)
 have HW := hZ9 hW
 have Hb := hZ9 hw0
 obtain ⟨x0, x1, x2, x3, x4, -, x6, x7, -, -, -, -⟩ := bu_cells r0
 obtain ⟨y0, y1, y2, y3, y4, -, y6, y7, -, -, -, -⟩ := bu_cells r1
 unfold buRow at HW
 have HD := hZ9 (show earlB x.b y.b = earlB x.b y.b from rfl)
 unfold earlB at HD
 clear hW r0 r1 hw0 hz
 unfold buVal
 obtain ⟨⟨a0, a1, a2, a3, a4, azs, a6, a7, a8, a9, a10, a11⟩, za, zn, zc⟩ := x
 obtain ⟨⟨b0, b1, b2, b3, b4, bzs, b6, b7, b8, b9, b10, b11⟩, ya, yn, yc⟩ := y
 dsimp only at *
 by_cases h0 : a0 = b0
 · have k0 : (a0 != b0) = false := bne_eq_false_iff_eq.2 h0
   by_cases h1 : a1 = b1
   · have k1 : (a1 != b1) = false := bne_eq_false_iff_eq.2 h1
     by_cases h2 : sameS a2 b2 = true
     · have k2 : (a2.toList == b2.toList) = true := h2
       by_cases h3 : a3 = b3
       · have k3 : (a3 != b3) = false := bne_eq_false_iff_eq.2 h3
         have HE := hZ9 (show earlB ⟨a0, a1, a2, a3, a4, azs, a6, a7, a8, a9, a10, a11⟩ ⟨b0, b1, b2, b3, b4, bzs, b6, b7, b8, b9, b10, b11⟩ = decide (a6 < b6) by unfold earlB; simp [h0, h1, h2, h3])
         clear HD h0 h1 h2 h3
         rw [HE.out]
         go_enter Tryz.func48, Tryz.ntmps48
         go_upto_region 1 with (fail)
         rw [← HW.out]
         go_wp2_with fail
         go_ret
         exact ⟨ret_bool (by first | rfl | simp), Hb.out⟩
       have k3 : (a3 != b3) = true := bne_iff_ne.2 h3
       have HE := hZ9 (show earlB ⟨a0, a1, a2, a3, a4, azs, a6, a7, a8, a9, a10, a11⟩ ⟨b0, b1, b2, b3, b4, bzs, b6, b7, b8, b9, b10, b11⟩ = decide (a3 < b3) by unfold earlB; simp [h0, h1, h2, h3])
       clear HD h0 h1 h2 h3
       rw [HE.out]
       go_enter Tryz.func48, Tryz.ntmps48
       go_upto_region 1 with (fail)
       rw [← HW.out]
       go_wp2_with fail
       go_ret
       exact ⟨ret_bool (by first | rfl | simp), Hb.out⟩
     have h2 : sameS a2 b2 = false := by simpa using h2
     have k2 : (a2.toList == b2.toList) = false := h2
     have HE := hZ9 (show earlB ⟨a0, a1, a2, a3, a4, azs, a6, a7, a8, a9, a10, a11⟩ ⟨b0, b1, b2, b3, b4, bzs, b6, b7, b8, b9, b10, b11⟩ = ltS a2 b2 by unfold earlB; simp [h0, h1, h2])
     clear HD h0 h1 h2
     rw [HE.out]
     go_enter Tryz.func48, Tryz.ntmps48
     go_upto_region 1 with (fail)
     rw [← HW.out]
     go_wp2_with fail
     go_ret
     exact ⟨ret_bool (by first | rfl | simp), Hb.out⟩
   have k1 : (a1 != b1) = true := bne_iff_ne.2 h1
   have HE := hZ9 (show earlB ⟨a0, a1, a2, a3, a4, azs, a6, a7, a8, a9, a10, a11⟩ ⟨b0, b1, b2, b3, b4, bzs, b6, b7, b8, b9, b10, b11⟩ = decide (a1 < b1) by unfold earlB; simp [h0, h1])
   clear HD h0 h1
   rw [HE.out]
   go_enter Tryz.func48, Tryz.ntmps48
   go_upto_region 1 with (fail)
   rw [← HW.out]
   go_wp2_with fail
   go_ret
   exact ⟨ret_bool (by first | rfl | simp), Hb.out⟩
 have k0 : (a0 != b0) = true := bne_iff_ne.2 h0
 have HE := hZ9 (show earlB ⟨a0, a1, a2, a3, a4, azs, a6, a7, a8, a9, a10, a11⟩ ⟨b0, b1, b2, b3, b4, bzs, b6, b7, b8, b9, b10, b11⟩ = decide (a0 < b0) by unfold earlB; simp [h0])
 clear HD h0
 rw [HE.out]
 go_enter Tryz.func48, Tryz.ntmps48
 go_upto_region 1 with (fail)
 rw [← HW.out]
 go_wp2_with fail
 go_ret
 exact ⟨ret_bool (by first | rfl | simp), Hb.out⟩
theorem id35_calls (x : BuX) (w : World) : Calls Tryz.prog 27 #[buVal x] w fun e w' => e = .returned (.agg #[.int .i64 x.b.sb, .string x.b.pr, .int .i64 x.b.ix, .int .i64 x.b.f, .int .i64 0]) ∧ Below w.heap.size w w' := by
 obtain ⟨W, hW, r0, r1, hw0, hz⟩ := two_rows2 w (buRow x) (Obj.cells #[.int .i64 0, .string ⟨#[]⟩, .int .i64 0, .int .i64 0, .int .i64 0] 63)
 unfold buRow at hW r0
 have HW := hZ9 hW
 have ZR := hZ9 r1
 have HF := hZ9 (below_setRow1 hw0 (Nat.le_succ _) #[.int .i64 x.b.sb, .string x.b.pr, .int .i64 x.b.ix, .int .i64 x.b.f, .int .i64 0])
 unfold buVal
 clear hW r1 hw0 hz
 have tQ := fun j => cell_of_row W _ j _ _ _ r0
 have x1 := tQ 1
 have x2 := tQ 2
 have x3 := tQ 3
 have x6 := tQ 6
 clear tQ
 clear r0
 go_enter Tryz.func27, Tryz.ntmps27
 go_upto_region 1 with (fail)
 rw [← HW.out]
 have tQ := fun j => cell_setRow_same W (w.heap.size + 1) j _ #[.int .i64 x.b.sb, .string x.b.pr, .int .i64 x.b.ix, .int .i64 x.b.f, .int .i64 0] _ _ ZR.out
 have t0 := tQ 0
 have t1 := tQ 1
 have t2 := tQ 2
 have t3 := tQ 3
 have t4 := tQ 4
 clear tQ
 repeat (first | refine wpList_store_row rfl _ _ _ rfl (w.heap.size + 1) #[.int .i64 x.b.sb, .string x.b.pr, .int .i64 x.b.ix, .int .i64 x.b.f, .int .i64 0] rfl rfl 63 _ ZR.out (by kernel_rfl) rfl (by simp [Value.oneCell']) ?_ | go_step)
 refine bodyPost_ret (v := .agg #[.int .i64 x.b.sb, .string x.b.pr, .int .i64 x.b.ix, .int .i64 x.b.f, .int .i64 0]) (by simp [results, Tryz.results27, go_sem, t0, t1, t2, t3, t4]) rfl ?_
 exact ⟨rfl, HF.out⟩
theorem name33_calls (s : ByteArray) (w : World) (hs : s.size ≤ maxLen) : Calls Tryz.prog 65 #[.string s] w fun e w' => e = .returned (.bool (isName s)) ∧ w = w' := by
 unfold maxLen at hs
 by_cases h0 : 0 < s.size
 · have hne := not_empty s h0
   by_cases h24 : s.size ≤ 24
   · have hd := head_eq s h0
     cases hl : isLow s[0] with
     | false =>
       have H := hZ9 (show isName s = false by unfold isName; rw [hd, hl]; simp)
       have hc : (s[0].toNat : Int) < 97 ∨ (97 ≤ (s[0].toNat : Int) ∧ 122 < (s[0].toNat : Int)) := by
        have := of_decide_eq_false hl; omega
       clear hl hd
       rcases hc with hc | hc
       all_goals
        go_enter Tryz.func65, Tryz.ntmps65
        go_wp2
        go_ret
        exact ⟨ret_bool H.out.symm, rfl⟩
     | true =>
       have H := hZ9 (show isName s = s.data.toList.all isSign by unfold isName; rw [hd, hl, decide_eq_true ⟨h0, h24⟩]; rfl)
       obtain ⟨l1, l2⟩ := of_decide_eq_true hl
       have H1 := hZ9 (show (s.data.toList.take 0).all isSign = true by rw [List.take_zero]; rfl)
       clear hl hd
       go_enter Tryz.func65, Tryz.ntmps65
       go_wp2
       go_loop [3, 4] (fun i _ => ∃ k : Nat, 0 ≤ k ∧ k ≤ s.size ∧ i = .int .i64 k ∧ (s.data.toList.take k).all isSign = true) (fun i _ => s.size - (intOf i).toNat)
       case atStart => exact ⟨0, Nat.le_refl _, by omega, rfl, H1.out⟩
       case round =>
        obtain ⟨k, hk0, hk, rfl, ha⟩ := hrel
        have Ha := hZ9 ha
        clear ha
        by_cases hlt : k < s.size
        · have hlt' : (k : Int) < (s.size : Int) := by omega
          cases hg : isSign s[k] with
          | false =>
            have HF := hZ9 (all_false s k hlt hg)
            obtain ⟨e1, e2, e3⟩ := sign_false hg
            clear hg
            rcases e1 with e1 | e1 <;> rcases e2 with e2 | e2
            all_goals first | (exfalso; omega) | skip
            all_goals
             first | have d1 := decide_eq_true (show 97 ≤ (s[k].toNat : Int) by omega) | have d1 := decide_eq_false (show ¬ 97 ≤ (s[k].toNat : Int) by omega)
             first | have d2 := decide_eq_true (show (s[k].toNat : Int) ≤ 122 by omega) | have d2 := decide_eq_false (show ¬ (s[k].toNat : Int) ≤ 122 by omega)
             first | have d3 := decide_eq_true (show 48 ≤ (s[k].toNat : Int) by omega) | have d3 := decide_eq_false (show ¬ 48 ≤ (s[k].toNat : Int) by omega)
             first | have d4 := decide_eq_true (show (s[k].toNat : Int) ≤ 57 by omega) | have d4 := decide_eq_false (show ¬ (s[k].toNat : Int) ≤ 57 by omega)
             have d5 : (((s[k].toNat : Nat) : Int) == 45) = false := by simpa using e3
             clear e1 e2 e3
             go_wp2
             go_ret
             exact ⟨ret_bool (by rw [H.out, HF.out]), rfl⟩
          | true =>
            have HT := hZ9 (show (s.data.toList.take (k + 1)).all isSign = true by rw [all_take_snoc s k hlt, Ha.out, hg]; rfl)
            have hs3 := sign_true hg
            clear hg
            rcases hs3 with ⟨f1, f2⟩ | ⟨f1 | f1, f2, f3⟩ | ⟨f1 | f1, f2 | f2, f3⟩
            all_goals first | (exfalso; omega) | skip
            all_goals
             first | have d1 := decide_eq_true (show 97 ≤ (s[k].toNat : Int) by omega) | have d1 := decide_eq_false (show ¬ 97 ≤ (s[k].toNat : Int) by omega)
             first | have d2 := decide_eq_true (show (s[k].toNat : Int) ≤ 122 by omega) | have d2 := decide_eq_false (show ¬ (s[k].toNat : Int) ≤ 122 by omega)
             first | have d3 := decide_eq_true (show 48 ≤ (s[k].toNat : Int) by omega) | have d3 := decide_eq_false (show ¬ 48 ≤ (s[k].toNat : Int) by omega)
             first | have d4 := decide_eq_true (show (s[k].toNat : Int) ≤ 57 by omega) | have d4 := decide_eq_false (show ¬ (s[k].toNat : Int) ≤ 57 by omega)
             try have d5 : (((s[k].toNat : Nat) : Int) == 45) = true := by simpa using f3
             try clear f3
             go_wp2
             exact ⟨⟨k + 1, by omega, by omega, by go_num, HT.out⟩, by simp [intOf]; omega⟩
        go_wp2
        go_ret
        exact ⟨ret_bool (by rw [H.out, ← Ha.out, List.take_of_length_le (by simp; omega)]), rfl⟩
   have H := hZ9 (show isName s = false by unfold isName; rw [decide_eq_false (by omega)]; rfl)
   go_enter Tryz.func65, Tryz.ntmps65
   go_wp2
   go_ret
   exact ⟨ret_bool H.out.symm, rfl⟩
 have H := hZ9 (show isName s = false by unfold isName; rw [decide_eq_false (by omega)]; rfl)
 have hz : s.size = 0 := by omega
 have hem : s.toList.isEmpty = true := by rw [Lib.toList_data, List.isEmpty_iff]; exact List.length_eq_zero_iff.1 (by simpa using hz)
 go_enter Tryz.func65, Tryz.ntmps65
 go_wp2
 go_ret
 exact ⟨ret_bool H.out.symm, rfl⟩
theorem check33_calls (x : BuX) (w : World) (h : BuRd w x) (a0 : 1 ≤ x.b.ac) (a1 : x.b.ac ≤ 9999) (s0 : 1 ≤ x.b.sb) (s1 : x.b.sb ≤ 9999) (hn : isName x.b.pr = true) (i0 : 0 ≤ x.b.ix) (i1 : x.b.ix < 64) (k0 : 1 ≤ x.b.kd) (k1 : x.b.kd < 5) (hz : x.b.zs.length ≤ 64) (hzn : x.b.zs.all isName = true)
 (hv : validB x.b.f x.b.t = true) (u0 : 0 ≤ x.b.un) (u1 : x.b.un ≤ 2199023255552) (hl : x.b.lf = x.b.un) : Calls Tryz.prog 31 #[buVal x] w fun e w' => e = .returned (.int .i64 0) ∧ Below w.heap.size w w' := by
 obtain ⟨W, hW⟩ : ∃ W, W = w.alloc (Obj.cells #[.int .i64 x.b.ac, .int .i64 x.b.sb, .string x.b.pr, .int .i64 x.b.ix, .int .i64 x.b.kd, .slice x.za x.zn x.zc, .int .i64 x.b.f, .int .i64 x.b.t, .int .i64 x.b.un, .int .i64 x.b.lf, .int .i64 x.b.pt, .bool x.b.sh] 60) := ⟨_, rfl⟩
 have hw0 : Below w.heap.size w W := by rw [hW]; exact (Below.refl _ _).alloc (Nat.le_refl _) _
 have r0 : W.heap[w.heap.size]? = some (Obj.cells #[.int .i64 x.b.ac, .int .i64 x.b.sb, .string x.b.pr, .int .i64 x.b.ix, .int .i64 x.b.kd, .slice x.za x.zn x.zc, .int .i64 x.b.f, .int .i64 x.b.t, .int .i64 x.b.un, .int .i64 x.b.lf, .int .i64 x.b.pt, .bool x.b.sh] 60) := by rw [hW]; exact heap_alloc_new _ _
 have hlt0 : w.heap.size < W.heap.size := (ltB9 r0)
 have HR := hZ9 (show ∀ w', Below W.heap.size W w' → w'.cell? ⟨w.heap.size, 0, none⟩ = some (.int .i64 x.b.ac) ∧ w'.cell? ⟨w.heap.size, 1, none⟩ = some (.int .i64 x.b.sb) ∧ w'.cell? ⟨w.heap.size, 2, none⟩ = some (.string x.b.pr) ∧ w'.cell? ⟨w.heap.size, 3, none⟩ = some (.int .i64 x.b.ix) ∧ w'.cell? ⟨w.heap.size, 4, none⟩ = some (.int .i64 x.b.kd) ∧ w'.cell? ⟨w.heap.size, 5, none⟩ = some (.slice x.za x.zn x.zc) ∧ w'.cell? ⟨w.heap.size, 6, none⟩ = some (.int .i64 x.b.f) ∧ w'.cell? ⟨w.heap.size, 7, none⟩ = some (.int .i64 x.b.t) ∧ w'.cell? ⟨w.heap.size, 8, none⟩ = some (.int .i64 x.b.un) ∧ w'.cell? ⟨w.heap.size, 9, none⟩ = some (.int .i64 x.b.lf) ∧ w'.cell? ⟨w.heap.size, 10, none⟩ = some (.int .i64 x.b.pt) ∧ w'.cell? ⟨w.heap.size, 11, none⟩ = some (.bool x.b.sh) from fun w' hb => by
  have q := (hb.block _ hlt0).trans r0
  exact ⟨cell_of_row w' _ 0 _ _ _ q, cell_of_row w' _ 1 _ _ _ q, cell_of_row w' _ 2 _ _ _ q, cell_of_row w' _ 3 _ _ _ q, cell_of_row w' _ 4 _ _ _ q, cell_of_row w' _ 5 _ _ _ q, cell_of_row w' _ 6 _ _ _ q, cell_of_row w' _ 7 _ _ _ q, cell_of_row w' _ 8 _ _ _ q, cell_of_row w' _ 9 _ _ _ q, cell_of_row w' _ 10 _ _ _ q, cell_of_row w' _ 11 _ _ _ q⟩)
 have HW := hZ9 hW
 have Hw0 := hZ9 hw0
 have Hp := hZ9 h.p
 have Hz := hZ9 (h.z.below hw0)
 have Hzn := hZ9 (List.all_eq_true.1 hzn)
 have HN := hZ9 (fun w1 => name33_calls x.b.pr w1 h.p)
 rw [hn] at HN
 have HV := hZ9 (fun w1 => rvalid_calls x.b.f x.b.t w1)
 rw [hv] at HV
 have Hs := hZ9 (show ∀ k (hk : k < x.b.zs.length), ∃ b o, x.za = some ⟨b, o, none⟩ ∧ b < W.heap.size ∧ StrR W b (o + k) x.b.zs[k] from fun k hk => by
  obtain ⟨av, cap, e, hlc, hm, hc⟩ := Hz.out
  obtain ⟨b, o, e2, hB, hx⟩ := hc (by intro h; rw [h] at hk; cases hk)
  simp only [Value.slice.injEq] at e
  exact ⟨b, o, e.1.trans e2, hB, by simpa using hx k hk⟩)
 obtain ⟨av, cap, e, hlc, hm, -⟩ := h.z
 have hnz : x.zn = x.b.zs.length := by simp only [Value.slice.injEq] at e; exact e.2.1
 have hm := hm.1
 unfold maxLen at hm
 have hzl : x.b.zs.length ≤ 64 := hz
 unfold buVal
 rw [hnz] at HR HW ⊢
 rw [hl] at HR HW ⊢
 clear hW hw0 r0 hlt0 e h hn hl hz hzn hv hnz
 generalize x.za = za at *
 generalize x.zc = zc at *
 generalize x.b.zs = zs at *
 generalize x.b.ac = ac at *
 generalize x.b.sb = sb at *
 generalize x.b.pr = pr at *
 generalize x.b.ix = ix at *
 generalize x.b.kd = kd at *
 generalize x.b.f = f at *
 generalize x.b.t = t at *
 generalize x.b.un = un at *
 generalize x.b.pt = pt at *
 generalize x.b.sh = sh at *
 obtain ⟨q0, q1, q2, q3, q4, q5, q6, q7, q8, q9, q10, q11⟩ := HR.out W (Below.refl _ _)
 go_enter Tryz.func31, Tryz.ntmps31
 go_upto_region 1 with (fail)
 rw [← HW.out]
 go_wp2_with fail
 refine (HN.out W).mono ?_
 rintro e w1 ⟨rfl, hw1⟩
 subst hw1
 go_wp2_with fail
 go_loop [3] (fun i => ∃ k : Nat, k ≤ zs.length ∧ i = .int .i64 k) (fun i => zs.length - (intOf i).toNat)
 case atStart => exact ⟨0, Nat.zero_le _, rfl⟩
 case round =>
  obtain ⟨k, hk, rfl⟩ := hrel
  have hk0 : (0 : Int) ≤ (k : Int) := Int.natCast_nonneg _
  by_cases hlt : k < zs.length
  · have hk1 : (k : Int) < (zs.length : Int) := by omega
    obtain ⟨b, o, rfl, hB, hcell, hsz⟩ := Hs.out k hlt
    have HN2 := hZ9 (fun w1 => name33_calls zs[k] w1 hsz)
    rw [Hzn.out _ (List.getElem_mem hlt)] at HN2
    generalize zs[k] = z at *
    go_wp2_with fail
    refine (HN2.out W).mono ?_
    rintro e w1 ⟨rfl, hw1⟩
    subst hw1
    go_wp2
    exact ⟨⟨k + 1, hlt, by go_num⟩, by simp [intOf]; omega⟩
  go_wp2_with fail
  refine (HV.out W).mono ?_
  rintro e w1 ⟨rfl, hb1⟩
  clear q0 q1 q2 q3 q4 q5 q6 q7 q8 q9 q10 q11
  obtain ⟨q0, q1, q2, q3, q4, q5, q6, q7, q8, q9, q10, q11⟩ := HR.out w1 hb1
  have Hb1 := hZ9 (Hw0.out.trans (hb1.mono Hw0.out.size))
  clear hb1
  go_wp2
  go_ret
  exact ⟨rfl, Hb1.out⟩
theorem append_tx {w : World} {ops : Array Oper} {rest : List Oper} {o : Oper} {a : Act} {Q : Exit → Act → World → Prop} (hgd : o.guard = none) (s x : Operand)
 (ho : o.op = .call { callee := .builtin .append, args := #[s, x], argTypes := #[58, 58] })
 (base : Nat) (hbase : base ≤ w.heap.size) (v vx : Value) (L X : List ByteArray) (hs : a.eval s = v) (hx : a.eval x = vx) (hown : w.ownsRow base 9 1 v L.length (L.flatMap strCells)) (hX : RecAt strCells 1 w vx X) (hlen : L.length + X.length ≤ maxLen) (hby : (L.length + X.length) * 16 ≤ 140737488355328)
 (h : ∀ R : List ByteArray, RowKit.Hid (R = L ++ X) → ∀ v' w', w'.ownsRow base 9 1 v' R.length (R.flatMap strCells) → Below base w w' → wpList Tryz.prog ops Q rest (a.put o.dst v') w') : wpList Tryz.prog ops Q (o :: rest) a w :=
 append_rec (c := strCells) (sz := 1) (fun _ => rfl) (fun a u hu => by unfold strCells at hu; rw [List.mem_singleton] at hu; subst hu; rfl) 9 58 _ 16 Tryz.underlying58 Tryz.stringInfo rfl (by decide) hgd s x ho base hbase v vx L X hs hx hown hX hlen hby h
structure BuO (base : Nat) (w : World) (x : BuX) : Prop where
 row : w.ownsRow base 9 1 (.slice x.za x.zn x.zc) x.b.zs.length (x.b.zs.flatMap strCells)
 sizes : ∀ s ∈ x.b.zs, s.size ≤ maxLen
 p : x.b.pr.size ≤ maxLen
 len : x.b.zs.length * 16 ≤ 140737488355328
theorem BuO.below {base : Nat} {w w' : World} {x : BuX} (h : BuO base w x) (hb : Below w.heap.size w w') : BuO base w' x := ⟨ownsRow_below h.row hb, h.sizes, h.p, h.len⟩
theorem BuO.down {b b' : Nat} {w : World} {x : BuX} (h : BuO b w x) (hb : b' ≤ b) : BuO b' w x := ⟨own_down h.row hb, h.sizes, h.p, h.len⟩
theorem BuO.rd {base : Nat} {w : World} {x : BuX} (h : BuO base w x) : BuRd w x := ⟨strs_of_rec (RecAt.own (fun _ => rfl) h.row) h.sizes, h.p, h.len⟩
theorem BuO.growT {base base' : Nat} {w w' : World} {x : BuX} (h : BuO base w x) {v : Value} {e : TypeId} {sz n : Nat} {xs : List Value} (ho : w.ownsRow base' e sz v n xs) (he : e ≠ 9) (hg : w.grownBy w' v.ownBlock) : BuO base w' x :=
 ⟨own_grow h.row hg (own_other2 h.row ho he), h.sizes, h.p, h.len⟩
theorem BuO.turn {base : Nat} {w w' : World} {x : BuX} (h : BuO base w x) {g : Nat} (hne : (Value.slice x.za x.zn x.zc).ownBlock ≠ some g) (hg : w.grownBy w' (some g)) : BuO base w' x :=
 ⟨own_grow h.row hg (Or.inr hne), h.sizes, h.p, h.len⟩
def BuTo (b : Bu) (w : World) (e : Ending) (w' : World) : Prop := ∃ x : BuX, e = .returned (buVal x) ∧ x.b = b ∧ BuO w.heap.size w' x ∧ Below w.heap.size w w'
theorem strs_sizes33 {w : World} {v : Value} {l : List ByteArray} (h : StrsAt w v l) : ∀ s ∈ l, s.size ≤ maxLen := by
 obtain ⟨av, cap, rfl, -, -, hx⟩ := h
 intro s hs
 obtain ⟨i, hi, rfl⟩ := List.mem_iff_getElem.1 hs
 obtain ⟨b, o, -, -, hx⟩ := hx (by rintro rfl; cases hi)
 exact (hx i hi).2
theorem clone_calls (x : BuX) (w : World) (h : BuRd w x) : Calls Tryz.prog 51 #[buVal x] w (BuTo x.b w) := by
 obtain ⟨⟨a0, a1, a2, a3, a4, azs, a6, a7, a8, a9, a10, a11⟩, za, zn, zc⟩ := x
 obtain ⟨hz, hp, hl⟩ := h
 dsimp only at hz hp hl
 have hsz := strs_sizes33 hz
 obtain ⟨av, cap, e, hlc, hm, hzz⟩ := id hz
 cases e
 clear hzz
 have hm := hm.1
 obtain ⟨W, hW, r0, r1, hw0, hz1⟩ := two_rows2 w (Obj.cells #[.int .i64 a0, .int .i64 a1, .string a2, .int .i64 a3, .int .i64 a4, .slice za azs.length zc, .int .i64 a6, .int .i64 a7, .int .i64 a8, .int .i64 a9, .int .i64 a10, .bool a11] 60) (Obj.cells #[.int .i64 0, .int .i64 0, .string ⟨#[]⟩, .int .i64 0, .int .i64 0, .slice none 0 0, .int .i64 0, .int .i64 0, .int .i64 0, .int .i64 0, .int .i64 0, .bool false] 60)
 have HZ := hZ9 (rec_of_strs (hz.below hw0))
 have HP := hZ9 (And.intro hsz (And.intro hp hl))
 unfold buVal
 dsimp only
 have HW := hZ9 hW
 have Hw0 := hZ9 hw0
 have R0 := hZ9 r0
 have R1 := hZ9 r1
 have x5 := cell_of_row W _ 5 _ _ _ r0
 have f5 := frozen_of_row W _ 5 _ _ r0
 have hbY : Below W.heap.size W W := Below.refl _ _
 have Hown0 := hZ9 (show W.ownsRow W.heap.size 9 1 (.slice none 0 0) ([] : List ByteArray).length (([] : List ByteArray).flatMap strCells) from World.ownsRow_nil _ _ _ _)
 have HbY := hZ9 hbY
 have hbs := hbY.size
 clear hW r0 r1 hw0 hz hsz hp hl hbY
 go_enter Tryz.func51, Tryz.ntmps51
 go_upto_region 1 with (fail)
 rw [← HW.out]
 go_wp2_with (at_builtin; refine append_tx rfl _ _ rfl W.heap.size hbs _ _ [] azs rfl rfl Hown0.out (HZ.out.below HbY.out) (by simpa using Nat.le_trans hlc hm) (by simpa using HP.out.2.2) ?_)
 intro R hR v1 w1 own1 hb1
 obtain rfl : azs = R := hR.out.symm
 obtain ⟨qa, qc, rfl, -, -⟩ := own_shape own1
 have Own1 := hZ9 own1
 have hbW1 := HbY.out.trans hb1
 have HbW1 := hZ9 hbW1
 have Hb1 := hZ9 (Hw0.out.trans (hbW1.mono Hw0.out.size))
 have q0 := (hbW1.block _ (by omega)).trans R0.out
 have q1 := (hbW1.block _ hz1).trans R1.out
 have g5 := frozen_of_row w1 _ 5 _ _ q0
 have c5 := cell_of_row w1 _ 5 _ _ _ q0
 obtain ⟨Z, hZ⟩ : ∃ Z, Z = w1.setCell ⟨w.heap.size, 5, none⟩ (.slice qa azs.length qc) := ⟨_, rfl⟩
 have Z0 := hZ9 (show Z.heap[w.heap.size]? = some (Obj.cells #[.int .i64 a0, .int .i64 a1, .string a2, .int .i64 a3, .int .i64 a4, .slice qa azs.length qc, .int .i64 a6, .int .i64 a7, .int .i64 a8, .int .i64 a9, .int .i64 a10, .bool a11] 60) by rw [hZ]; exact row_set _ q0)
 have Z1 := hZ9 (show Z.heap[w.heap.size + 1]? = some (Obj.cells #[.int .i64 0, .int .i64 0, .string ⟨#[]⟩, .int .i64 0, .int .i64 0, .slice none 0 0, .int .i64 0, .int .i64 0, .int .i64 0, .int .i64 0, .int .i64 0, .bool false] 60) by rw [hZ]; exact row_other q1 (by omega))
 have HbZ := hZ9 (show Below w.heap.size w Z by rw [hZ]; exact Hb1.out.setCell (Nat.le_refl _) _)
 have Hq := hZ9 (show Z.ownsRow W.heap.size 9 1 (.slice qa azs.length qc) _ _ by rw [hZ]; exact own_setCell1 Own1.out (own_other Own1.out q0 (by decide)))
 have HZe := hZ9 hZ
 clear hZ q0 q1 own1 hb1 hbW1 x5 f5 hR
 go_upto_region 2 with (fail)
 rw [← HZe.out]
 have tQ := fun j => cell_of_row Z _ j _ _ _ Z0.out
 have z0 := tQ 0
 have z1 := tQ 1
 have z2 := tQ 2
 have z3 := tQ 3
 have z4 := tQ 4
 have z5 := tQ 5
 have z6 := tQ 6
 have z7 := tQ 7
 have z8 := tQ 8
 have z9 := tQ 9
 have z10 := tQ 10
 have z11 := tQ 11
 clear tQ
 have HbF := hZ9 (below_setRow1 HbZ.out (show w.heap.size ≤ w.heap.size + 1 by omega) #[.int .i64 a0, .int .i64 a1, .string a2, .int .i64 a3, .int .i64 a4, .slice qa azs.length qc, .int .i64 a6, .int .i64 a7, .int .i64 a8, .int .i64 a9, .int .i64 a10, .bool a11])
 have tQ := fun j => cell_setRow_same Z (w.heap.size + 1) j _ #[.int .i64 a0, .int .i64 a1, .string a2, .int .i64 a3, .int .i64 a4, .slice qa azs.length qc, .int .i64 a6, .int .i64 a7, .int .i64 a8, .int .i64 a9, .int .i64 a10, .bool a11] _ _ Z1.out
 have t0 := tQ 0
 have t1 := tQ 1
 have t2 := tQ 2
 have t3 := tQ 3
 have t4 := tQ 4
 have t5 := tQ 5
 have t6 := tQ 6
 have t7 := tQ 7
 have t8 := tQ 8
 have t9 := tQ 9
 have t10 := tQ 10
 have t11 := tQ 11
 clear tQ
 repeat (first | refine wpList_store_row rfl _ _ _ rfl (w.heap.size + 1) #[.int .i64 a0, .int .i64 a1, .string a2, .int .i64 a3, .int .i64 a4, .slice qa azs.length qc, .int .i64 a6, .int .i64 a7, .int .i64 a8, .int .i64 a9, .int .i64 a10, .bool a11] rfl rfl 60 _ Z1.out (by kernel_rfl) rfl (by simp [Value.oneCell']) ?_ | go_step)
 refine bodyPost_ret (v := .agg #[.int .i64 a0, .int .i64 a1, .string a2, .int .i64 a3, .int .i64 a4, .slice qa azs.length qc, .int .i64 a6, .int .i64 a7, .int .i64 a8, .int .i64 a9, .int .i64 a10, .bool a11]) (by simp [results, Tryz.results51, go_sem, t0, t1, t2, t3, t4, t5, t6, t7, t8, t9, t10, t11]) rfl ?_
 have hq := own_setRow1 Hq.out (own_other Hq.out Z1.out (by decide)) #[.int .i64 a0, .int .i64 a1, .string a2, .int .i64 a3, .int .i64 a4, .slice qa azs.length qc, .int .i64 a6, .int .i64 a7, .int .i64 a8, .int .i64 a9, .int .i64 a10, .bool a11]
 exact ⟨⟨⟨a0, a1, a2, a3, a4, azs, a6, a7, a8, a9, a10, a11⟩, qa, azs.length, qc⟩, rfl, rfl, ⟨own_down hq Hw0.out.size, HP.out.1, HP.out.2.1, HP.out.2.2⟩, HbF.out⟩
theorem carry_calls (x y : BuX) (r : Int) (w : World) (h : BuRd w y) : Calls Tryz.prog 95 #[buVal x, buVal y, .int .i64 r] w (BuTo (carryB x.b y.b r) w) := by
 obtain ⟨W, hW, r0, r1, r2, hw0, hz⟩ := three_rows w (buRow x) (buRow y) (Obj.cells #[.int .i64 0, .int .i64 0, .string ⟨#[]⟩, .int .i64 0, .int .i64 0, .slice none 0 0, .int .i64 0, .int .i64 0, .int .i64 0, .int .i64 0, .int .i64 0, .bool false] 60)
 have HCl := hZ9 (clone_calls y W (h.below hw0))
 have HPr := hZ9 (fun (q : BuX) (w1 : World) => prec_calls x q w1)
 have Hx0 := hZ9 r0
 obtain ⟨⟨a0, a1, a2, a3, a4, azs, a6, a7, a8, a9, a10, a11⟩, za, zn, zc⟩ := x
 obtain ⟨⟨b0, b1, b2, b3, b4, bzs, b6, b7, b8, b9, b10, b11⟩, ya, yn, yc⟩ := y
 have HCy := hZ9 (show carryB ⟨a0, a1, a2, a3, a4, azs, a6, a7, a8, a9, a10, a11⟩ ⟨b0, b1, b2, b3, b4, bzs, b6, b7, b8, b9, b10, b11⟩ r = if precB ⟨a0, a1, a2, a3, a4, azs, a6, a7, a8, a9, a10, a11⟩ ⟨b0, b1, b2, b3, b4, bzs, b6, b7, b8, b9, b10, b11⟩ = true then addN ⟨b0, b1, b2, b3, b4, bzs, b6, b7, b8, b9, b10, b11⟩ (rollN ⟨a0, a1, a2, a3, a4, azs, a6, a7, a8, a9, a10, a11⟩ r) else ⟨b0, b1, b2, b3, b4, bzs, b6, b7, b8, b9, b10, b11⟩ from rfl)
 have HRo := hZ9 (show rollN ⟨a0, a1, a2, a3, a4, azs, a6, a7, a8, a9, a10, a11⟩ r = max 0 (min a9 r) from rfl)
 unfold buRow at hW r0 r1
 unfold buVal
 unfold buVal at HCl HPr
 dsimp only at *
 have HW := hZ9 hW
 have Hw0 := hZ9 hw0
 have R0 := hZ9 r0
 have R1 := hZ9 r1
 have R2 := hZ9 r2
 have tQ := fun j => cell_of_row W _ j _ _ _ r1
 have y0 := tQ 0
 have y1 := tQ 1
 have y2 := tQ 2
 have y3 := tQ 3
 have y4 := tQ 4
 have y5 := tQ 5
 have y6 := tQ 6
 have y7 := tQ 7
 have y8 := tQ 8
 have y9 := tQ 9
 have y10 := tQ 10
 have y11 := tQ 11
 clear tQ
 clear hW r0 r1 r2 hw0 h
 go_enter Tryz.func95, Tryz.ntmps95
 go_upto_region 1 with (fail)
 rw [← HW.out]
 go_wp2_with fail
 refine HCl.out.mono ?_
 rintro e w1 ⟨⟨q, qa, qn, qc⟩, rfl, hq, hqo, hb1⟩
 dsimp only at hq
 subst hq
 have Hqo := hZ9 hqo
 have Hb1 := hZ9 (Hw0.out.trans (hb1.mono Hw0.out.size))
 have hw1 := hb1.size
 have q0 := (hb1.block _ (by omega)).trans R0.out
 have q1 := (hb1.block _ (by omega)).trans R1.out
 have q2 := (hb1.block _ hz).trans R2.out
 unfold buVal
 dsimp only
 obtain ⟨Z, hZ⟩ : ∃ Z, Z = w1.alloc (Obj.cells #[.int .i64 b0, .int .i64 b1, .string b2, .int .i64 b3, .int .i64 b4, .slice qa qn qc, .int .i64 b6, .int .i64 b7, .int .i64 b8, .int .i64 b9, .int .i64 b10, .bool b11] 60) := ⟨_, rfl⟩
 have hbZ : Below w1.heap.size w1 Z := by rw [hZ]; exact (Below.refl _ _).alloc (Nat.le_refl _) _
 have ZN := hZ9 (show Z.heap[w1.heap.size]? = some (Obj.cells #[.int .i64 b0, .int .i64 b1, .string b2, .int .i64 b3, .int .i64 b4, .slice qa qn qc, .int .i64 b6, .int .i64 b7, .int .i64 b8, .int .i64 b9, .int .i64 b10, .bool b11] 60) by rw [hZ]; exact heap_alloc_new _ _)
 have Z0 := hZ9 ((hbZ.block _ (by omega)).trans q0)
 have Z1 := hZ9 ((hbZ.block _ (by omega)).trans q1)
 have Z2 := hZ9 ((hbZ.block _ (by omega)).trans q2)
 have HbZ := hZ9 (Hb1.out.trans (hbZ.mono Hb1.out.size))
 have HqZ := hZ9 (hqo.below hbZ)
 have HZ := hZ9 hZ
 have hzz : w1.heap.size < Z.heap.size := (ltB9 ZN.out)
 clear hZ hqo hb1 q0 q1 q2 hbZ y0 y1 y2 y3 y4 y5 y6 y7 y8 y9 y10 y11
 go_upto_region 2 with (fail)
 rw [← HZ.out]
 have tQ := fun j => cell_of_row Z _ j _ _ _ Z0.out
 have x0 := tQ 0
 have x1 := tQ 1
 have x2 := tQ 2
 have x3 := tQ 3
 have x4 := tQ 4
 have x5 := tQ 5
 have x6 := tQ 6
 have x7 := tQ 7
 have x8 := tQ 8
 have x9 := tQ 9
 have x10 := tQ 10
 have x11 := tQ 11
 clear tQ
 have tQ := fun j => cell_of_row Z _ j _ _ _ Z1.out
 have z0 := tQ 0
 have z1 := tQ 1
 have z2 := tQ 2
 have z3 := tQ 3
 have z4 := tQ 4
 have z5 := tQ 5
 have z6 := tQ 6
 have z7 := tQ 7
 have z8 := tQ 8
 have z9 := tQ 9
 have z10 := tQ 10
 have z11 := tQ 11
 clear tQ
 go_wp2_with fail
 have HP1 := hZ9 (HPr.out ⟨⟨b0, b1, b2, b3, b4, bzs, b6, b7, b8, b9, b10, b11⟩, ya, yn, yc⟩ Z)
 dsimp only at HP1
 refine HP1.out.mono ?_
 rintro e w2 ⟨rfl, hb2⟩
 have hw2 := hb2.size
 have N0 := hZ9 ((hb2.block _ (by omega)).trans Z0.out)
 have NN := hZ9 ((hb2.block _ hzz).trans ZN.out)
 have N2 := hZ9 ((hb2.block _ (by omega)).trans Z2.out)
 have HbN := hZ9 (HbZ.out.trans (hb2.mono HbZ.out.size))
 have HqN := hZ9 (HqZ.out.below hb2)
 have hnn : w1.heap.size < w2.heap.size := by omega
 clear hb2 x0 x1 x2 x3 x4 x5 x6 x7 x8 x9 x10 x11 z0 z1 z2 z3 z4 z5 z6 z7 z8 z9 z10 z11
 cases hp : precB ⟨a0, a1, a2, a3, a4, azs, a6, a7, a8, a9, a10, a11⟩ ⟨b0, b1, b2, b3, b4, bzs, b6, b7, b8, b9, b10, b11⟩ with
 | false =>
   have HE := hZ9 (HCy.out.trans (if_neg (by rw [hp]; decide)))
   clear hp
   have tQ := fun j => cell_of_row w2 _ j _ _ _ NN.out
   have n0 := tQ 0
   have n1 := tQ 1
   have n2 := tQ 2
   have n3 := tQ 3
   have n4 := tQ 4
   have n5 := tQ 5
   have n6 := tQ 6
   have n7 := tQ 7
   have n8 := tQ 8
   have n9 := tQ 9
   have n10 := tQ 10
   have n11 := tQ 11
   clear tQ
   have HbF := hZ9 (below_setRow1 HbN.out (show w.heap.size ≤ w.heap.size + 1 + 1 by omega) #[.int .i64 b0, .int .i64 b1, .string b2, .int .i64 b3, .int .i64 b4, .slice qa qn qc, .int .i64 b6, .int .i64 b7, .int .i64 b8, .int .i64 b9, .int .i64 b10, .bool b11])
   go_upto_region 6 with (fail)
   have tQ := fun j => cell_setRow_same w2 (w.heap.size + 1 + 1) j _ #[.int .i64 b0, .int .i64 b1, .string b2, .int .i64 b3, .int .i64 b4, .slice qa qn qc, .int .i64 b6, .int .i64 b7, .int .i64 b8, .int .i64 b9, .int .i64 b10, .bool b11] _ _ N2.out
   have t0 := tQ 0
   have t1 := tQ 1
   have t2 := tQ 2
   have t3 := tQ 3
   have t4 := tQ 4
   have t5 := tQ 5
   have t6 := tQ 6
   have t7 := tQ 7
   have t8 := tQ 8
   have t9 := tQ 9
   have t10 := tQ 10
   have t11 := tQ 11
   clear tQ
   repeat (first | refine wpList_store_row rfl _ _ _ rfl (w.heap.size + 1 + 1) #[.int .i64 b0, .int .i64 b1, .string b2, .int .i64 b3, .int .i64 b4, .slice qa qn qc, .int .i64 b6, .int .i64 b7, .int .i64 b8, .int .i64 b9, .int .i64 b10, .bool b11] rfl rfl 60 _ N2.out (by kernel_rfl) rfl (by simp [Value.oneCell']) ?_ | go_step)
   refine bodyPost_ret (v := .agg #[.int .i64 b0, .int .i64 b1, .string b2, .int .i64 b3, .int .i64 b4, .slice qa qn qc, .int .i64 b6, .int .i64 b7, .int .i64 b8, .int .i64 b9, .int .i64 b10, .bool b11]) (by simp [results, Tryz.results95, go_sem, t0, t1, t2, t3, t4, t5, t6, t7, t8, t9, t10, t11]) rfl ?_
   have hq := own_setRow1 HqN.out.row (own_other HqN.out.row N2.out (by decide)) #[.int .i64 b0, .int .i64 b1, .string b2, .int .i64 b3, .int .i64 b4, .slice qa qn qc, .int .i64 b6, .int .i64 b7, .int .i64 b8, .int .i64 b9, .int .i64 b10, .bool b11]
   exact ⟨⟨⟨b0, b1, b2, b3, b4, bzs, b6, b7, b8, b9, b10, b11⟩, qa, qn, qc⟩, rfl, HE.out.symm, ⟨own_down hq (by have := Hw0.out.size; omega), HqN.out.sizes, HqN.out.p, HqN.out.len⟩, HbF.out⟩
 | true =>
   have HE := hZ9 (HCy.out.trans (if_pos hp))
   clear hp
   obtain ⟨m, hm⟩ : ∃ m, m = rollN ⟨a0, a1, a2, a3, a4, azs, a6, a7, a8, a9, a10, a11⟩ r := ⟨_, rfl⟩
   have HM := hZ9 (show min (max a9 0) (max r 0) = m by rw [hm, HRo.out] <;> omega)
   rw [← hm] at HE
   have HA := hZ9 (show addN ⟨b0, b1, b2, b3, b4, bzs, b6, b7, b8, b9, b10, b11⟩ m = ⟨b0, b1, b2, b3, b4, bzs, b6, b7, wrap64 (b8 + m), wrap64 (b9 + m), b10, b11⟩ from rfl)
   clear hm HRo
   have x9 := cell_of_row w2 _ 9 _ _ _ N0.out
   have tQ := fun j => cell_of_row w2 _ j _ _ _ NN.out
   have n0 := tQ 0
   have n1 := tQ 1
   have n2 := tQ 2
   have n3 := tQ 3
   have n4 := tQ 4
   have n5 := tQ 5
   have n6 := tQ 6
   have n7 := tQ 7
   have n8 := tQ 8
   have n9 := tQ 9
   have n10 := tQ 10
   have n11 := tQ 11
   clear tQ
   have f8 := frozen_of_row w2 _ 8 _ _ NN.out
   go_upto_region 4 with (fail)
   rw [HM.out]
   obtain ⟨U, hU⟩ : ∃ U, U = w2.setCell ⟨w1.heap.size, 8, none⟩ (.int .i64 (wrap64 (b8 + m))) := ⟨_, rfl⟩
   have UN := hZ9 (show U.heap[w1.heap.size]? = some (Obj.cells #[.int .i64 b0, .int .i64 b1, .string b2, .int .i64 b3, .int .i64 b4, .slice qa qn qc, .int .i64 b6, .int .i64 b7, .int .i64 (wrap64 (b8 + m)), .int .i64 b9, .int .i64 b10, .bool b11] 60) by rw [hU]; exact row_set _ NN.out)
   have U2 := hZ9 (show U.heap[w.heap.size + 1 + 1]? = some (Obj.cells #[.int .i64 0, .int .i64 0, .string ⟨#[]⟩, .int .i64 0, .int .i64 0, .slice none 0 0, .int .i64 0, .int .i64 0, .int .i64 0, .int .i64 0, .int .i64 0, .bool false] 60) by rw [hU]; exact row_other N2.out (by omega))
   have HbU := hZ9 (show Below w.heap.size w U by rw [hU]; exact HbN.out.setCell (show w.heap.size ≤ w1.heap.size by have := Hw0.out.size; omega) _)
   have HqU := hZ9 (show U.ownsRow W.heap.size 9 1 (.slice qa qn qc) bzs.length (bzs.flatMap strCells) by rw [hU]; exact own_setCell1 HqN.out.row (own_other HqN.out.row NN.out (by decide)))
   have HU := hZ9 hU
   have hun : w1.heap.size < U.heap.size := (ltB9 UN.out)
   clear hU x9
   go_upto_region 5 with (fail)
   rw [← HU.out]
   clear n0 n1 n2 n3 n4 n5 n6 n7 n8 n9 n10 n11 f8
   obtain ⟨V, hV⟩ : ∃ V, V = U.setCell ⟨w1.heap.size, 9, none⟩ (.int .i64 (wrap64 (b9 + m))) := ⟨_, rfl⟩
   have VN := hZ9 (show V.heap[w1.heap.size]? = some (Obj.cells #[.int .i64 b0, .int .i64 b1, .string b2, .int .i64 b3, .int .i64 b4, .slice qa qn qc, .int .i64 b6, .int .i64 b7, .int .i64 (wrap64 (b8 + m)), .int .i64 (wrap64 (b9 + m)), .int .i64 b10, .bool b11] 60) by rw [hV]; exact row_set _ UN.out)
   have V2 := hZ9 (show V.heap[w.heap.size + 1 + 1]? = some (Obj.cells #[.int .i64 0, .int .i64 0, .string ⟨#[]⟩, .int .i64 0, .int .i64 0, .slice none 0 0, .int .i64 0, .int .i64 0, .int .i64 0, .int .i64 0, .int .i64 0, .bool false] 60) by rw [hV]; exact row_other U2.out (by omega))
   have HbV := hZ9 (show Below w.heap.size w V by rw [hV]; exact HbU.out.setCell (show w.heap.size ≤ w1.heap.size by have := Hw0.out.size; omega) _)
   have HqV := hZ9 (show V.ownsRow W.heap.size 9 1 (.slice qa qn qc) bzs.length (bzs.flatMap strCells) by rw [hV]; exact own_setCell1 HqU.out (own_other HqU.out UN.out (by decide)))
   have HV := hZ9 hV
   have hvn : w1.heap.size < V.heap.size := (ltB9 VN.out)
   clear hV
   have u9 := cell_of_row U _ 9 _ _ _ UN.out
   have g9 := frozen_of_row U _ 9 _ _ UN.out
   go_upto_region 6 with (fail)
   rw [← HV.out]
   clear u9 g9
   have tQ := fun j => cell_of_row V _ j _ _ _ VN.out
   have v0 := tQ 0
   have v1 := tQ 1
   have v2 := tQ 2
   have v3 := tQ 3
   have v4 := tQ 4
   have v5 := tQ 5
   have v6 := tQ 6
   have v7 := tQ 7
   have v8 := tQ 8
   have v9 := tQ 9
   have v10 := tQ 10
   have v11 := tQ 11
   clear tQ
   have HbF := hZ9 (below_setRow1 HbV.out (show w.heap.size ≤ w.heap.size + 1 + 1 by omega) #[.int .i64 b0, .int .i64 b1, .string b2, .int .i64 b3, .int .i64 b4, .slice qa qn qc, .int .i64 b6, .int .i64 b7, .int .i64 (wrap64 (b8 + m)), .int .i64 (wrap64 (b9 + m)), .int .i64 b10, .bool b11])
   have tQ := fun j => cell_setRow_same V (w.heap.size + 1 + 1) j _ #[.int .i64 b0, .int .i64 b1, .string b2, .int .i64 b3, .int .i64 b4, .slice qa qn qc, .int .i64 b6, .int .i64 b7, .int .i64 (wrap64 (b8 + m)), .int .i64 (wrap64 (b9 + m)), .int .i64 b10, .bool b11] _ _ V2.out
   have t0 := tQ 0
   have t1 := tQ 1
   have t2 := tQ 2
   have t3 := tQ 3
   have t4 := tQ 4
   have t5 := tQ 5
   have t6 := tQ 6
   have t7 := tQ 7
   have t8 := tQ 8
   have t9 := tQ 9
   have t10 := tQ 10
   have t11 := tQ 11
   clear tQ
   repeat (first | refine wpList_store_row rfl _ _ _ rfl (w.heap.size + 1 + 1) #[.int .i64 b0, .int .i64 b1, .string b2, .int .i64 b3, .int .i64 b4, .slice qa qn qc, .int .i64 b6, .int .i64 b7, .int .i64 (wrap64 (b8 + m)), .int .i64 (wrap64 (b9 + m)), .int .i64 b10, .bool b11] rfl rfl 60 _ V2.out (by kernel_rfl) rfl (by simp [Value.oneCell']) ?_ | go_step)
   refine bodyPost_ret (v := .agg #[.int .i64 b0, .int .i64 b1, .string b2, .int .i64 b3, .int .i64 b4, .slice qa qn qc, .int .i64 b6, .int .i64 b7, .int .i64 (wrap64 (b8 + m)), .int .i64 (wrap64 (b9 + m)), .int .i64 b10, .bool b11]) (by simp [results, Tryz.results95, go_sem, t0, t1, t2, t3, t4, t5, t6, t7, t8, t9, t10, t11]) rfl ?_
   have hq := own_setRow1 HqV.out (own_other HqV.out V2.out (by decide)) #[.int .i64 b0, .int .i64 b1, .string b2, .int .i64 b3, .int .i64 b4, .slice qa qn qc, .int .i64 b6, .int .i64 b7, .int .i64 (wrap64 (b8 + m)), .int .i64 (wrap64 (b9 + m)), .int .i64 b10, .bool b11]
   exact ⟨⟨⟨b0, b1, b2, b3, b4, bzs, b6, b7, wrap64 (b8 + m), wrap64 (b9 + m), b10, b11⟩, qa, qn, qc⟩, rfl, (HE.out.trans HA.out).symm, ⟨own_down hq (by have := Hw0.out.size; omega), HqN.out.sizes, HqN.out.p, HqN.out.len⟩, HbF.out⟩
end Go.Proofs.YtngippiilgdnoaaGreat
namespace Go.Proofs.YtngippiilgdnoaaGreat
structure CycsOk (a : Int) (A : List (Int × Int)) (t : Int) (O : List (Int × Int)) : Prop where
 srt : O.Pairwise fun c d => c.1 < d.1
 mem : ∀ c, c ∈ O ↔ ∃ m, -1 ≤ m ∧ m ≤ 4799 ∧ c = cyc a m ∧ ∃ x, MemP A x ∧ 0 ≤ x ∧ x ≤ t ∧ beg a m ≤ x ∧ x < beg a (m + 1)
theorem CycsOk.one {a : Int} {A : List (Int × Int)} {t : Int} {O Q : List (Int × Int)} (h : CycsOk a A t O) (g : CycsOk a A t Q) : O = Q :=
 ord_one (r := fun c d : Int × Int => c.1 < d.1) (fun _ => Int.lt_irrefl _) (fun _ _ _ h g => Int.lt_trans h g) _ _ h.srt g.srt fun c => (h.mem c).trans (g.mem c).symm
noncomputable def cycOf (a : Int) (p : Int × Int) : List (Int × Int) := cycL a (moOf a p.1) (moOf a (p.2 - 1))
theorem cycOf_mem {a : Int} (ha : 1 ≤ a) (hb : a ≤ 28) {p : Int × Int} (h0 : 0 ≤ p.1) (h1 : p.1 < p.2) (h2 : p.2 ≤ 12622780800) {c : Int × Int} :
 c ∈ cycOf a p ↔ ∃ m, -1 ≤ m ∧ m ≤ 4799 ∧ c = cyc a m ∧ ∃ x, p.1 ≤ x ∧ x < p.2 ∧ beg a m ≤ x ∧ x < beg a (m + 1) := by
 have q1 := moOf_is (a := a) h0 (show p.1 < 12622780800 by omega)
 have q2 := moOf_is (a := a) (t := p.2 - 1) (by omega) (by omega)
 unfold cycOf
 rw [cycL_mem]
 constructor
 · rintro ⟨m, g1, g2, rfl⟩
   refine ⟨m, by have := q1.1; omega, by have := q2.2.1; omega, rfl, ?_⟩
   by_cases e : m = moOf a p.1
   · rw [e]; exact ⟨p.1, Int.le_refl _, h1, q1.2.2.1, q1.2.2.2⟩
   have b1 := beg_mono ha hb (show moOf a p.1 + 1 ≤ m by omega)
   have b2 := beg_mono ha hb g2
   have b3 := beg_lt ha hb (m := m) (by have := q1.1; omega) (by have := q2.2.1; omega)
   have := q1.2.2.2
   have := q2.2.2.1
   exact ⟨beg a m, by omega, by omega, Int.le_refl _, b3⟩
 rintro ⟨m, g1, g2, rfl, x, x1, x2, x3, x4⟩
 have hx : IsMo a x m := ⟨g1, g2, x3, x4⟩
 exact ⟨m, IsMo.le ha hb q1 hx x1, IsMo.le ha hb hx q2 (by omega), rfl⟩
theorem cyc_in {a : Int} (ha : 1 ≤ a) (hb : a ≤ 28) (m : Int) : 0 ≤ (cyc a m).1 ∧ (cyc a m).2 ≤ 12622780800 := ⟨(beg_bd ha hb).1, (beg_bd ha hb).2⟩
theorem can_pair : ∀ {C : List (Int × Int)}, Can C → C.Pairwise fun p q => p.2 < q.1
 | [], _ => List.Pairwise.nil
 | _ :: _, h => List.pairwise_cons.2 ⟨h.2.1, can_pair h.2.2⟩
theorem cycs_mem {a : Int} (ha : 1 ≤ a) (hb : a ≤ 28) {C : List (Int × Int)} (hin : ∀ p ∈ C, 0 ≤ p.1 ∧ p.1 < p.2 ∧ p.2 ≤ 12622780800) {c : Int × Int} :
 c ∈ C.flatMap (cycOf a) ↔ ∃ m, -1 ≤ m ∧ m ≤ 4799 ∧ c = cyc a m ∧ ∃ x, MemP C x ∧ beg a m ≤ x ∧ x < beg a (m + 1) := by
 rw [List.mem_flatMap]
 constructor
 · rintro ⟨p, hp, hc⟩
   obtain ⟨m, m1, m2, e, x, x1, x2, x3, x4⟩ := (cycOf_mem ha hb (hin p hp).1 (hin p hp).2.1 (hin p hp).2.2).1 hc
   exact ⟨m, m1, m2, e, x, ⟨p, hp, x1, x2⟩, x3, x4⟩
 rintro ⟨m, m1, m2, e, x, ⟨p, hp, x1, x2⟩, x3, x4⟩
 exact ⟨p, hp, (cycOf_mem ha hb (hin p hp).1 (hin p hp).2.1 (hin p hp).2.2).2 ⟨m, m1, m2, e, x, x1, x2, x3, x4⟩⟩
theorem choose_span {C : List (Int × Int)} {a b : List (Int × Int)} {ig inb : Bool} (h : C = chooseL a b ig inb) : ∀ p ∈ C, 0 ≤ p.1 ∧ p.1 < p.2 ∧ p.2 ≤ 12622780800 := by
 obtain ⟨h1, h2⟩ := choose_law a b ig inb
 rw [← h] at h1 h2
 intro p hp
 have hpp := can_ends h1 p hp
 have hs : ∀ x, p.1 ≤ x → x < p.2 → 0 ≤ x ∧ x < 12622780800 := fun x hx1 hx2 => by
  have hm := (h2 x).1 ⟨p, hp, hx1, hx2⟩
  unfold selB at hm
  rw [Bool.and_eq_true] at hm
  obtain ⟨q, -, hv, g1, g2⟩ := (inL_iff _ _).1 hm.1
  obtain ⟨v1, v2, v3⟩ := (validB_iff _ _).1 hv
  omega
 have g1 := hs p.1 (Int.le_refl _) hpp
 have g2 := hs (p.2 - 1) (by omega) (by omega)
 omega
noncomputable def walkC (a t : Int) (p : Int × Int) : List (Int × Int) := if meetB p.1 p.2 0 (t + 1) = true then cycOf a (max p.1 0, min p.2 (t + 1)) else []
theorem cycs_prog {a : Int} (ha : 1 ≤ a) (hb : a ≤ 28) {A : List (Int × Int)} (hA : ∀ p ∈ A, 0 ≤ p.1 ∧ p.1 < p.2 ∧ p.2 ≤ 12622780800) {t : Int} (h0 : 0 ≤ t) (h1 : t < 12622780800) :
 CycsOk a A t ((chooseL (A.flatMap (walkC a t)) [] true false).flatMap (cycOf a)) := by
 have hW : ∀ c, c ∈ A.flatMap (walkC a t) ↔ ∃ m, -1 ≤ m ∧ m ≤ 4799 ∧ c = cyc a m ∧ ∃ x, MemP A x ∧ 0 ≤ x ∧ x ≤ t ∧ beg a m ≤ x ∧ x < beg a (m + 1) := fun c => by
  rw [List.mem_flatMap]
  constructor
  · rintro ⟨p, hp, hc⟩
    unfold walkC at hc
    split at hc
    · rename_i hme
      obtain ⟨v1, v2, v3⟩ := (meetB_iff _ _ _ _).1 hme
      obtain ⟨w0, w1, w2⟩ := hA p hp
      obtain ⟨m, m1, m2, e, x, x1, x2, x3, x4⟩ := (cycOf_mem ha hb (p := (max p.1 0, min p.2 (t + 1))) (by dsimp only; omega) (by dsimp only; omega) (by dsimp only; omega)).1 hc
      dsimp only at x1 x2
      exact ⟨m, m1, m2, e, x, ⟨p, hp, by omega, by omega⟩, by omega, by omega, x3, x4⟩
    cases hc
  rintro ⟨m, m1, m2, e, x, ⟨p, hp, x1, x2⟩, y1, y2, x3, x4⟩
  obtain ⟨w0, w1, w2⟩ := hA p hp
  refine ⟨p, hp, ?_⟩
  unfold walkC
  rw [if_pos ((meetB_iff _ _ _ _).2 ⟨(validB_iff _ _).2 ⟨w0, w1, w2⟩, (validB_iff _ _).2 ⟨by decide, by omega, by omega⟩, by omega⟩)]
  exact (cycOf_mem ha hb (p := (max p.1 0, min p.2 (t + 1))) (by dsimp only; omega) (by dsimp only; omega) (by dsimp only; omega)).2 ⟨m, m1, m2, e, x, by dsimp only; omega, by dsimp only; omega, x3, x4⟩
 generalize A.flatMap (walkC a t) = W at *
 obtain ⟨c1, c2⟩ := choose_law W [] true false
 have hin := choose_span (rfl : chooseL W [] true false = _)
 generalize chooseL W [] true false = C at *
 have hm : ∀ x, MemP C x ↔ ∃ m, -1 ≤ m ∧ m ≤ 4799 ∧ beg a m ≤ x ∧ x < beg a (m + 1) ∧ ∃ y, MemP A y ∧ 0 ≤ y ∧ y ≤ t ∧ beg a m ≤ y ∧ y < beg a (m + 1) := fun x => by
  rw [c2]
  unfold selB
  rw [Bool.true_or, Bool.and_true, inL_iff]
  constructor
  · rintro ⟨p, hp, -, p1, p2⟩
    obtain ⟨m, m1, m2, rfl, y, hy⟩ := (hW p).1 hp
    exact ⟨m, m1, m2, p1, p2, y, hy⟩
  rintro ⟨m, m1, m2, p1, p2, y, hy⟩
  have := cyc_in ha hb m
  exact ⟨cyc a m, (hW _).2 ⟨m, m1, m2, rfl, y, hy⟩, (validB_iff _ _).2 ⟨this.1, by unfold cyc; dsimp only; omega, this.2⟩, p1, p2⟩
 refine ⟨?_, fun c => ?_⟩
 · refine List.pairwise_flatMap.2 ⟨fun p hp => ?_, (can_pair c1).imp_of_mem fun {p q} hp hq hpq c hc d hd => ?_⟩
   · unfold cycOf
     refine (cycL_pair ha hb _ _).imp_of_mem fun {c d} hc hd h => ?_
     obtain ⟨m, -, -, rfl, x, -, -, x1, x2⟩ := (cycOf_mem ha hb (hin p hp).1 (hin p hp).2.1 (hin p hp).2.2).1 hc
     unfold cyc at h ⊢
     dsimp only at h ⊢
     omega
   obtain ⟨m, m1, m2, rfl, x, x1, x2, x3, x4⟩ := (cycOf_mem ha hb (hin p hp).1 (hin p hp).2.1 (hin p hp).2.2).1 hc
   obtain ⟨k, k1, k2, rfl, y, y1, y2, y3, y4⟩ := (cycOf_mem ha hb (hin q hq).1 (hin q hq).2.1 (hin q hq).2.2).1 hd
   have hle : m ≤ k := IsMo.le ha hb (t := x) (u := y) ⟨m1, m2, x3, x4⟩ ⟨k1, k2, y3, y4⟩ (by omega)
   have hne : m ≠ k := by
    intro e
    subst e
    obtain ⟨j, j1, j2, j3, j4, z, hz⟩ := (hm x).1 ⟨p, hp, x1, x2⟩
    have ej : j = m := IsMo.one ha hb (t := x) ⟨j1, j2, j3, j4⟩ ⟨m1, m2, x3, x4⟩
    subst ej
    obtain ⟨r, hr, r1, r2⟩ := (hm p.2).2 ⟨j, j1, j2, by omega, by omega, z, hz⟩
    rcases Classical.em (r = p) with e | e
    · subst e; omega
    have hall : ∀ u v, u ∈ C → v ∈ C → u ≠ v → u.2 < v.1 ∨ v.2 < u.1 := fun u v hu hv huv => by
     obtain ⟨i, hi, rfl⟩ := List.mem_iff_getElem.1 hu
     obtain ⟨j, hj, rfl⟩ := List.mem_iff_getElem.1 hv
     rcases Nat.lt_trichotomy i j with h | h | h
     · exact Or.inl (List.pairwise_iff_getElem.1 (can_pair c1) i j hi hj h)
     · subst h; exact absurd rfl huv
     exact Or.inr (List.pairwise_iff_getElem.1 (can_pair c1) j i hj hi h)
    rcases hall r p hr hp e with h | h
    · have := (hin p hp).2.1; omega
    omega
   have h1 := beg_mono ha hb (show m + 1 ≤ k by omega)
   show beg a m < beg a k
   omega
 rw [cycs_mem ha hb hin]
 constructor
 · rintro ⟨m, m1, m2, e, x, hx, x3, x4⟩
   obtain ⟨j, j1, j2, j3, j4, y, hy⟩ := (hm x).1 hx
   have ej : j = m := IsMo.one ha hb (t := x) ⟨j1, j2, j3, j4⟩ ⟨m1, m2, x3, x4⟩
   subst ej
   exact ⟨j, m1, m2, e, y, hy⟩
 rintro ⟨m, m1, m2, e, y, hy⟩
 exact ⟨m, m1, m2, e, y, (hm y).2 ⟨m, m1, m2, hy.2.2.2.1, hy.2.2.2.2, y, hy⟩, hy.2.2.2⟩
theorem nodup_sub_len {α : Type} [DecidableEq α] : ∀ (T M : List α), T.Nodup → (∀ x ∈ T, x ∈ M) → T.length ≤ M.length
 | [], _, _, _ => Nat.zero_le _
 | x :: T, M, hT, hs => by
   have h1 := List.nodup_cons.1 hT
   have hx := hs x List.mem_cons_self
   have ih := nodup_sub_len T (M.erase x) h1.2 fun y hy => (List.mem_erase_of_ne (fun e => by subst e; exact h1.1 hy)).2 (hs y (List.mem_cons_of_mem _ hy))
   rw [List.length_erase_of_mem hx] at ih
   have := List.length_pos_of_mem hx
   rw [List.length_cons]
   omega
theorem asc_nodup {L : List (Int × Int)} (h : L.Pairwise fun c d => c.1 < d.1) : (L.map (·.1)).Nodup :=
 List.pairwise_map.2 (h.imp fun h e => by omega)
theorem cycs_bound {a : Int} {A : List (Int × Int)} {t : Int} {O : List (Int × Int)} (h : CycsOk a A t O) : O.length ≤ 4801 := by
 have h := nodup_sub_len _ ((cycL a (-1) 4799).map (·.1)) (asc_nodup h.srt) fun x hx => by
  obtain ⟨c, hcm, rfl⟩ := List.mem_map.1 hx
  obtain ⟨m, m1, m2, rfl, -⟩ := (h.mem c).1 hcm
  exact List.mem_map.2 ⟨_, cycL_mem.2 ⟨m, m1, m2, rfl⟩, rfl⟩
 rw [List.length_map, List.length_map, cycL_len] at h
 exact h
def HeldS (s : ByteArray) (S : Sb) : Prop := S.id ≠ 0 ∧ hasT s S = true
theorem withT_any {L : List ByteArray} {n s : ByteArray} (h : (withT L n).any (fun x => sameS x s) = true) : L.any (fun x => sameS x s) = true ∨ n = s := by
 obtain ⟨x, hx, he⟩ := List.any_eq_true.1 h
 unfold withT at hx
 rcases List.mem_append.1 hx with hx | hx
 · rcases List.mem_append.1 hx with hx | hx
   · exact Or.inl (List.any_eq_true.2 ⟨x, List.mem_of_mem_take hx, he⟩)
   rw [List.mem_singleton] at hx
   subst hx
   exact Or.inr ((sameS_iff _ _).1 he)
 exact Or.inl (List.any_eq_true.2 ⟨x, List.mem_of_mem_drop hx, he⟩)
theorem next_held {s : ByteArray} {S : Sb} {e : Ev} (h0 : ¬ HeldS s S) (h1 : HeldS s (nextS S e)) : e.kd = 8 ∧ e.nm = s := by
 unfold HeldS nextS hasT at h1
 unfold HeldS hasT at h0
 split at h1
 · exact absurd h1.2 (by simp)
 split at h1
 · exact absurd rfl h1.1
 split at h1
 · exact absurd h1 h0
 split at h1
 · rename_i hk
   refine ⟨hk, ?_⟩
   rcases withT_any h1.2 with h | h
   · exact absurd ⟨h1.1, h⟩ h0
   exact h
 split at h1
 · exfalso
   refine h0 ⟨h1.1, ?_⟩
   obtain ⟨x, hx, he⟩ := List.any_eq_true.1 h1.2
   unfold withoutT at hx
   exact List.any_eq_true.2 ⟨x, (List.mem_filter.1 hx).1, he⟩
 split at h1
 · exact absurd h1 h0
 split at h1
 iterate 2
  · exact absurd h1 h0
theorem fold_held {s : ByteArray} {n : Int} : ∀ (M : List Ev) (S : Sb), ¬ HeldS s S → HeldS s (M.foldl (fun s e => if e.sb = n then nextS s e else s) S) → ∃ e ∈ M, e.kd = 8 ∧ e.sb = n ∧ e.nm = s
 | [], _, h0, h1 => absurd h1 h0
 | e :: M, S, h0, h1 => by
   rw [List.foldl_cons] at h1
   by_cases he : e.sb = n
   · rw [if_pos he] at h1
     by_cases hh : HeldS s (nextS S e)
     · obtain ⟨k1, k2⟩ := next_held h0 hh
       exact ⟨e, List.mem_cons_self, k1, he, k2⟩
     obtain ⟨f, hf, q⟩ := fold_held M _ hh h1
     exact ⟨f, List.mem_cons_of_mem _ hf, q⟩
   rw [if_neg he] at h1
   obtain ⟨f, hf, q⟩ := fold_held M _ h0 h1
   exact ⟨f, List.mem_cons_of_mem _ hf, q⟩
theorem sorted_part (x : Int) : ∀ l : List Ev, l.Pairwise (fun a b => a.tm ≤ b.tm) → l.filter (fun e => decide (e.tm ≤ x)) = l.filter (fun e => decide (e.tm ≤ x - 1)) ++ l.filter (fun e => decide (e.tm = x))
 | [], _ => rfl
 | e :: r, h => by
   have hp := List.pairwise_cons.1 h
   have ih := sorted_part x r hp.2
   by_cases h1 : e.tm ≤ x - 1
   · rw [List.filter_cons_of_pos (by simpa using (show e.tm ≤ x by omega)), List.filter_cons_of_pos (by simpa using h1), List.filter_cons_of_neg (by simpa using (show ¬ e.tm = x by omega)), ih]
     rfl
   have h0 : r.filter (fun e => decide (e.tm ≤ x - 1)) = [] := List.filter_eq_nil_iff.2 fun f hf => by
    have := hp.1 f hf
    simp only [decide_eq_true_eq]
    omega
   rw [h0, List.nil_append] at ih
   rw [List.filter_cons_of_neg (p := fun e : Ev => decide (e.tm ≤ x - 1)) (by simpa using h1), h0, List.nil_append, List.filter_cons, List.filter_cons, ih]
   by_cases h2 : e.tm = x
   · rw [if_pos (by simpa using (show e.tm ≤ x by omega)), if_pos (by simpa using h2)]
   rw [if_neg (by simpa using (show ¬ e.tm ≤ x by omega)), if_neg (by simpa using h2)]
theorem upto_mono {l : List Ev} (hr : OkRun l) (x : Int) : ∃ M, uptoE l x = uptoE l (x - 1) ++ M ∧ ∀ e ∈ M, e ∈ l ∧ e.tm = x := by
 refine ⟨l.filter (fun e => decide (e.tm = x)), sorted_part x l (List.pairwise_iff_getElem.2 fun i j hi hj hij => sorted_run hr i j hi hj (Nat.le_of_lt hij)), fun e he => ?_⟩
 exact ⟨(List.mem_filter.1 he).1, of_decide_eq_true (List.mem_filter.1 he).2⟩
theorem act_starts {l : List Ev} (hr : OkRun l) (n : Int) (s : ByteArray) {p : Int × Int} (hp : p ∈ actL n s l) : ∃ e ∈ l, e.kd = 8 ∧ e.sb = n ∧ e.nm = s ∧ e.tm = p.1 := by
 obtain ⟨q0, q1, q2⟩ := actL_in hr n s p hp
 have hc := actL_can hr n s
 have h1 := (actL_mem hr n s p.1).1 ⟨p, hp, Int.le_refl _, q1⟩
 have h0 : ¬ HeldS s (stAt n l (p.1 - 1)) := fun hh => by
  have hm := (actL_mem hr n s (p.1 - 1)).2 ⟨by omega, hh.1, hh.2⟩
  obtain ⟨r, hrm, r1, r2⟩ := hm
  obtain ⟨i, hi, rfl⟩ := List.mem_iff_getElem.1 hp
  obtain ⟨j, hj, rfl⟩ := List.mem_iff_getElem.1 hrm
  have hpw := List.pairwise_iff_getElem.1 (can_pair hc)
  rcases Nat.lt_trichotomy i j with h | h | h
  · have := hpw i j hi hj h; omega
  · subst h; omega
  have := hpw j i hj hi h; omega
 obtain ⟨M, hM, hMe⟩ := upto_mono hr p.1
 have hst : stAt n l p.1 = M.foldl (fun s e => if e.sb = n then nextS s e else s) (stAt n l (p.1 - 1)) := by
  unfold stAt foldS
  rw [hM, List.foldl_append]
 obtain ⟨e, he, k1, k2, k3⟩ := fold_held M _ h0 (by rw [← hst]; exact ⟨h1.2.1, h1.2.2⟩)
 exact ⟨e, (hMe e he).1, k1, k2, k3, (hMe e he).2⟩
def isProd (h : Had) (e : Ev) : Bool := decide (e.kd = 8) && decide (e.sb = h.1) && sameS e.nm h.2
theorem act_count {l : List Ev} (hr : OkRun l) (h : Had) : (actL h.1 h.2 l).length ≤ (l.filter (isProd h)).length := by
 have hc := can_pair (actL_can hr h.1 h.2)
 have hn : ((actL h.1 h.2 l).map (·.1)).Nodup := by
  refine List.pairwise_map.2 (hc.imp_of_mem fun {p q} hp hq hpq e => ?_)
  have := (actL_in hr h.1 h.2 p hp).2.1
  omega
 have := nodup_sub_len _ ((l.filter (isProd h)).map (·.tm)) hn fun x hx => by
  obtain ⟨p, hp, rfl⟩ := List.mem_map.1 hx
  obtain ⟨e, he, k1, k2, k3, k4⟩ := act_starts hr h.1 h.2 hp
  refine List.mem_map.2 ⟨e, List.mem_filter.2 ⟨he, ?_⟩, k4⟩
  unfold isProd
  rw [k1, k2, k3, sameS_refl]
  simp
 rwa [List.length_map, List.length_map] at this
def heldA (l : List Ev) (H : List Had) : List (Int × Int) := H.flatMap fun h => actL h.1 h.2 l
theorem sum_once (H : List Had) (hH : H.Pairwise hadLt) : ∀ l : List Ev, (H.flatMap fun h => l.filter (isProd h)).length ≤ l.length
 | [] => by
   have : (H.flatMap fun h => ([] : List Ev).filter (isProd h)) = [] := by simp
   rw [this]
   exact Nat.le_refl _
 | e :: l => by
   have ih := sum_once H hH l
   have key : ∀ H' : List Had, H'.Pairwise hadLt → (H'.flatMap fun h => (e :: l).filter (isProd h)).length ≤ (H'.flatMap fun h => l.filter (isProd h)).length + (if ∃ h ∈ H', isProd h e = true then 1 else 0) := by
    intro H'
    induction H' with
    | nil => intro _; simp
    | cons h H' ihH =>
      intro hp
      have hp1 := List.pairwise_cons.1 hp
      have ih2 := ihH hp1.2
      rw [List.flatMap_cons, List.flatMap_cons, List.length_append, List.length_append, List.filter_cons]
      by_cases he : isProd h e = true
      · have hno : ¬ ∃ h' ∈ H', isProd h' e = true := fun ⟨h', hh', hq⟩ => by
         have hlt := hp1.1 h' hh'
         unfold isProd at he hq
         simp only [Bool.and_eq_true, decide_eq_true_eq, sameS_iff] at he hq
         have : h = h' := Prod.ext (he.1.2.symm.trans hq.1.2) (he.2.symm.trans hq.2)
         subst this
         exact hadLt_irr _ hlt
        rw [if_neg hno] at ih2
        rw [if_pos he, if_pos ⟨h, List.mem_cons_self, he⟩, List.length_cons]
        omega
      rw [if_neg he]
      by_cases hex : ∃ h' ∈ H', isProd h' e = true
      · rw [if_pos hex] at ih2
        obtain ⟨h', hh', hq⟩ := hex
        rw [if_pos ⟨h', List.mem_cons_of_mem _ hh', hq⟩]
        omega
      rw [if_neg hex] at ih2
      have : ¬ ∃ h' ∈ h :: H', isProd h' e = true := fun ⟨h', hh', hq⟩ => by
       rcases List.mem_cons.1 hh' with rfl | hh'
       · exact he hq
       exact hex ⟨h', hh', hq⟩
      rw [if_neg this]
      omega
   have := key H hH
   rw [List.length_cons]
   split at this <;> omega
theorem heldA_len {l : List Ev} (hr : OkRun l) {H : List Had} (hH : H.Pairwise hadLt) : (heldA l H).length ≤ l.length := by
 refine Nat.le_trans ?_ (sum_once H hH l)
 unfold heldA
 clear hH
 induction H with
 | nil => simp
 | cons h H ih =>
   rw [List.flatMap_cons, List.flatMap_cons, List.length_append, List.length_append]
   have := act_count hr h
   omega
theorem heldA_in {l : List Ev} (hr : OkRun l) {H : List Had} : ∀ p ∈ heldA l H, 0 ≤ p.1 ∧ p.1 < p.2 ∧ p.2 ≤ 12622780800 := fun p hp => by
 obtain ⟨h, -, hp⟩ := List.mem_flatMap.1 hp
 exact actL_in hr h.1 h.2 p hp
def NearT (l : List Ev) (t : Int) : Prop := l = [] ∨ t < 69120000 ∨ ∀ h : 0 < l.length, t - 69120000 < (l[0]).tm
theorem walkC_len {a : Int} {l : List Ev} (hr : OkRun l) {t : Int} (hn : NearT l t) (h1 : t < 12622780800) {H : List Had} {p : Int × Int} (hp : p ∈ heldA l H) : (walkC a t p).length ≤ 40 := by
 unfold walkC
 split
 · rename_i hm
   obtain ⟨w0, w1, w2⟩ := heldA_in hr p hp
   obtain ⟨-, -, hlt⟩ := (meetB_iff _ _ _ _).1 hm
   obtain ⟨h, -, hp2⟩ := List.mem_flatMap.1 hp
   obtain ⟨e, he, -, -, -, k4⟩ := act_starts hr h.1 h.2 hp2
   have hnear : t - 69120000 < p.1 := by
    rcases hn with h | h | h
    · subst h; cases he
    · omega
    obtain ⟨i, hi, rfl⟩ := List.mem_iff_getElem.1 he
    have h0 : 0 < l.length := by omega
    have := h h0
    have := sorted_run hr 0 i h0 hi (Nat.zero_le _)
    omega
   unfold cycOf
   rw [cycL_len]
   dsimp only
   obtain ⟨p1, p2, p3, p4⟩ := moOf_is (a := a) (t := max p.1 0) (by omega) (by omega)
   obtain ⟨q1, q2, q3, q4⟩ := moOf_is (a := a) (t := min p.2 (t + 1) - 1) (by omega) (by omega)
   generalize moOf a (max p.1 0) = lo at *
   generalize moOf a (min p.2 (t + 1) - 1) = hi at *
   refine Classical.byContradiction fun hlen => ?_
   have g1 : 0 ≤ lo + 1 := by omega
   have g2 : lo + 1 ≤ hi := by omega
   rw [beg_mid (a := a) (m := lo + 1) g1 (by omega)] at p4
   rw [beg_mid (a := a) (m := hi) (by omega) q2] at q3
   have := dm_le g1 g2
   omega
 simp
theorem flat_bound {α β : Type} (f : α → List β) (m : Nat) : ∀ (L : List α), (∀ x ∈ L, (f x).length ≤ m) → (L.flatMap f).length ≤ L.length * m
 | [], _ => by simp
 | x :: L, h => by
   have h1 := h x List.mem_cons_self
   have h2 := flat_bound f m L fun y hy => h y (List.mem_cons_of_mem _ hy)
   rw [List.flatMap_cons, List.length_append, List.length_cons, Nat.succ_mul]
   omega
theorem walk_total {a : Int} {l : List Ev} (hr : OkRun l) (hl : l.length ≤ 40) {t : Int} (hn : NearT l t) (h1 : t < 12622780800) {H : List Had} (hH : H.Pairwise hadLt) : ((heldA l H).flatMap (walkC a t)).length ≤ 1600 := by
 have h2 := flat_bound (walkC a t) 40 (heldA l H) fun p hp => walkC_len hr hn h1 hp
 have h3 := heldA_len hr hH
 have h4 := Nat.mul_le_mul_right 40 (Nat.le_trans h3 hl)
 omega
end Go.Proofs.YtngippiilgdnoaaGreat
