/-
  The body of ProductCovers on ascending lists and good periods.
-/
import Derived.Test.YtkipebdhagccbaaLaw19c
import Derived.Deep.DeepCutAuto
namespace Go.Proofs.Ytkipebdhagccbaa
open Go.RowKit

set_option maxRecDepth 100000 in
set_option maxHeartbeats 3200000 in
theorem covers_nil (hA : Awake19) (v : Value) (l : List Pd) (s : ByteArray) (f t : Int) (w : World) (h : PdsAt w v l) (hx : fewL l = true) (hy : ascB l = true) (h0 : 0 ≤ f) (hft : f < t) (ht : t ≤ 12622780800)
    (hG : feesR f t (l.filter fun p : Pd => eqS p.nm s) = []) (hno : ∀ x, x < t → atL l s x = none) :
    Calls Try.prog 14 #[v, .string s, .agg #[.int .i64 f, .int .i64 t]] w fun e w' => e = .returned (.bool true) ∧ Below w.heap.size w w' := by
  obtain ⟨W, hW⟩ : ∃ W, W = w.alloc (Obj.cells #[Value.int .i64 f, Value.int .i64 t] 63) := ⟨_, rfl⟩
  have hw0 : Below w.heap.size w W := by rw [hW]; go_grown
  have hz : W.heap.size = w.heap.size + 1 := by rw [hW]; simp
  have r2 : W.heap[w.heap.size]? = some (Obj.cells #[Value.int .i64 f, Value.int .i64 t] 63) := by rw [hW]; exact heap_alloc_new _ _
  have HW := Lib.hid hW
  have HA := Lib.hid hA
  have hz2 : w.heap.size < W.heap.size := by omega
  have Hf := Lib.hid (few_calls v l W (h.below hw0))
  have Hc := Lib.hid (asc_calls v l W (h.below hw0))
  have Hat := Lib.hid (h.below hw0)
  have HF := Lib.hid (fewP_of hx)
  rw [hx] at Hf
  rw [hy] at Hc
  have k1 : decide (f < 0) = false := decide_eq_false (by omega)
  have k2 : decide (t ≤ f) = false := decide_eq_false (by omega)
  have k3 : decide (12622780800 < t) = false := decide_eq_false (by omega)
  have Hfee := Lib.hid (fun w1 (hb : Below W.heap.size W w1) => fees_r v l s f t w1 (Hat.out.below hb) HF.out h0 hft ht)
  rw [hG] at Hfee
  have Hat1 := Lib.hid (fun w1 (hb : Below W.heap.size W w1) => at_no v l s f w1 (Hat.out.below hb) HF.out (hno f (by omega)))
  have Hat2 := Lib.hid (fun w1 (hb : Below W.heap.size W w1) => at_no v l s (t - 1) w1 (Hat.out.below hb) HF.out (hno (t - 1) (by omega)))
  have Hp := Lib.hid (show ∀ w' : World, Below W.heap.size W w' → w'.cell? ⟨w.heap.size, 0, none⟩ = some (.int .i64 f) ∧ w'.cell? ⟨w.heap.size, 1, none⟩ = some (.int .i64 t) from fun w' hb =>
    have q := (hb.block w.heap.size hz2).trans r2
    ⟨cell_of_row w' _ 0 _ _ _ q, cell_of_row w' _ 1 _ _ _ q⟩)
  clear hW r2 hz h hA hx hy hno hG
  go_enter Try.func14, Try.ntmps14
  go_wp2_with fail
  rw [← HW.out]
  refine Hf.out.mono ?_
  rintro e w0 ⟨rfl, hw1⟩
  subst w0
  go_wp2_with fail
  refine Hc.out.mono ?_
  rintro e w1 ⟨rfl, hb1⟩
  obtain ⟨q0, q1⟩ := Hp.out w1 hb1
  go_wp2_with fail
  refine (Hfee.out w1 hb1).mono ?_
  rintro e w2 ⟨v2, rfl, hpr, hb⟩
  have hb2 := hb1.trans (hb.mono hb1.size)
  clear q0 q1 hb hb1
  obtain ⟨q0, q1⟩ := Hp.out w2 hb2
  obtain ⟨av2, cap2, rfl, -, -, -⟩ := hpr
  simp only [List.length_nil]
  go_wp2_with fail
  refine (Hat1.out w2 hb2).mono ?_
  rintro e w3 ⟨rfl, hb⟩
  have hb3 := hb2.trans (hb.mono hb2.size)
  clear q0 q1 hb hb2
  go_upto_region 5 with (fail)
  obtain ⟨Y1, hY1⟩ : ∃ Y, Y = w3.alloc (Obj.cells #[.string ⟨#[]⟩, .int .i64 0, .int .i64 0, .string ⟨#[]⟩, .bool false, .slice none 0 0] 54) := ⟨_, rfl⟩
  have hbY : Below w3.heap.size w3 Y1 := by rw [hY1]; go_grown
  have hb4 := hb3.trans (hbY.mono hb3.size)
  rw [← hY1]
  clear hb3 hY1 hbY
  obtain ⟨q0, q1⟩ := Hp.out Y1 hb4
  go_wp2_with fail
  refine (Hat2.out Y1 hb4).mono ?_
  rintro e w5 ⟨rfl, hb⟩
  have hb5 := hb4.trans (hb.mono hb4.size)
  clear q0 q1 hb hb4
  go_wp2_with fail
  refine (HA.out _).mono ?_
  rintro e w6 ⟨rfl, hb6⟩
  have hb7 := hb5.trans ((Below.alloc (Below.refl _ _) (Nat.le_refl _) _ : Below w5.heap.size w5 (w5.alloc (Obj.cells #[.string ⟨#[]⟩, .int .i64 0, .int .i64 0, .string ⟨#[]⟩, .bool false, .slice none 0 0] 54))).mono hb5.size)
  have hb8 := hb7.trans (hb6.mono hb7.size)
  go_wp2
  go_ret
  exact ⟨rfl, hw0.trans (hb8.mono hw0.size)⟩

set_option maxRecDepth 100000 in
set_option maxHeartbeats 6400000 in
theorem covers_yes (hA : Awake19) (v : Value) (l : List Pd) (s : ByteArray) (f t a : Int) (G : List (Int × Int × Int)) (w : World) (h : PdsAt w v l) (hx : fewL l = true) (hy : ascB l = true) (h0 : 0 ≤ f) (hft : f < t) (ht : t ≤ 12622780800)
    (hG : feesR f t (l.filter fun p : Pd => eqS p.nm s) = G) (hne : G ≠ []) (hcov : Covers (l.filter fun p : Pd => eqS p.nm s) t a G) (hfa : f ≤ a) (b1 b2 : Bool) (hb1 : (atL l s f).isSome = b1) (hb2 : (atL l s (t - 1)).isSome = b2) (hfirst : b1 = true → a = f) (hbefore : b1 = false → atL l s (a - 1) = none) :
    Calls Try.prog 14 #[v, .string s, .agg #[.int .i64 f, .int .i64 t]] w fun e w' => e = .returned (.bool true) ∧ Below w.heap.size w w' := by
  have Hix := Lib.hid (covers_at G a hcov)
  have Htop := Lib.hid (covers_top G a hcov)
  have hat := covers_le G a hcov
  obtain ⟨W, hW⟩ : ∃ W, W = w.alloc (Obj.cells #[Value.int .i64 f, Value.int .i64 t] 63) := ⟨_, rfl⟩
  have hw0 : Below w.heap.size w W := by rw [hW]; go_grown
  have hz : W.heap.size = w.heap.size + 1 := by rw [hW]; simp
  have r2 : W.heap[w.heap.size]? = some (Obj.cells #[Value.int .i64 f, Value.int .i64 t] 63) := by rw [hW]; exact heap_alloc_new _ _
  have HW := Lib.hid hW
  have HA := Lib.hid hA
  have hz2 : w.heap.size < W.heap.size := by omega
  have Hf := Lib.hid (few_calls v l W (h.below hw0))
  have Hc := Lib.hid (asc_calls v l W (h.below hw0))
  have Hat := Lib.hid (h.below hw0)
  have HF := Lib.hid (fewP_of hx)
  rw [hx] at Hf
  rw [hy] at Hc
  have k1 : decide (f < 0) = false := decide_eq_false (by omega)
  have k2 : decide (t ≤ f) = false := decide_eq_false (by omega)
  have k3 : decide (12622780800 < t) = false := decide_eq_false (by omega)
  have Hfee := Lib.hid (fun w1 (hb : Below W.heap.size W w1) => fees_r v l s f t w1 (Hat.out.below hb) HF.out h0 hft ht)
  rw [hG] at Hfee
  have Hat1 := Lib.hid (fun w1 (hb : Below W.heap.size W w1) => at_u v l s f w1 (Hat.out.below hb) HF.out)
  have Hat2 := Lib.hid (fun w1 (hb : Below W.heap.size W w1) => at_u v l s (t - 1) w1 (Hat.out.below hb) HF.out)
  unfold AtU at Hat1 Hat2
  rw [hb1] at Hat1
  rw [hb2] at Hat2
  have Hatu := Lib.hid (fun x w1 (hb : Below W.heap.size W w1) => at_u v l s x w1 (Hat.out.below hb) HF.out)
  have Hbef := Lib.hid (fun (hb : b1 = false) w1 (hw : Below W.heap.size W w1) => at_no v l s (a - 1) w1 (Hat.out.below hw) HF.out (hbefore hb))
  have Hp := Lib.hid (show ∀ w' : World, Below W.heap.size W w' → w'.cell? ⟨w.heap.size, 0, none⟩ = some (.int .i64 f) ∧ w'.cell? ⟨w.heap.size, 1, none⟩ = some (.int .i64 t) from fun w' hb =>
    have q := (hb.block w.heap.size hz2).trans r2
    ⟨cell_of_row w' _ 0 _ _ _ q, cell_of_row w' _ 1 _ _ _ q⟩)
  have Hfst := Lib.hid hfirst
  have hpos : 0 < G.length := List.length_pos_iff.2 hne
  clear hW r2 hz h hA hx hy hG hfirst hbefore hcov hb1 hb2
  go_enter Try.func14, Try.ntmps14
  go_wp2_with fail
  rw [← HW.out]
  refine Hf.out.mono ?_
  rintro e w0 ⟨rfl, hw1⟩
  subst w0
  go_wp2_with fail
  refine Hc.out.mono ?_
  rintro e w1 ⟨rfl, hb1⟩
  obtain ⟨q0, q1⟩ := Hp.out w1 hb1
  go_wp2_with fail
  refine (Hfee.out w1 hb1).mono ?_
  rintro e w2 ⟨v2, rfl, hpr, hb⟩
  have hb2 := hb1.trans (hb.mono hb1.size)
  clear q0 q1 hb hb1
  obtain ⟨q0, q1⟩ := Hp.out w2 hb2
  have HPR := Lib.hid hpr
  obtain ⟨av2, cap2, rfl, hlc, hcap, -⟩ := hpr
  have hcap := hcap.1
  unfold maxLen at hcap
  have hlen0 : ((G.length : Int) == 0) = false := beq_eq_false_iff_ne.2 (by omega)
  go_wp2_with fail
  refine (Hat1.out w2 hb2).mono ?_
  rintro e w3 ⟨nm1, fm1, fe1, ct1, pr1, a1, n1, c1, rfl, -, hb⟩
  have hb3 := hb2.trans (hb.mono hb2.size)
  clear q0 q1
  go_upto_region 5 with (fail)
  obtain ⟨Y1, hY1⟩ : ∃ Y, Y = w3.alloc (Obj.cells #[.string nm1, .int .i64 fm1, .int .i64 fe1, .string ct1, .bool pr1, .slice a1 n1 c1] 54) := ⟨_, rfl⟩
  have hbY : Below w3.heap.size w3 Y1 := by rw [hY1]; go_grown
  have hb4 := hb3.trans (hbY.mono hb3.size)
  have hc4 := hb.trans (hbY.mono hb.size)
  rw [← hY1]
  clear hb3 hY1 hbY hb
  obtain ⟨q0, q1⟩ := Hp.out Y1 hb4
  go_wp2_with fail
  refine (Hat2.out Y1 hb4).mono ?_
  rintro e w5 ⟨nm2, fm2, fe2, ct2, pr2, a2, n2, c2, rfl, -, hb⟩
  have hb5 := hb4.trans (hb.mono hb4.size)
  have hc5 := hc4.trans (hb.mono hc4.size)
  clear q0 q1 hb hb4 hc4
  go_upto_region 8 with (fail)
  obtain ⟨Y2, hY2⟩ : ∃ Y, Y = w5.alloc (Obj.cells #[.string nm2, .int .i64 fm2, .int .i64 fe2, .string ct2, .bool pr2, .slice a2 n2 c2] 54) := ⟨_, rfl⟩
  have hbY : Below w5.heap.size w5 Y2 := by rw [hY2]; go_grown
  have hb6 := hb5.trans (hbY.mono hb5.size)
  have hc6 := hc5.trans (hbY.mono hc5.size)
  rw [← hY2]
  clear hb5 hc5 hY2 hbY
  obtain ⟨q0, q1⟩ := Hp.out Y2 hb6
  have HPR2 := Lib.hid (HPR.out.below hc6)
  obtain ⟨av2', cap2', e2, -, -, hx⟩ := HPR2.out
  cases e2
  obtain ⟨g, o, rfl, hg, hx⟩ := hx hne
  obtain ⟨p0, -, -⟩ := hx 0 hpos
  obtain ⟨-, p1, -⟩ := hx (G.length - 1) (by omega)
  obtain ⟨-, -, -, i1, -, -⟩ := Hix.out 0 hpos
  obtain ⟨-, -, -, -, i2, -⟩ := Hix.out (G.length - 1) (by omega)
  rw [i2 (by omega)] at p1
  rw [i1 rfl] at p0
  simp only [Nat.zero_mul, Nat.add_zero] at p0
  have hj1 : IntKind.i64.wrap ((G.length : Int) - 1) = (G.length : Int) - 1 := IntWalk.i64_in _ (by omega)
  have hj2 : ((G.length : Int) - 1).toNat = G.length - 1 := by omega
  have hj3 : (0 : Int) ≤ (G.length : Int) - 1 := by omega
  have hj4 : (G.length : Int) - 1 < (G.length : Int) := by omega
  have hj5 : (0 : Int) < (G.length : Int) := by omega
  clear hx i1 i2 hc6 HPR hlen0
  cases b1 with
  | true =>
    obtain rfl := Hfst.out rfl
    clear Hbef Hfst
    go_big_quiet (fail)
    have hb7 : Below W.heap.size W (Y2.drewN nq) := below_drewN hb6 _
    obtain ⟨Z, hZ⟩ : ∃ Z, Z = Y2.drewN nq := ⟨_, rfl⟩
    rw [← hZ] at hb7 ⊢
    have HPZ := Lib.hid (HPR2.out.below (show Below Y2.heap.size Y2 Z by rw [hZ]; exact below_drewN (Below.refl _ _) _))
    clear hZ hj1 hj2 hj3 hj4 p0 p1 q0 q1 hb6 HPR2
    go_wp2_with fail
    go_loopw [12] (fun i wr => ∃ k : Nat, k ≤ G.length ∧ i = .int .i64 k ∧ Below Z.heap.size Z wr) (fun i _ => G.length - (intOf i).toNat)
    case atStart => exact ⟨0, Nat.zero_le _, rfl, Below.refl _ _⟩
    case round =>
      obtain ⟨k, hk, rfl, hbr⟩ := hrel
      have hbw := hb7.trans (hbr.mono hb7.size)
      obtain ⟨q0, q1⟩ := Hp.out wr hbw
      have HPW := Lib.hid (HPZ.out.below hbr)
      obtain ⟨av', cap', e, -, -, hx⟩ := HPW.out
      cases e
      obtain ⟨g', o', e, hgw, hx⟩ := hx hne
      cases e
      by_cases hlt : k < G.length
      · obtain ⟨c0, c1, c2⟩ := hx k hlt
        obtain ⟨j1, j2, ⟨p, hp1, hp2, hp3⟩, -, -, j6⟩ := Hix.out k hlt
        have j7 := Htop.out k hlt
        rw [← atL_F] at hp1 hp2
        have hprev : ∀ h : 0 < k, wr.cell? ⟨g, o + (k - 1) * 3 + 1, none⟩ = some (.int .i64 G[k].1) := fun h => by
          rw [← j6 h]; exact (hx (k - 1) (by omega)).2.1
        have HPrev := Lib.hid hprev
        clear hprev j6 hx
        generalize G[k] = q at *
        obtain ⟨x, y, fee⟩ := q
        dsimp only at *
        subst hp3
        have HC2 := Lib.hid c2
        have Ha1 := Lib.hid (fun w1 hb => Hatu.out x w1 hb)
        have Ha2 := Lib.hid (fun w1 hb => Hatu.out (y - 1) w1 hb)
        unfold AtU at Ha1 Ha2
        rw [hp1] at Ha1
        rw [hp2] at Ha2
        have hk0 : (0 : Int) ≤ (k : Int) := Int.natCast_nonneg _
        have hk1 : (k : Int) < (G.length : Int) := by omega
        clear hp1 hp2
        go_upto_region 14 with (fail)
        obtain ⟨X, hX⟩ : ∃ X, X = wr.alloc (Obj.cells #[.int .i64 x, .int .i64 y] 63) := ⟨_, rfl⟩
        have hbX : Below wr.heap.size wr X := by rw [hX]; go_grown
        have hlX : wr.heap.size < X.heap.size := by rw [hX]; simp
        have rX : X.heap[wr.heap.size]? = some (Obj.cells #[.int .i64 x, .int .i64 y] 63) := by rw [hX]; exact heap_alloc_new _ _
        rw [← hX]
        clear hX
        have RX := Lib.hid rX
        have hbwX := hbw.trans (hbX.mono hbw.size)
        have x0 : X.cell? ⟨wr.heap.size, 0, none⟩ = some (.int .i64 x) := cell_of_row X _ 0 _ _ _ rX
        have x1 : X.cell? ⟨wr.heap.size, 1, none⟩ = some (.int .i64 y) := cell_of_row X _ 1 _ _ _ rX
        clear rX c0 c1 c2 q0 q1
        go_wp2_with fail
        refine (Ha1.out X hbwX).mono ?_
        rintro e w6 ⟨nm3, fm3, fe3, ct3, pr3, a3, n3, c3, rfl, hv3, hb8⟩
        obtain ⟨rfl, rfl⟩ := hv3 p rfl
        have hb9 := hbX.trans (hb8.mono hbX.size)
        clear x0 x1
        simp only [Option.isSome_some]
        go_upto_region 15 with (fail)
        obtain ⟨X2, hX2⟩ : ∃ X, X = w6.alloc (Obj.cells #[.string nm3, .int .i64 p.fm, .int .i64 p.fe, .string ct3, .bool pr3, .slice a3 n3 c3] 54) := ⟨_, rfl⟩
        have hbX2 : Below w6.heap.size w6 X2 := by rw [hX2]; go_grown
        have hlX2 : w6.heap.size < X2.heap.size := by rw [hX2]; simp
        have rX2 : X2.heap[w6.heap.size]? = some (Obj.cells #[.string nm3, .int .i64 p.fm, .int .i64 p.fe, .string ct3, .bool pr3, .slice a3 n3 c3] 54) := by rw [hX2]; exact heap_alloc_new _ _
        rw [← hX2]
        clear hX2
        have RX2 := Lib.hid rX2
        have hb10 := hb9.trans (hbX2.mono hb9.size)
        have hb11 := hb8.trans (hbX2.mono hb8.size)
        have hbw2 := hbw.trans (hb10.mono hbw.size)
        have x0 : X2.cell? ⟨wr.heap.size, 0, none⟩ = some (.int .i64 x) := cell_of_row X2 _ 0 _ _ _ ((hb11.block _ hlX).trans RX.out)
        have x1 : X2.cell? ⟨wr.heap.size, 1, none⟩ = some (.int .i64 y) := cell_of_row X2 _ 1 _ _ _ ((hb11.block _ hlX).trans RX.out)
        clear rX2 hb8 hb9 hbX2
        go_wp2_with fail
        refine (Ha2.out X2 hbw2).mono ?_
        rintro e w7 ⟨nm4, fm4, fe4, ct4, pr4, a4, n4, c4, rfl, hv4, hb12⟩
        obtain ⟨rfl, rfl⟩ := hv4 p rfl
        clear x0 x1
        simp only [Option.isSome_some]
        go_upto_region 16 with (fail)
        obtain ⟨X3, hX3⟩ : ∃ X, X = w7.alloc (Obj.cells #[.string nm4, .int .i64 p.fm, .int .i64 p.fe, .string ct4, .bool pr4, .slice a4 n4 c4] 54) := ⟨_, rfl⟩
        have hbX3 : Below w7.heap.size w7 X3 := by rw [hX3]; go_grown
        have rX3 : X3.heap[w7.heap.size]? = some (Obj.cells #[.string nm4, .int .i64 p.fm, .int .i64 p.fe, .string ct4, .bool pr4, .slice a4 n4 c4] 54) := by rw [hX3]; exact heap_alloc_new _ _
        rw [← hX3]
        clear hX3
        have hb13 := hb12.trans (hbX3.mono hb12.size)
        have hb14 := hb11.trans (hb13.mono hb11.size)
        have hb15 := hb10.trans (hb13.mono hb10.size)
        have hbw3 := hbw.trans (hb15.mono hbw.size)
        have hbr3 := hbr.trans (hb15.mono hbr.size)
        have x0 : X3.cell? ⟨wr.heap.size, 0, none⟩ = some (.int .i64 x) := cell_of_row X3 _ 0 _ _ _ ((hb14.block _ hlX).trans RX.out)
        have x1 : X3.cell? ⟨wr.heap.size, 1, none⟩ = some (.int .i64 y) := cell_of_row X3 _ 1 _ _ _ ((hb14.block _ hlX).trans RX.out)
        have y1 : X3.cell? ⟨w6.heap.size, 1, none⟩ = some (.int .i64 p.fm) := cell_of_row X3 _ 1 _ _ _ ((hb13.block _ hlX2).trans RX2.out)
        have y2 : X3.cell? ⟨w6.heap.size, 2, none⟩ = some (.int .i64 p.fe) := cell_of_row X3 _ 2 _ _ _ ((hb13.block _ hlX2).trans RX2.out)
        have z1 : X3.cell? ⟨w7.heap.size, 1, none⟩ = some (.int .i64 p.fm) := cell_of_row X3 _ 1 _ _ _ rX3
        have z2 : X3.cell? ⟨w7.heap.size, 2, none⟩ = some (.int .i64 p.fe) := cell_of_row X3 _ 2 _ _ _ rX3
        obtain ⟨q0, q1⟩ := Hp.out X3 hbw3
        have u2 : X3.cell? ⟨g, o + k * 3 + 2, none⟩ = some (.int .i64 p.fe) := (hb15.cell (p := ⟨g, o + k * 3 + 2, none⟩) hgw).trans HC2.out
        have e1 : decide (x < a) = false := decide_eq_false (by omega)
        have e2 : decide (y ≤ x) = false := decide_eq_false (by omega)
        have e3 : (p.fe != p.fe) = false := bne_self_eq_false _
        have e4 : (p.fm != p.fm) = false := bne_self_eq_false _
        by_cases hk2 : k = 0
        · subst hk2
          simp only [Nat.zero_mul, Nat.add_zero] at u2
          go_big_quiet (fail)
          go_wp2
          exact ⟨⟨1, by omega, rfl, below_drewN hbr3 _⟩, by simp [intOf]; omega⟩
        · have u1 : X3.cell? ⟨g, o + (k - 1) * 3 + 1, none⟩ = some (.int .i64 x) := (hb15.cell (p := ⟨g, o + (k - 1) * 3 + 1, none⟩) hgw).trans (HPrev.out (by omega))
          obtain ⟨j, rfl⟩ : ∃ j, k = j + 1 := ⟨k - 1, by omega⟩
          rw [Nat.add_sub_cancel] at u1
          have m1 : IntKind.i64.wrap (((j + 1 : Nat) : Int) - 1) = (j : Int) := by rw [show ((j + 1 : Nat) : Int) - 1 = (j : Int) by omega]; exact IntWalk.i64_in _ (by omega)
          have m2 : (((j + 1 : Nat) : Int)).toNat = j + 1 := by omega
          have m4 : (0 : Int) < ((j + 1 : Nat) : Int) := by omega
          go_big_quiet (fail)
          go_wp2
          exact ⟨⟨j + 1 + 1, by omega, by go_num, below_drewN hbr3 _⟩, by simp [intOf]; omega⟩
      · go_wp2_with fail
        refine (HA.out _).mono ?_
        rintro e w9 ⟨rfl, hb9⟩
        have hb10 := hbw.trans (hb9.mono hbw.size)
        go_wp2
        go_ret
        exact ⟨rfl, hw0.trans (hb10.mono hw0.size)⟩
  | false =>
    clear Hfst
    go_big_quiet (fail)
    have hb7 : Below W.heap.size W (Y2.drewN nq) := below_drewN hb6 _
    obtain ⟨Z, hZ⟩ : ∃ Z, Z = Y2.drewN nq := ⟨_, rfl⟩
    rw [← hZ] at hb7 ⊢
    have HPZ := Lib.hid (HPR2.out.below (show Below Y2.heap.size Y2 Z by rw [hZ]; exact below_drewN (Below.refl _ _) _))
    clear hZ hj1 hj2 hj3 hj4 p0 p1 q0 q1 hb6 HPR2
    go_wp2_with fail
    go_loopw [12] (fun i wr => ∃ k : Nat, k ≤ G.length ∧ i = .int .i64 k ∧ Below Z.heap.size Z wr) (fun i _ => G.length - (intOf i).toNat)
    case atStart => exact ⟨0, Nat.zero_le _, rfl, Below.refl _ _⟩
    case round =>
      obtain ⟨k, hk, rfl, hbr⟩ := hrel
      have hbw := hb7.trans (hbr.mono hb7.size)
      obtain ⟨q0, q1⟩ := Hp.out wr hbw
      have HPW := Lib.hid (HPZ.out.below hbr)
      obtain ⟨av', cap', e, -, -, hx⟩ := HPW.out
      cases e
      obtain ⟨g', o', e, hgw, hx⟩ := hx hne
      cases e
      by_cases hlt : k < G.length
      · obtain ⟨c0, c1, c2⟩ := hx k hlt
        obtain ⟨j1, j2, ⟨p, hp1, hp2, hp3⟩, -, -, j6⟩ := Hix.out k hlt
        have j7 := Htop.out k hlt
        rw [← atL_F] at hp1 hp2
        have hprev : ∀ h : 0 < k, wr.cell? ⟨g, o + (k - 1) * 3 + 1, none⟩ = some (.int .i64 G[k].1) := fun h => by
          rw [← j6 h]; exact (hx (k - 1) (by omega)).2.1
        have HPrev := Lib.hid hprev
        clear hprev j6 hx
        generalize G[k] = q at *
        obtain ⟨x, y, fee⟩ := q
        dsimp only at *
        subst hp3
        have HC2 := Lib.hid c2
        have Ha1 := Lib.hid (fun w1 hb => Hatu.out x w1 hb)
        have Ha2 := Lib.hid (fun w1 hb => Hatu.out (y - 1) w1 hb)
        unfold AtU at Ha1 Ha2
        rw [hp1] at Ha1
        rw [hp2] at Ha2
        have hk0 : (0 : Int) ≤ (k : Int) := Int.natCast_nonneg _
        have hk1 : (k : Int) < (G.length : Int) := by omega
        clear hp1 hp2
        go_upto_region 14 with (fail)
        obtain ⟨X, hX⟩ : ∃ X, X = wr.alloc (Obj.cells #[.int .i64 x, .int .i64 y] 63) := ⟨_, rfl⟩
        have hbX : Below wr.heap.size wr X := by rw [hX]; go_grown
        have hlX : wr.heap.size < X.heap.size := by rw [hX]; simp
        have rX : X.heap[wr.heap.size]? = some (Obj.cells #[.int .i64 x, .int .i64 y] 63) := by rw [hX]; exact heap_alloc_new _ _
        rw [← hX]
        clear hX
        have RX := Lib.hid rX
        have hbwX := hbw.trans (hbX.mono hbw.size)
        have x0 : X.cell? ⟨wr.heap.size, 0, none⟩ = some (.int .i64 x) := cell_of_row X _ 0 _ _ _ rX
        have x1 : X.cell? ⟨wr.heap.size, 1, none⟩ = some (.int .i64 y) := cell_of_row X _ 1 _ _ _ rX
        clear rX c0 c1 c2 q0 q1
        go_wp2_with fail
        refine (Ha1.out X hbwX).mono ?_
        rintro e w6 ⟨nm3, fm3, fe3, ct3, pr3, a3, n3, c3, rfl, hv3, hb8⟩
        obtain ⟨rfl, rfl⟩ := hv3 p rfl
        have hb9 := hbX.trans (hb8.mono hbX.size)
        clear x0 x1
        simp only [Option.isSome_some]
        go_upto_region 15 with (fail)
        obtain ⟨X2, hX2⟩ : ∃ X, X = w6.alloc (Obj.cells #[.string nm3, .int .i64 p.fm, .int .i64 p.fe, .string ct3, .bool pr3, .slice a3 n3 c3] 54) := ⟨_, rfl⟩
        have hbX2 : Below w6.heap.size w6 X2 := by rw [hX2]; go_grown
        have hlX2 : w6.heap.size < X2.heap.size := by rw [hX2]; simp
        have rX2 : X2.heap[w6.heap.size]? = some (Obj.cells #[.string nm3, .int .i64 p.fm, .int .i64 p.fe, .string ct3, .bool pr3, .slice a3 n3 c3] 54) := by rw [hX2]; exact heap_alloc_new _ _
        rw [← hX2]
        clear hX2
        have RX2 := Lib.hid rX2
        have hb10 := hb9.trans (hbX2.mono hb9.size)
        have hb11 := hb8.trans (hbX2.mono hb8.size)
        have hbw2 := hbw.trans (hb10.mono hbw.size)
        have x0 : X2.cell? ⟨wr.heap.size, 0, none⟩ = some (.int .i64 x) := cell_of_row X2 _ 0 _ _ _ ((hb11.block _ hlX).trans RX.out)
        have x1 : X2.cell? ⟨wr.heap.size, 1, none⟩ = some (.int .i64 y) := cell_of_row X2 _ 1 _ _ _ ((hb11.block _ hlX).trans RX.out)
        clear rX2 hb8 hb9 hbX2
        go_wp2_with fail
        refine (Ha2.out X2 hbw2).mono ?_
        rintro e w7 ⟨nm4, fm4, fe4, ct4, pr4, a4, n4, c4, rfl, hv4, hb12⟩
        obtain ⟨rfl, rfl⟩ := hv4 p rfl
        clear x0 x1
        simp only [Option.isSome_some]
        go_upto_region 16 with (fail)
        obtain ⟨X3, hX3⟩ : ∃ X, X = w7.alloc (Obj.cells #[.string nm4, .int .i64 p.fm, .int .i64 p.fe, .string ct4, .bool pr4, .slice a4 n4 c4] 54) := ⟨_, rfl⟩
        have hbX3 : Below w7.heap.size w7 X3 := by rw [hX3]; go_grown
        have rX3 : X3.heap[w7.heap.size]? = some (Obj.cells #[.string nm4, .int .i64 p.fm, .int .i64 p.fe, .string ct4, .bool pr4, .slice a4 n4 c4] 54) := by rw [hX3]; exact heap_alloc_new _ _
        rw [← hX3]
        clear hX3
        have hb13 := hb12.trans (hbX3.mono hb12.size)
        have hb14 := hb11.trans (hb13.mono hb11.size)
        have hb15 := hb10.trans (hb13.mono hb10.size)
        have hbw3 := hbw.trans (hb15.mono hbw.size)
        have hbr3 := hbr.trans (hb15.mono hbr.size)
        have x0 : X3.cell? ⟨wr.heap.size, 0, none⟩ = some (.int .i64 x) := cell_of_row X3 _ 0 _ _ _ ((hb14.block _ hlX).trans RX.out)
        have x1 : X3.cell? ⟨wr.heap.size, 1, none⟩ = some (.int .i64 y) := cell_of_row X3 _ 1 _ _ _ ((hb14.block _ hlX).trans RX.out)
        have y1 : X3.cell? ⟨w6.heap.size, 1, none⟩ = some (.int .i64 p.fm) := cell_of_row X3 _ 1 _ _ _ ((hb13.block _ hlX2).trans RX2.out)
        have y2 : X3.cell? ⟨w6.heap.size, 2, none⟩ = some (.int .i64 p.fe) := cell_of_row X3 _ 2 _ _ _ ((hb13.block _ hlX2).trans RX2.out)
        have z1 : X3.cell? ⟨w7.heap.size, 1, none⟩ = some (.int .i64 p.fm) := cell_of_row X3 _ 1 _ _ _ rX3
        have z2 : X3.cell? ⟨w7.heap.size, 2, none⟩ = some (.int .i64 p.fe) := cell_of_row X3 _ 2 _ _ _ rX3
        obtain ⟨q0, q1⟩ := Hp.out X3 hbw3
        have u2 : X3.cell? ⟨g, o + k * 3 + 2, none⟩ = some (.int .i64 p.fe) := (hb15.cell (p := ⟨g, o + k * 3 + 2, none⟩) hgw).trans HC2.out
        have e1 : decide (x < f) = false := decide_eq_false (by omega)
        have e2 : decide (y ≤ x) = false := decide_eq_false (by omega)
        have e3 : (p.fe != p.fe) = false := bne_self_eq_false _
        have e4 : (p.fm != p.fm) = false := bne_self_eq_false _
        by_cases hk2 : k = 0
        · subst hk2
          simp only [Nat.zero_mul, Nat.add_zero] at u2
          go_big_quiet (fail)
          go_wp2
          exact ⟨⟨1, by omega, rfl, below_drewN hbr3 _⟩, by simp [intOf]; omega⟩
        · have u1 : X3.cell? ⟨g, o + (k - 1) * 3 + 1, none⟩ = some (.int .i64 x) := (hb15.cell (p := ⟨g, o + (k - 1) * 3 + 1, none⟩) hgw).trans (HPrev.out (by omega))
          obtain ⟨j, rfl⟩ : ∃ j, k = j + 1 := ⟨k - 1, by omega⟩
          rw [Nat.add_sub_cancel] at u1
          have m1 : IntKind.i64.wrap (((j + 1 : Nat) : Int) - 1) = (j : Int) := by rw [show ((j + 1 : Nat) : Int) - 1 = (j : Int) by omega]; exact IntWalk.i64_in _ (by omega)
          have m2 : (((j + 1 : Nat) : Int)).toNat = j + 1 := by omega
          have m4 : (0 : Int) < ((j + 1 : Nat) : Int) := by omega
          go_big_quiet (fail)
          go_wp2
          exact ⟨⟨j + 1 + 1, by omega, by go_num, below_drewN hbr3 _⟩, by simp [intOf]; omega⟩
      · obtain ⟨p0, -, -⟩ := hx 0 hpos
        obtain ⟨-, -, -, i1, -, -⟩ := Hix.out 0 hpos
        rw [i1 rfl] at p0
        simp only [Nat.zero_mul, Nat.add_zero] at p0
        clear i1 hx
        go_wp2_with fail
        refine (Hbef.out (by trivial) wr hbw).mono ?_
        rintro e w8 ⟨rfl, hb8⟩
        have hb9 := hbw.trans (hb8.mono hbw.size)
        have hb10 := hb9.trans ((Below.alloc (Below.refl _ _) (Nat.le_refl _) _ : Below w8.heap.size w8 (w8.alloc (Obj.cells #[.string ⟨#[]⟩, .int .i64 0, .int .i64 0, .string ⟨#[]⟩, .bool false, .slice none 0 0] 54))).mono hb9.size)
        go_wp2_with fail
        refine (HA.out _).mono ?_
        rintro e w9 ⟨rfl, hb11⟩
        have hb12 := hb10.trans (hb11.mono hb10.size)
        go_wp2
        go_ret
        exact ⟨rfl, hw0.trans (hb12.mono hw0.size)⟩
end Go.Proofs.Ytkipebdhagccbaa
