/-
  The walk of the laws' valid of chapter 35.
-/
import Derived.Test.YtngippiilgdnoaaGreatMkbn
set_option maxRecDepth 100000
set_option maxHeartbeats 25600000
namespace Go.Proofs.YtngippiilgdnoaaGreat
open Go.RowKit
theorem append_pe {w : World} {ops : Array Oper} {rest : List Oper} {o : Oper} {a : Act} {Q : Exit → Act → World → Prop} (hgd : o.guard = none) (s x : Operand)
 (ho : o.op = .call { callee := .builtin .append, args := #[s, x], argTypes := #[85, 85] })
 (base : Nat) (hbase : base ≤ w.heap.size) (v vx : Value) (L X : List (Int × Int)) (hs : a.eval s = v) (hx : a.eval x = vx) (hown : w.ownsRow base 25 2 v L.length (L.flatMap perCells)) (hX : RecAt perCells 2 w vx X) (hlen : L.length + X.length ≤ 1000000)
 (h : ∀ R : List (Int × Int), RowKit.Hid (R = L ++ X) → ∀ v' w', w'.ownsRow base 25 2 v' R.length (R.flatMap perCells) → w.grownBy w' v.ownBlock → wpList Tryz.prog ops Q rest (a.put o.dst v') w') : wpList Tryz.prog ops Q (o :: rest) a w :=
 append_rec2 (c := perCells) (sz := 2) (fun _ => rfl) per_one2 25 85 _ 16 Tryz.underlying85 Tryz.perInfo rfl (by decide) hgd s x ho base hbase v vx L X hs hx hown hX (by unfold maxLen; omega) (by omega) h
def CycTo (a : Int) (A : List (Int × Int)) (t : Int) (w : World) (e : Ending) (w' : World) : Prop := ∃ O, CycsOk a A t O ∧ PersTo w O e w'
theorem flat_take {α β : Type} (f : α → List β) (L : List α) (k : Nat) (h : k < L.length) : (L.take (k + 1)).flatMap f = (L.take k).flatMap f ++ f L[k] := by
 rw [List.take_succ_eq_append_getElem h, List.flatMap_append, List.flatMap_singleton]
theorem flat_pre {α β : Type} (f : α → List β) (L : List α) (k : Nat) : ((L.take k).flatMap f).length ≤ (L.flatMap f).length := by
 have h : L.flatMap f = (L.take k).flatMap f ++ (L.drop k).flatMap f := by rw [← List.flatMap_append, List.take_append_drop]
 rw [h, List.length_append]
 omega
structure PeBox (B g : Nat) (L : List (Int × Int)) (w : World) : Prop where
 ex : ∃ (a : Option Addr) (c : Nat), w.heap[g]? = some (Obj.cells #[.slice a L.length c] 85) ∧ w.ownsRow B 25 2 (.slice a L.length c) L.length (L.flatMap perCells)
theorem PeBox.below {B g : Nat} {L : List (Int × Int)} {w w' : World} (h : PeBox B g L w) (hb : Below w.heap.size w w') : PeBox B g L w' := by
 obtain ⟨a, c, h1, h2⟩ := h.ex
 exact ⟨a, c, (hb.block _ (ltB9 h1)).trans h1, ownsRow_below h2 hb⟩
theorem PeBox.lt {B g : Nat} {L : List (Int × Int)} {w : World} (h : PeBox B g L w) : g < w.heap.size := by
 obtain ⟨a, c, h1, h2⟩ := h.ex
 exact (ltB9 h1)
def wkPhi (wa : World) (vo : Value) (a p1 p2 : Int) (L : List (Int × Int)) : Nat → Value → World → Prop
 | 0, v, _ => v = vo
 | 1, v, _ => v = .int .i64 a
 | 2, v, _ => v = .agg #[.int .i64 p1, .int .i64 p2]
 | 3, v, w => ∃ y, v = y ∧ w.ownsRow wa.heap.size 25 2 y L.length (L.flatMap perCells)
 | _, _, _ => True
theorem wkPhi_stays {wa : World} {vo : Value} {a p1 p2 : Int} {L : List (Int × Int)} {w1 w2 : World} (hb : Below w1.heap.size w1 w2) : ∀ kQ yQ, wkPhi wa vo a p1 p2 L kQ yQ w1 → wkPhi wa vo a p1 p2 L kQ yQ w2
 | 0, _, h => h
 | 1, _, h => h
 | 2, _, h => h
 | 3, _, h => (by obtain ⟨y, h1, h2⟩ := h; exact ⟨y, h1, ownsRow_below h2 hb⟩)
 | _ + 4, _, _ => trivial
theorem walk1_calls (B tb ab nb : Nat) (a t : Int) (p : Int × Int) (L : List (Int × Int)) (w : World) (ha : 1 ≤ a) (hb : a ≤ 28) (h0 : 0 ≤ t) (h1 : t < 12622780800) (hB : B ≤ w.heap.size) (hab : B ≤ ab) (htb : tb < B) (hnb : nb < B) (ht : w.cell? ⟨tb, 0, none⟩ = some (.int .i64 t)) (hn : w.cell? ⟨nb, 0, none⟩ = some (.int .i64 a)) (hbox : PeBox B ab L w) (hl : L.length + (walkC a t p).length ≤ 2000) :
 Calls Tryz.prog 90 #[.agg #[.int .i64 p.1, .int .i64 p.2], .pointer (some ⟨tb, 0, none⟩), .pointer (some ⟨ab, 0, none⟩), .pointer (some ⟨nb, 0, none⟩)] w fun e w' => e = .returned (.tuple #[]) ∧ PeBox B ab (L ++ walkC a t p) w' ∧ Below B w w' := by
 obtain ⟨W, hW⟩ : ∃ W, W = w.alloc (Obj.cells #[.int .i64 p.1, .int .i64 p.2] 25) := ⟨_, rfl⟩
 have hw0 : Below w.heap.size w W := by rw [hW]; exact (Below.refl _ _).alloc (Nat.le_refl _) _
 have R0 := hZ9 (show W.heap[w.heap.size]? = some (Obj.cells #[.int .i64 p.1, .int .i64 p.2] 25) by rw [hW]; exact heap_alloc_new _ _)
 have Hw0 := hZ9 (hw0.mono hB)
 have HI := hZ9 (intersect_calls p.1 p.2 0 (t + 1) W)
 have hwt : wrap64 (t + 1) = t + 1 := by unfold wrap64; omega
 have HbW := hZ9 (hbox.below hw0)
 have c0 := cell_of_row W _ 0 _ _ _ R0.out
 have c1 := cell_of_row W _ 1 _ _ _ R0.out
 have ct := (hw0.cell (p := ⟨tb, 0, none⟩) (show tb < w.heap.size by omega)).trans ht
 have cn := (hw0.cell (p := ⟨nb, 0, none⟩) (show nb < w.heap.size by omega)).trans hn
 have hWB : B ≤ W.heap.size := Nat.le_trans hB hw0.size
 have HW := hZ9 hW
 have HWk := hZ9 (show walkC a t p = if meetB p.1 p.2 0 (t + 1) = true then cycOf a (max p.1 0, min p.2 (t + 1)) else [] from rfl)
 have Hme := hZ9 (show meetB p.1 p.2 0 (t + 1) = true → 0 ≤ max p.1 0 ∧ max p.1 0 < min p.2 (t + 1) ∧ min p.2 (t + 1) ≤ 12622780800 from fun h => by
  obtain ⟨v1, v2, v3⟩ := (meetB_iff _ _ _ _).1 h
  obtain ⟨w0, w1, w2⟩ := (validB_iff _ _).1 v1
  omega)
 have HCy := hZ9 (show ∀ q : Int × Int, 0 ≤ q.1 → q.1 < q.2 → q.2 ≤ 12622780800 → ∀ W, Calls Tryz.prog 92 #[.int .i64 a, .agg #[.int .i64 q.1, .int .i64 q.2]] W (fun e w' => ∃ v, e = .returned v ∧ w'.ownsRow W.heap.size 25 2 v (cycOf a q).length ((cycOf a q).flatMap perCells) ∧ Below W.heap.size W w') from fun q s0 s1 s2 W => cycles_own a q.1 q.2 _ _ W ha hb ((validB_iff _ _).2 ⟨s0, s1, s2⟩) (moOf_is s0 (by omega)) (moOf_is (by omega) (by omega)))
 generalize walkC a t p = wk at *
 clear hW hw0 ht hn hbox h0 h1
 cases hm : meetB p.1 p.2 0 (t + 1) with
 | false =>
   have HE := hZ9 (HWk.out.trans (if_neg (by rw [hm]; decide)))
   unfold meetV at HI
   rw [hm, if_neg (by decide)] at HI
   clear hm
   go_enter Tryz.func90, Tryz.ntmps90
   go_upto_region 1 with (fail)
   rw [← HW.out]
   go_wp2_with fail
   refine HI.out.mono ?_
   rintro e w2 ⟨rfl, hb2⟩
   have Hb2 := hZ9 ((hb2.alloc hb2.size (Obj.cells #[.int .i64 0, .int .i64 0] 25)))
   clear hb2 c0 c1 ct cn
   go_wp2
   go_end0
   exact ⟨rfl, by rw [HE.out, List.append_nil]; exact HbW.out.below Hb2.out, Hw0.out.trans (Hb2.out.mono hWB)⟩
 | true =>
   obtain ⟨q, hq⟩ : ∃ q : Int × Int, q = (max p.1 0, min p.2 (t + 1)) := ⟨_, rfl⟩
   have HE := hZ9 (HWk.out.trans (if_pos hm))
   have hq3 := Hme.out hm
   have hq1 : max p.1 0 = q.1 := by rw [hq]
   have hq2 : min p.2 (t + 1) = q.2 := by rw [hq]
   rw [← hq] at HE
   unfold meetV at HI
   rw [hm, if_pos rfl, hq1, hq2] at HI
   rw [hq1, hq2] at hq3
   have HC1 := hZ9 (HCy.out q hq3.1 hq3.2.1 hq3.2.2)
   clear hm hq hq1 hq2 hq3 HCy
   rw [HE.out] at hl
   generalize cycOf a q = Lq at *
   go_enter Tryz.func90, Tryz.ntmps90
   go_upto_region 1 with (fail)
   rw [← HW.out]
   go_wp2_with fail
   refine HI.out.mono ?_
   rintro e w2 ⟨rfl, hb2⟩
   obtain ⟨Y, hY⟩ : ∃ Y, Y = w2.alloc (Obj.cells #[.int .i64 q.1, .int .i64 q.2] 25) := ⟨_, rfl⟩
   have hbY : Below w2.heap.size w2 Y := by rw [hY]; exact (Below.refl _ _).alloc (Nat.le_refl _) _
   have YN := hZ9 (show Y.heap[w2.heap.size]? = some (Obj.cells #[.int .i64 q.1, .int .i64 q.2] 25) by rw [hY]; exact heap_alloc_new _ _)
   have hbWY := hb2.trans (hbY.mono hb2.size)
   have HbY := hZ9 (HbW.out.below hbWY)
   have HWY := hZ9 (hbWY.mono hWB)
   have hYB : B ≤ Y.heap.size := Nat.le_trans hWB hbWY.size
   have cn2 := (hbWY.cell (p := ⟨nb, 0, none⟩) (show nb < W.heap.size by omega)).trans cn
   have hnY : nb < Y.heap.size := by omega
   have hy2 : w2.heap.size < Y.heap.size := (ltB9 YN.out)
   have HY := hZ9 hY
   obtain ⟨aa, ca, hrow, hown⟩ := HbY.out.ex
   have habY : ab < Y.heap.size := (ltB9 hrow)
   have HAw := hZ9 (show ∀ Z, Below Y.heap.size Y Z → Z.cell? ⟨ab, 0, none⟩ = some (.slice aa L.length ca) ∧ Z.cell? ⟨nb, 0, none⟩ = some (.int .i64 a) ∧ Z.cell? ⟨w2.heap.size, 0, none⟩ = some (.int .i64 q.1) ∧ Z.cell? ⟨w2.heap.size, 1, none⟩ = some (.int .i64 q.2) from fun Z hZ =>
    ⟨cell_of_row Z _ 0 _ _ _ ((hZ.block _ habY).trans hrow), (hZ.cell (p := ⟨nb, 0, none⟩) hnY).trans cn2, cell_of_row Z _ 0 _ _ _ ((hZ.block _ hy2).trans YN.out), cell_of_row Z _ 1 _ _ _ ((hZ.block _ hy2).trans YN.out)⟩)
   have Hrow := hZ9 hrow
   have Hown := hZ9 hown
   clear hY hbY hbWY hb2 c0 c1 ct cn cn2 hrow hown
   go_upto_region 3 with (fail)
   rw [← HY.out]
   refine wp_region_free3 4 (fun w' => Below Y.heap.size Y w') (wkPhi Y (.slice aa L.length ca) a q.1 q.2 Lq) (by kernel_rfl) (by kernel_rfl) (Below.refl _ _).drew ?_ ?_
   · generalize hfr : (fun v : Nat → Value => _) = fr
     simp only [List.take_succ_cons, List.take_zero, List.map_cons, List.map_nil, putsL, List.setIfInBounds_toArray, List.set_cons_succ, List.set_cons_zero, Nat.zero_add, Nat.reduceAdd] at hfr
     simp only [List.take_succ_cons, List.take_zero, FreeHead]
     refine ⟨?_, ?_, ?_, ?_, trivial⟩
     iterate 3
      · intro v w5 hC hd K hK
        obtain ⟨p0, p1, p2, p3⟩ := HAw.out w5 hC
        rw [← hfr] at hK ⊢
        go_simp
        exact hK _ _ hC (wkPhi_stays (Below.refl _ _)) rfl
     · intro v w5 hC hd K hK
       obtain ⟨(e1 : v 1 = _), (e2 : v 2 = _), -⟩ := hd
       rw [← hfr] at hK ⊢
       simp only [e1, e2] at hK ⊢
       go_simp
       refine (HC1.out w5).mono ?_
       rintro e w6 ⟨y, rfl, own4, hb4⟩
       exact hK _ _ (hC.trans (hb4.mono hC.size)) (wkPhi_stays hb4) ⟨y, rfl, own_down own4 hC.size⟩
   intro v w5 hC hall
   obtain ⟨y, e3, hy⟩ : ∃ y, v 3 = y ∧ w5.ownsRow Y.heap.size 25 2 y Lq.length (Lq.flatMap perCells) := hall.2
   have e0 : v 0 = .slice aa L.length ca := hall.1.1.1.2
   have HRX := hZ9 (show RecAt perCells 2 w5 y Lq from RecAt.own (fun _ => rfl) hy)
   have HownU := hZ9 (ownsRow_below Hown.out hC)
   have Hrow5 := hZ9 ((hC.block _ habY).trans Hrow.out)
   have Hb5 := hZ9 (Hw0.out.trans (HWY.out.trans (hC.mono hYB)))
   have hbs : B ≤ w5.heap.size := Nat.le_trans hYB hC.size
   simp only [List.take_succ_cons, List.take_zero, List.map_cons, List.map_nil, putsL, List.setIfInBounds_toArray, List.set_cons_succ, List.set_cons_zero, Nat.zero_add, Nat.reduceAdd, List.drop_succ_cons, List.drop_zero]
   simp only [e0, e3]
   generalize v 1 = y1, v 2 = y2
   clear e0 e3 hy hall hC v HAw HC1
   refine append_pe rfl _ _ rfl B hbs _ _ L Lq rfl rfl HownU.out HRX.out (by omega) ?_
   intro R hR v7 w7 own7 hg7
   obtain ⟨a7, c7, rfl, -, -⟩ := own_shape own7
   have Hne := hZ9 (own_other HownU.out Hrow5.out (by decide))
   have Hrow7 := hZ9 ((hg7.block ab (ltB9 Hrow5.out) (fun h => Hne.out h.symm)).trans Hrow5.out)
   have Hb7 := hZ9 (Hb5.out.grown hg7 hbs (fun g hg => (ownsRow_block HownU.out g hg).1))
   have Own7 := hZ9 own7
   have Hne7 := hZ9 (own_other own7 Hrow7.out (by decide))
   have f0 := frozen_of_row w7 _ 0 _ _ Hrow7.out
   have g0 := cell_of_row w7 _ 0 _ _ _ Hrow7.out
   have HRe := hZ9 (show R = L ++ wk by rw [hR.out, HE.out])
   have HBx := hZ9 (show PeBox B ab R (w7.setCell ⟨ab, 0, none⟩ (.slice a7 R.length c7)) from ⟨a7, c7, row_set _ Hrow7.out, own_setCell1 Own7.out Hne7.out⟩)
   clear own7 hg7 hR hbs
   go_wp2
   go_end0
   exact ⟨rfl, by rw [← HRe.out]; exact HBx.out, Hb7.out.setCell hab _⟩
theorem pcyc_calls (l : List Ev) (ac : Int) (v : Value) (X : List HoX) (a t : Int) (w : World) (hX : RecAt (hoCells ac) 4 w v X) (hr : ∀ x ∈ X, HoRd l w x) (ha : 1 ≤ a) (hb : a ≤ 28) (h0 : 0 ≤ t) (h1 : t < 12622780800) (hin : ∀ p ∈ heldA l (X.map (·.h)), 0 ≤ p.1 ∧ p.1 < p.2 ∧ p.2 ≤ 12622780800) (hlen : ((heldA l (X.map (·.h))).flatMap (walkC a t)).length ≤ 1600) :
 Calls Tryz.prog 55 #[v, .int .i64 a, .int .i64 t] w (CycTo a (heldA l (X.map (·.h))) t w) := by
 have HRef := hZ9 (cycs_prog ha hb hin h0 h1)
 have hA : heldA l (X.map (·.h)) = X.flatMap (fun x => actL x.h.1 x.h.2 l) := by unfold heldA; rw [List.flatMap_map]
 have hA2 : (heldA l (X.map (·.h))).flatMap (walkC a t) = X.flatMap (fun x => (actL x.h.1 x.h.2 l).flatMap (walkC a t)) := by rw [hA, List.flatMap_assoc]
 rw [hA2] at HRef hlen
 have HPre := hZ9 (flat_pre (fun x : HoX => (actL x.h.1 x.h.2 l).flatMap (walkC a t)) X)
 have HFt := hZ9 (flat_take (fun x : HoX => (actL x.h.1 x.h.2 l).flatMap (walkC a t)) X)
 have HPr2 := hZ9 (flat_pre (walkC a t))
 have HFt2 := hZ9 (flat_take (walkC a t))
 obtain ⟨W, hW, r0, r1, hw0, hz0⟩ := two_rows2 w (Obj.cells #[.int .i64 a] 3) (Obj.cells #[.int .i64 t] 3)
 have HX := hZ9 (hX.below hw0)
 have Hr := hZ9 (fun x hx => (hr x hx).below hw0)
 have HSp := hZ9 (fun A => choose_span (C := chooseL A [] true false) rfl)
 have Ha := hZ9 (And.intro ha hb)
 have Ht := hZ9 (And.intro h0 h1)
 have Hw0 := hZ9 hw0
 have HW := hZ9 hW
 have R0 := hZ9 r0
 have R1 := hZ9 r1
 obtain ⟨Y, hY⟩ : ∃ Y, Y = W.alloc (Obj.cells #[.slice none 0 0] 85) := ⟨_, rfl⟩
 have hbY : Below W.heap.size W Y := by rw [hY]; exact (Below.refl _ _).alloc (Nat.le_refl _) _
 have YN := hZ9 (show Y.heap[W.heap.size]? = some (Obj.cells #[.slice none 0 0] 85) by rw [hY]; exact heap_alloc_new _ _)
 have HbY := hZ9 hbY
 have HPb := hZ9 (show PeBox W.heap.size W.heap.size [] Y from ⟨none, 0, YN.out, World.ownsRow_nil _ _ _ _⟩)
 have HY := hZ9 hY
 have HCl := hZ9 (show ∀ (p : Int × Int) (L : List (Int × Int)) (w1 : World), Below W.heap.size W w1 → PeBox W.heap.size W.heap.size L w1 → L.length + (walkC a t p).length ≤ 2000 → Calls Tryz.prog 90 #[.agg #[.int .i64 p.1, .int .i64 p.2], .pointer (some ⟨w.heap.size + 1, 0, none⟩), .pointer (some ⟨W.heap.size, 0, none⟩), .pointer (some ⟨w.heap.size, 0, none⟩)] w1 fun e w' => e = .returned (.tuple #[]) ∧ PeBox W.heap.size W.heap.size (L ++ walkC a t p) w' ∧ Below W.heap.size w1 w' from fun p L w1 hb1 hbx hll =>
  walk1_calls W.heap.size (w.heap.size + 1) W.heap.size w.heap.size a t p L w1 ha hb h0 h1 hb1.size (Nat.le_refl _) (by omega) (by omega) (cell_of_row w1 _ 0 _ _ _ ((hb1.block _ (by omega)).trans r1)) (cell_of_row w1 _ 0 _ _ _ ((hb1.block _ (by omega)).trans r0)) hbx hll)
 obtain ⟨av, cap, rfl, hlc, hcm⟩ := rec_shape hX
 unfold maxLen at hcm
 clear hX hr hA hA2 hin h0 h1 ha hb hW r0 r1 hw0 hY hbY
 generalize heldA l (X.map (·.h)) = AA at *
 go_enter Tryz.func55, Tryz.ntmps55
 go_upto_region 1 with (fail)
 rw [← HW.out]
 go_upto_region 2 with (fail)
 rw [← HY.out]
 go_wp2_with fail
 go_loopw [19] (fun i wr => ∃ (k : Nat) (O : List (Int × Int)), k ≤ X.length ∧ i = .int .i64 k ∧ RowKit.Hid (O = (X.take k).flatMap (fun x => (actL x.h.1 x.h.2 l).flatMap (walkC a t))) ∧ PeBox W.heap.size W.heap.size O wr ∧ Below W.heap.size W wr) (fun i _ => X.length - (intOf i).toNat)
 case atStart => exact ⟨0, [], Nat.zero_le _, rfl, hZ9 rfl, HPb.out, HbY.out⟩
 case round =>
  obtain ⟨wo, rfl⟩ : ∃ wo : World, wo = wr := ⟨_, rfl⟩
  obtain ⟨k, O, hk, rfl, HO, hbox, hb⟩ := hrel
  have Hbox := hZ9 hbox
  have Hb := hZ9 hb
  by_cases hlt : k < X.length
  · have hk1 : (k : Int) < (X.length : Int) := by omega
    have hk0 : (0 : Int) ≤ (k : Int) := Int.natCast_nonneg _
    have HTk := hZ9 (HFt.out k hlt)
    have HPk := hZ9 (HPre.out (k + 1))
    have HAc := hZ9 ((Hr.out _ (List.getElem_mem hlt)).1)
    obtain ⟨a3, c3, e3, -, -, hx⟩ := HX.out.below hb
    cases e3
    obtain ⟨bb, o, rfl, hB, hx⟩ := hx (by rintro rfl; cases hlt)
    have hx := hx k hlt
    have x0 : wo.cell? ⟨bb, o + k * 4, none⟩ = some (.int .i64 ac) := hx 0 (by decide)
    have x1 : wo.cell? ⟨bb, o + k * 4 + 1, none⟩ = some (.int .i64 (X[k]).h.1) := hx 1 (by decide)
    have x2 : wo.cell? ⟨bb, o + k * 4 + 2, none⟩ = some (.string (X[k]).h.2) := hx 2 (by decide)
    have x3 : wo.cell? ⟨bb, o + k * 4 + 3, none⟩ = some (.slice (X[k]).pa (X[k]).pn (X[k]).pc) := hx 3 (by decide)
    clear hx hbox
    generalize X[k] = x at *
    rw [HTk.out, List.length_append] at HPk
    rw [← HO.out] at HPk
    have HRel := hZ9 (show ∀ (Q : List (Int × Int)) (wx : World), Q = O ++ (actL x.h.1 x.h.2 l).flatMap (walkC a t) → PeBox W.heap.size W.heap.size Q wx → Below W.heap.size W wx → ∃ (k' : Nat) (O : List (Int × Int)), k' ≤ X.length ∧ Value.int .i64 ((k : Int) + 1) = .int .i64 k' ∧ RowKit.Hid (O = (X.take k').flatMap (fun x => (actL x.h.1 x.h.2 l).flatMap (walkC a t))) ∧ PeBox W.heap.size W.heap.size O wx ∧ Below W.heap.size W wx from fun Q wx h1 h2 h3 => ⟨k + 1, Q, hlt, by go_num, hZ9 (by rw [HTk.out, ← HO.out]; exact h1), h2, h3⟩)
    generalize actL x.h.1 x.h.2 l = A at *
    obtain ⟨aA, cA, eA, hA1, hA2⟩ := pers_shape HAc.out
    simp only [Value.slice.injEq] at eA
    obtain ⟨eA1, eA2, eA3⟩ := eA
    rw [eA1, eA2, eA3] at x3
    have HAc := hZ9 (show PersAt W (.slice aA A.length cA) A by
     have h := HAc.out
     rwa [eA1, eA2, eA3] at h)
    unfold maxLen at hA2
    clear eA1 eA2 eA3
    obtain ⟨U, hU⟩ : ∃ U, U = wo.alloc (Obj.cells #[.int .i64 ac, .int .i64 x.h.1, .string x.h.2, .slice aA A.length cA] 118) := ⟨_, rfl⟩
    have hbU : Below wo.heap.size wo U := by rw [hU]; exact (Below.refl _ _).alloc (Nat.le_refl _) _
    have UN := hZ9 (show U.heap[wo.heap.size]? = some (Obj.cells #[.int .i64 ac, .int .i64 x.h.1, .string x.h.2, .slice aA A.length cA] 118) by rw [hU]; exact heap_alloc_new _ _)
    have HbU := hZ9 (hb.trans (hbU.mono hb.size))
    have HboxU := hZ9 (Hbox.out.below hbU)
    have HU := hZ9 hU
    have u3 := cell_of_row U _ 3 _ _ _ UN.out
    have HP2 := hZ9 (HPr2.out A)
    have HF2 := hZ9 (HFt2.out A)
    clear hU hbU hb
    go_upto_region 6 with (fail)
    rw [← HU.out]
    go_wp2_with fail
    clear x0 x1 x2 x3 u3
    go_loopw [26] (fun i wr => ∃ (j : Nat) (Q : List (Int × Int)), j ≤ A.length ∧ i = .int .i64 j ∧ RowKit.Hid (Q = O ++ (A.take j).flatMap (walkC a t)) ∧ PeBox W.heap.size W.heap.size Q wr ∧ Below W.heap.size W wr) (fun i _ => A.length - (intOf i).toNat)
    case atStart => exact ⟨0, O, Nat.zero_le _, rfl, hZ9 (by simp), HboxU.out, HbU.out⟩
    case round =>
     obtain ⟨wi, rfl⟩ : ∃ wi : World, wi = wr := ⟨_, rfl⟩
     obtain ⟨j, Q, hj, rfl, HQ, hbox, hb⟩ := hrel
     have HboxI := hZ9 hbox
     have HbI := hZ9 hb
     by_cases hjt : j < A.length
     · have hj1 : (j : Int) < (A.length : Int) := by omega
       have hj0 : (0 : Int) ≤ (j : Int) := Int.natCast_nonneg _
       have HTj := hZ9 (HF2.out j hjt)
       have hql : Q.length + (walkC a t A[j]).length ≤ 2000 := by
        have h1 := HP2.out (j + 1)
        rw [HTj.out, List.length_append] at h1
        have h2 := congrArg List.length HQ.out
        rw [List.length_append] at h2
        have := HPk.out
        omega
       obtain ⟨a4, c4, e4, -, -, hx⟩ := HAc.out.below hb
       cases e4
       obtain ⟨b2, o2, rfl, hB2, hx⟩ := hx (by rintro rfl; cases hjt)
       obtain ⟨y0, y1⟩ := hx j hjt
       clear hx hbox
       generalize A[j] = p at *
       obtain ⟨Z, hZ⟩ : ∃ Z, Z = wi.alloc (Obj.cells #[.int .i64 p.1, .int .i64 p.2] 25) := ⟨_, rfl⟩
       have hbZ : Below wi.heap.size wi Z := by rw [hZ]; exact (Below.refl _ _).alloc (Nat.le_refl _) _
       have ZN := hZ9 (show Z.heap[wi.heap.size]? = some (Obj.cells #[.int .i64 p.1, .int .i64 p.2] 25) by rw [hZ]; exact heap_alloc_new _ _)
       have HbZ := hZ9 (hb.trans (hbZ.mono hb.size))
       have HCa := hZ9 (HCl.out p Q Z HbZ.out (HboxI.out.below hbZ) hql)
       have HZ := hZ9 hZ
       have z0 := cell_of_row Z _ 0 _ _ _ ZN.out
       have z1 := cell_of_row Z _ 1 _ _ _ ZN.out
       clear hZ hbZ hb hql
       go_upto_region 9 with (fail)
       rw [← HZ.out]
       go_wp2_with fail
       refine HCa.out.mono ?_
       rintro e w5 ⟨rfl, hbx5, hb5⟩
       have Hbx5 := hZ9 hbx5
       have Hb5 := hZ9 (HbZ.out.trans hb5)
       have HQ5 := hZ9 (show Q ++ walkC a t p = O ++ (A.take (j + 1)).flatMap (walkC a t) by rw [HTj.out, HQ.out, List.append_assoc])
       clear hbx5 hb5 y0 y1 z0 z1
       go_wp2
       exact ⟨⟨j + 1, _, by omega, by go_num, HQ5, Hbx5.out, Hb5.out⟩, by simp [intOf]; omega⟩
     have HF := hZ9 (HRel.out Q wi (by rw [HQ.out, List.take_of_length_le (by omega)]) hbox hb)
     clear hbox hb
     go_wp2
     exact ⟨HF.out, by simp [intOf]; omega⟩
  have HE := hZ9 (show O = X.flatMap (fun x => (actL x.h.1 x.h.2 l).flatMap (walkC a t)) by rw [HO.out, List.take_of_length_le (by omega)])
  have HRef := hZ9 (show CycsOk a AA t ((chooseL O [] true false).flatMap (cycOf a)) by rw [HE.out]; exact HRef.out)
  obtain ⟨aa, ca, hrow, hown⟩ := hbox.ex
  have c0 := cell_of_row wo _ 0 _ _ _ hrow
  have hOl : O.length ≤ 2000 := by rw [HE.out]; omega
  have HC1 := hZ9 (cover_calls _ O wo (PersAt.own hown) hOl)
  have HSp1 := hZ9 (HSp.out O)
  generalize chooseL O [] true false = C at *
  have HB1 := hZ9 (cycs_bound HRef.out)
  have R00 := hZ9 ((hb.block _ (by omega)).trans R0.out)
  clear hrow hown hb hbox
  go_wp2_with fail
  refine HC1.out.mono ?_
  rintro e w3 ⟨vC, rfl, hpC, hb3⟩
  obtain ⟨aC, cC, rfl, hC1, hC2⟩ := pers_shape hpC
  unfold maxLen at hC2
  have HpC := hZ9 hpC
  have Hb3 := hZ9 (Hb.out.trans (hb3.mono Hb.out.size))
  have R03 := hZ9 ((hb3.block _ (ltB9 R00.out)).trans R00.out)
  have HFc := hZ9 (flat_take (cycOf a) C)
  have HPc := hZ9 (flat_pre (cycOf a) C)
  have HCy := hZ9 (show ∀ p, p ∈ C → ∀ W, Calls Tryz.prog 92 #[.int .i64 a, .agg #[.int .i64 p.1, .int .i64 p.2]] W (PersTo W (cycOf a p)) from fun p hp W => by
   obtain ⟨s0, s1, s2⟩ := HSp1.out p hp
   exact cycles_calls a p.1 p.2 _ _ W Ha.out.1 Ha.out.2 ((validB_iff _ _).2 ⟨s0, s1, s2⟩) (moOf_is s0 (by omega)) (moOf_is (by omega) (by omega)))
  clear hpC hb3 c0 HSp1 HC1
  go_wp2_with fail
  go_loopw [13, 38] (fun vo i wr => ∃ (k : Nat) (Q : List (Int × Int)), k ≤ C.length ∧ i = .int .i64 k ∧ RowKit.Hid (Q = (C.take k).flatMap (cycOf a)) ∧ wr.ownsRow w3.heap.size 25 2 vo Q.length (Q.flatMap perCells) ∧ Below w3.heap.size w3 wr) (fun _ i _ => C.length - (intOf i).toNat)
  case atStart => exact ⟨0, [], Nat.zero_le _, rfl, hZ9 rfl, World.ownsRow_nil _ _ _ _, Below.refl _ _⟩
  case round =>
   obtain ⟨wq, rfl⟩ : ∃ wq : World, wq = wr := ⟨_, rfl⟩
   obtain ⟨i, Q, hi, rfl, HQ, hown, hb⟩ := hrel
   obtain ⟨aq, cq, rfl, hc1, hc2⟩ := own_shape hown
   unfold maxLen at hc2
   have Hown0 := hZ9 hown
   have Hb0 := hZ9 hb
   by_cases hit : i < C.length
   · have hi1 : (i : Int) < (C.length : Int) := by omega
     have hi0 : (0 : Int) ≤ (i : Int) := Int.natCast_nonneg _
     have HTi := hZ9 (HFc.out i hit)
     have hql : Q.length + (cycOf a C[i]).length ≤ 4801 := by
      have h1 := HPc.out (i + 1)
      rw [HTi.out, List.length_append, ← HQ.out] at h1
      exact Nat.le_trans h1 HB1.out
     have HCp := hZ9 (HCy.out C[i] (List.getElem_mem hit))
     obtain ⟨a3, c3, e3, -, -, hx⟩ := HpC.out.below hb
     cases e3
     obtain ⟨bb, o, rfl, hB, hx⟩ := hx (by rintro rfl; cases hit)
     obtain ⟨x0, x1⟩ := hx i hit
     have R0q := hZ9 ((hb.block _ (ltB9 R03.out)).trans R03.out)
     clear hx hown
     generalize C[i] = p at *
     generalize cycOf a p = Lq at *
     obtain ⟨Z, hZ⟩ : ∃ Z, Z = wq.alloc (Obj.cells #[.int .i64 p.1, .int .i64 p.2] 25) := ⟨_, rfl⟩
     have hbZ : Below wq.heap.size wq Z := by rw [hZ]; exact (Below.refl _ _).alloc (Nat.le_refl _) _
     have ZN := hZ9 (show Z.heap[wq.heap.size]? = some (Obj.cells #[.int .i64 p.1, .int .i64 p.2] 25) by rw [hZ]; exact heap_alloc_new _ _)
     have HbZ := hZ9 (hb.trans (hbZ.mono hb.size))
     have HownZ := hZ9 (ownsRow_below Hown0.out hbZ)
     have HZ := hZ9 hZ
     have z0 := cell_of_row Z _ 0 _ _ _ ZN.out
     have z1 := cell_of_row Z _ 1 _ _ _ ZN.out
     have n0 := cell_of_row Z _ 0 _ _ _ ((hbZ.block _ (ltB9 R0q.out)).trans R0q.out)
     clear hZ hbZ hb
     go_upto_region 16 with (fail)
     rw [← HZ.out]
     go_wp2_with fail
     refine (HCp.out Z).mono ?_
     rintro e w5 ⟨vL, rfl, hpL, hb5⟩
     have HRX := hZ9 (rec_of_pers hpL)
     have HownU := hZ9 (ownsRow_below HownZ.out hb5)
     have Hb5 := hZ9 (HbZ.out.trans (hb5.mono HbZ.out.size))
     have hbs := Hb5.out.size
     clear hpL hb5 x0 x1 z0 z1 n0
     go_wp2_with (at_builtin; refine append_pe rfl _ _ rfl w3.heap.size hbs _ _ Q Lq rfl rfl HownU.out HRX.out (by omega) ?_)
     intro R hR v7 w7 own7 hg7
     have HRe := hZ9 (show R = (C.take (i + 1)).flatMap (cycOf a) by rw [hR.out, HTi.out, ← HQ.out])
     have Own7 := hZ9 own7
     have Hb7 := hZ9 (Hb5.out.grown hg7 hbs (fun g hg => (ownsRow_block HownU.out g hg).1))
     clear own7 hg7 hR hbs
     go_wp2
     exact ⟨⟨i + 1, R, by omega, by go_num, HRe, Own7.out, Hb7.out⟩, by simp [intOf]; omega⟩
   have HE := hZ9 (show Q = C.flatMap (cycOf a) by rw [HQ.out, List.take_of_length_le (by omega)])
   have HbF := hZ9 (Hw0.out.trans ((Hb3.out.trans (hb.mono Hb3.out.size)).mono Hw0.out.size))
   clear hown hb
   go_wp2
   go_ret
   exact ⟨Q, by rw [HE.out]; exact HRef.out, _, rfl, PersAt.own Hown0.out, HbF.out⟩
theorem fewB_no {l : List Ev} {P : List Pd} {b w c : Nat} {t : Int} (h : ¬ (l.length ≤ 40 ∧ P.length ≤ 8 ∧ b ≤ 60 ∧ w ≤ 40 ∧ c ≤ 40 ∧ (∀ p ∈ P, p.bs.length ≤ 4))) : fewB l P b w c t = false := by
 cases hq : fewB l P b w c t with
 | false => rfl
 | true => obtain ⟨h1, h2, h3, h4, h5, h6, -⟩ := fewB_is hq; exact absurd ⟨h1, h2, h3, h4, h5, h6⟩ h
theorem fewB_last {l : List Ev} {P : List Pd} {b w c : Nat} {t : Int} (h : l.length ≤ 40 ∧ P.length ≤ 8 ∧ b ≤ 60 ∧ w ≤ 40 ∧ c ≤ 40 ∧ (∀ p ∈ P, p.bs.length ≤ 4)) : fewB l P b w c t = (decide (l.length = 0) || decide (t < 69120000) || decide (t - 69120000 < (l.getD 0 default).tm)) := by
 obtain ⟨h1, h2, h3, h4, h5, h6⟩ := h
 unfold fewB
 rw [decide_eq_true h1, decide_eq_true h2, decide_eq_true h3, decide_eq_true h4, decide_eq_true h5, List.all_eq_true.2 (fun p hp => decide_eq_true (h6 p hp))]
 simp
theorem few35_calls (ve vp : Value) (ba wa ca : Option Addr) (bn wn cn bc wc cc : Nat) (l : List Ev) (P : List Pd) (t : Int) (w : World) (he : EvsAt w ve l) (hp : PdsAt w vp P) (hbn : bn ≤ maxLen) (hwn : wn ≤ maxLen) (hcn : cn ≤ maxLen) (ht1 : -9223372036854775808 ≤ t) (ht2 : t ≤ 9223372036854775807) :
 Calls Tryz.prog 36 #[ve, vp, .agg #[.slice ba bn bc, .slice wa wn wc, .slice ca cn cc], .int .i64 t] w fun e w' => e = .returned (.bool (fewB l P bn wn cn t)) ∧ Below w.heap.size w w' := by
 unfold maxLen at hbn hwn hcn
 obtain ⟨W, hW⟩ : ∃ W, W = w.alloc (Obj.cells #[.slice ba bn bc, .slice wa wn wc, .slice ca cn cc] 45) := ⟨_, rfl⟩
 have hw0 : Below w.heap.size w W := by rw [hW]; exact (Below.refl _ _).alloc (Nat.le_refl _) _
 have rW : W.heap[w.heap.size]? = some (Obj.cells #[.slice ba bn bc, .slice wa wn wc, .slice ca cn cc] 45) := by rw [hW]; exact heap_alloc_new _ _
 have s0 := cell_of_row W _ 0 _ _ _ rW
 have s1 := cell_of_row W _ 1 _ _ _ rW
 have s2 := cell_of_row W _ 2 _ _ _ rW
 have HW := hZ9 hW
 have Hw0 := hZ9 hw0
 have HE := hZ9 (he.below hw0)
 have HP := hZ9 (hp.below hw0)
 obtain ⟨av, cap, rfl, hlc, hcm⟩ := rec_shape he.1
 obtain ⟨pav, pcap, rfl, hpc, hpm, -⟩ := hp
 have hpm := hpm.1
 unfold maxLen at hcm hpm
 clear hW hw0 rW he
 by_cases e1 : 40 < l.length
 · have qe1 : (40 : Int) < (l.length : Int) := by omega
   have HN := hZ9 (show fewB l P bn wn cn t = false from fewB_no (fun h => by omega))
   go_enter Tryz.func36, Tryz.ntmps36
   go_upto_region 1 with (fail)
   rw [← HW.out]
   go_wp2
   go_ret
   exact ⟨ret_bool HN.out.symm, Hw0.out⟩
 have qe1 : ¬ (40 : Int) < (l.length : Int) := by omega
 by_cases e2 : 8 < P.length
 · have qe2 : (8 : Int) < (P.length : Int) := by omega
   have HN := hZ9 (show fewB l P bn wn cn t = false from fewB_no (fun h => by omega))
   go_enter Tryz.func36, Tryz.ntmps36
   go_upto_region 1 with (fail)
   rw [← HW.out]
   go_wp2
   go_ret
   exact ⟨ret_bool HN.out.symm, Hw0.out⟩
 have qe2 : ¬ (8 : Int) < (P.length : Int) := by omega
 by_cases e3 : 60 < bn
 · have qe3 : (60 : Int) < (bn : Int) := by omega
   have HN := hZ9 (show fewB l P bn wn cn t = false from fewB_no (fun h => by omega))
   go_enter Tryz.func36, Tryz.ntmps36
   go_upto_region 1 with (fail)
   rw [← HW.out]
   go_wp2
   go_ret
   exact ⟨ret_bool HN.out.symm, Hw0.out⟩
 have qe3 : ¬ (60 : Int) < (bn : Int) := by omega
 by_cases e4 : 40 < wn
 · have qe4 : (40 : Int) < (wn : Int) := by omega
   have HN := hZ9 (show fewB l P bn wn cn t = false from fewB_no (fun h => by omega))
   go_enter Tryz.func36, Tryz.ntmps36
   go_upto_region 1 with (fail)
   rw [← HW.out]
   go_wp2
   go_ret
   exact ⟨ret_bool HN.out.symm, Hw0.out⟩
 have qe4 : ¬ (40 : Int) < (wn : Int) := by omega
 by_cases e5 : 40 < cn
 · have qe5 : (40 : Int) < (cn : Int) := by omega
   have HN := hZ9 (show fewB l P bn wn cn t = false from fewB_no (fun h => by omega))
   go_enter Tryz.func36, Tryz.ntmps36
   go_upto_region 1 with (fail)
   rw [← HW.out]
   go_wp2
   go_ret
   exact ⟨ret_bool HN.out.symm, Hw0.out⟩
 have qe5 : ¬ (40 : Int) < (cn : Int) := by omega
 go_enter Tryz.func36, Tryz.ntmps36
 go_upto_region 1 with (fail)
 rw [← HW.out]
 go_wp2_with fail
 go_loop [9] (fun i => ∃ k : Nat, k ≤ P.length ∧ i = .int .i64 k ∧ RowKit.Hid (∀ j (hj : j < P.length), j < k → (P[j]).bs.length ≤ 4)) (fun i => P.length - (intOf i).toNat)
 case atStart => exact ⟨0, Nat.zero_le _, rfl, hZ9 (fun j _ h => by omega)⟩
 case round =>
  obtain ⟨k, hk, rfl, Hn⟩ := hrel
  by_cases hlt : k < P.length
  · have hk1 : (k : Int) < (P.length : Int) := by omega
    have hk0 : (0 : Int) ≤ (k : Int) := Int.natCast_nonneg _
    obtain ⟨av2, cap2, ee, -, -, hx⟩ := HP.out
    cases ee
    obtain ⟨b1, o1, rfl, hB1, hx⟩ := hx (by rintro rfl; cases hlt)
    obtain ⟨-, -, -, -, -, bv, u5, hbv⟩ := hx k hlt
    obtain ⟨ab, cb, rfl, hb1, hb2, -⟩ := hbv
    have hb2 := hb2.1
    unfold maxLen at hb2
    have HNx := hZ9 (show (P[k]).bs.length ≤ 4 → ∀ j (hj : j < P.length), j < k + 1 → (P[j]).bs.length ≤ 4 from fun h j hj hjk => by
     by_cases e : j = k
     · subst e; exact h
     exact Hn.out j hj (by omega))
    have HBad := hZ9 (show ¬ (P[k]).bs.length ≤ 4 → fewB l P bn wn cn t = false from fun h => fewB_no (fun hh => h (hh.2.2.2.2.2 _ (List.getElem_mem hlt))))
    clear hx
    generalize (P[k]).bs.length = m at *
    by_cases hm : m ≤ 4
    · have HE2 := hZ9 (HNx.out hm)
      have hm2 : ¬ (4 : Int) < (m : Int) := by omega
      clear hm
      go_wp2
      exact ⟨⟨k + 1, by omega, by go_num, HE2⟩, by simp [intOf]; omega⟩
    have HE2 := hZ9 (HBad.out hm)
    have hm2 : (4 : Int) < (m : Int) := by omega
    clear hm
    go_wp2
    go_ret
    exact ⟨ret_bool HE2.out.symm, Hw0.out⟩
  have HF := hZ9 (show fewB l P bn wn cn t = (decide (l.length = 0) || decide (t < 69120000) || decide (t - 69120000 < (l.getD 0 default).tm)) from fewB_last ⟨by omega, by omega, by omega, by omega, by omega, fun p hp => by
   obtain ⟨j, hj, rfl⟩ := List.mem_iff_getElem.1 hp
   exact Hn.out j hj (by omega)⟩)
  by_cases h0 : l.length = 0
  · have hz : ((l.length : Int) == 0) = true := beq_iff_eq.2 (by omega)
    have HR := hZ9 (show (decide (l.length = 0) || decide (t < 69120000) || decide (t - 69120000 < (l.getD 0 default).tm)) = true by rw [decide_eq_true h0]; rfl)
    clear h0
    go_wp2
    go_ret
    exact ⟨ret_bool (by rw [HF.out, HR.out]), Hw0.out⟩
  have hz : ((l.length : Int) == 0) = false := beq_eq_false_iff_ne.2 (by omega)
  have hlp : (0 : Int) < (l.length : Int) := by omega
  have hln : 0 < l.length := by omega
  by_cases htl : t < 69120000
  · have HR := hZ9 (show (decide (l.length = 0) || decide (t < 69120000) || decide (t - 69120000 < (l.getD 0 default).tm)) = true by rw [decide_eq_true htl]; simp)
    go_wp2
    go_ret
    exact ⟨ret_bool (by rw [HF.out, HR.out]), Hw0.out⟩
  obtain ⟨av2, cap2, ee, -, -, hx⟩ := HE.out.1
  cases ee
  obtain ⟨b1, o1, rfl, hB1, hx⟩ := hx (by rintro rfl; simp at hln)
  have x0 : W.cell? ⟨b1, o1, none⟩ = some (.int .i64 (l.getD 0 default).tm) := by
   have h := hx 0 hln 0 (by decide)
   simp only [Nat.zero_mul, Nat.add_zero] at h
   rw [h]
   simp [evCells, List.getD, hln]
  have HR := hZ9 (show (decide (l.length = 0) || decide (t < 69120000) || decide (t - 69120000 < (l.getD 0 default).tm)) = decide (t - 69120000 < (l.getD 0 default).tm) by rw [decide_eq_false h0, decide_eq_false htl]; rfl)
  clear hx h0
  generalize (l.getD 0 default).tm = t0 at *
  go_wp2
  go_ret
  exact ⟨ret_bool (by rw [HF.out, HR.out]), Hw0.out⟩
theorem prodsE_all : ∀ (P : List Pd) (q : Option Pd), prodsE q P = 0 → ∀ p ∈ P, prodE p = 0
 | [], _, _ => fun p hp => by cases hp
 | a :: r, q, h => by
   unfold prodsE at h
   by_cases hc : prodE a ≠ 0
   · rw [if_pos hc] at h; exact absurd h hc
   rw [if_neg hc] at h
   have key : ∀ c : Bool, (if c = true then (9 : Int) else prodsE (some a) r) = 0 → prodsE (some a) r = 0 := fun c hh => by
    cases c
    · simpa using hh
    cases hh
   have h2 := key _ h
   intro p hp
   rcases List.mem_cons.1 hp with rfl | hp
   · exact Decidable.not_not.1 hc
   exact prodsE_all r _ h2 p hp
theorem bundlesE_all : ∀ (B : List Bd), bundlesE B = 0 → ∀ b ∈ B, bundleE b = 0
 | [], _ => fun p hp => by cases hp
 | a :: r, h => by
   unfold bundlesE at h
   split at h
   · rename_i hc; exact absurd h hc
   rename_i hc
   intro p hp
   rcases List.mem_cons.1 hp with rfl | hp
   · exact Decidable.not_not.1 hc
   exact bundlesE_all r h p hp
structure PdOk (p : Pd) : Prop where
 nm : isName p.nm = true
 fm : 0 ≤ p.fm ∧ p.fm < 12622780800
 fe : 0 ≤ p.fe ∧ p.fe ≤ 1125899906842624
 ct : isName p.ct = true
 bs : ∀ b ∈ p.bs, 1 ≤ b.kd ∧ b.kd ≤ 4 ∧ b.ok ∧ b.zs.length ≤ 64 ∧ b.zs.all isName = true
theorem prodE_ok {p : Pd} (h : prodE p = 0) : PdOk p := by
 unfold prodE at h
 split at h
 · cases h
 rename_i h1
 split at h
 · cases h
 rename_i h2
 split at h
 · cases h
 rename_i h3
 split at h
 · cases h
 rename_i h4
 split at h
 · cases h
 refine ⟨by simpa using h1, by omega, by omega, by simpa using h4, fun b hb => ?_⟩
 have hE := bundlesE_all _ h b hb
 unfold bundleE at hE
 split at hE
 · cases hE
 rename_i k1
 split at hE
 · rename_i k2; exact absurd hE k2
 rename_i k2
 split at hE
 · cases hE
 rename_i k3
 have hz : zonesE b.zs = 0 := Decidable.not_not.1 k2
 unfold zonesE at hz
 split at hz
 · cases hz
 rename_i z1
 split at hz
 · cases hz
 rename_i z2
 exact ⟨by omega, by omega, Decidable.not_not.1 k3, by omega, by simpa using z2⟩
theorem checkE_ok {P : List Pd} (h : checkE P = 0) : P.length ≤ 4096 ∧ ∀ p ∈ P, PdOk p := by
 unfold checkE at h
 split at h
 · cases h
 exact ⟨by omega, fun p hp => prodE_ok (prodsE_all P none h p hp)⟩
structure Case44 (l : List Ev) (P : List Pd) : Prop where
 le : l.length ≤ 40
 lp : P.length ≤ 8
 r : OkRun l
 f : FewP P
 b : ∀ p ∈ P, p.bs.length ≤ 4
 ok : ∀ p ∈ P, PdOk p
theorem case44 {l : List Ev} {P : List Pd} {b w c : Nat} {t : Int} (h : fewB l P b w c t = true) (hr : OkRun l) (hc : checkE P = 0) : Case44 l P := by
 obtain ⟨h1, h2, -, -, -, h6, -⟩ := fewB_is h
 obtain ⟨c1, c2⟩ := checkE_ok hc
 exact ⟨h1, h2, hr, ⟨c1, fun p hp => ⟨by have := h6 p hp; omega, fun b hb => by have := (c2 p hp).bs b hb; omega⟩⟩, h6, c2⟩
def TruTo (P : Prop) (w : World) (e : Ending) (w' : World) : Prop := (∃ b, e = .returned (.bool b) ∧ (b = true → P)) ∧ Below w.heap.size w w'
structure Case35 (l : List Ev) (P : List Pd) (bn wn cn : Nat) (t : Int) : Prop where
 c : Case44 l P
 bl : bn ≤ 60
 wl : wn ≤ 40
 cl : cn ≤ 40
 near : NearT l t
theorem case35 {l : List Ev} {P : List Pd} {b w c : Nat} {t : Int} (h : fewB l P b w c t = true) (hr : OkRun l) (hc : checkE P = 0) : Case35 l P b w c t := by
 have h0 := case44 h hr hc
 obtain ⟨-, -, h3, h4, h5, -, h7⟩ := fewB_is h
 refine ⟨h0, h3, h4, h5, ?_⟩
 rcases h7 with h7 | h7 | h7
 · exact Or.inl (List.length_eq_zero_iff.1 h7)
 · exact Or.inr (Or.inl h7)
 refine Or.inr (Or.inr fun hl => ?_)
 rwa [List.getD_eq_getElem?_getD, List.getElem?_eq_getElem hl, Option.getD_some] at h7
theorem valid35_calls (ea pa ba wa ca : Option Addr) (en pn bn wn cn ec pc bc wc cc : Nat) (ac t : Int) (l : List Ev) (P : List Pd) (w : World) (he : EvsAt w (.slice ea en ec) l) (hp : PdsAt w (.slice pa pn pc) P) (hbn : bn ≤ maxLen) (hwn : wn ≤ maxLen) (hcn : cn ≤ maxLen) (ht1 : -9223372036854775808 ≤ t) (ht2 : t ≤ 9223372036854775807) :
 Calls Tryz.prog 18 #[.agg #[.slice ea en ec, .slice pa pn pc, .slice ba bn bc, .slice wa wn wc, .slice ca cn cc, .int .i64 ac], .int .i64 t] w (TruTo (Case35 l P bn wn cn t) w) := by
 obtain ⟨W, hW⟩ : ∃ W, W = w.alloc (Obj.cells #[.slice ea en ec, .slice pa pn pc, .slice ba bn bc, .slice wa wn wc, .slice ca cn cc, .int .i64 ac] 47) := ⟨_, rfl⟩
 have hw0 : Below w.heap.size w W := by rw [hW]; exact (Below.refl _ _).alloc (Nat.le_refl _) _
 have rW : W.heap[w.heap.size]? = some (Obj.cells #[.slice ea en ec, .slice pa pn pc, .slice ba bn bc, .slice wa wn wc, .slice ca cn cc, .int .i64 ac] 47) := by rw [hW]; exact heap_alloc_new _ _
 have hzW : w.heap.size < W.heap.size := (ltB9 rW)
 have HM := hZ9 (show ∀ w', Below W.heap.size W w' → w'.cell? ⟨w.heap.size, 0, none⟩ = some (.slice ea en ec) ∧ w'.cell? ⟨w.heap.size, 1, none⟩ = some (.slice pa pn pc) ∧ w'.cell? ⟨w.heap.size, 2, none⟩ = some (.slice ba bn bc) ∧ w'.cell? ⟨w.heap.size, 3, none⟩ = some (.slice wa wn wc) ∧ w'.cell? ⟨w.heap.size, 4, none⟩ = some (.slice ca cn cc) ∧ w'.cell? ⟨w.heap.size, 5, none⟩ = some (.int .i64 ac) from fun w' hb => by
  have q := (hb.block _ hzW).trans rW
  exact ⟨cell_of_row w' _ 0 _ _ _ q, cell_of_row w' _ 1 _ _ _ q, cell_of_row w' _ 2 _ _ _ q, cell_of_row w' _ 3 _ _ _ q, cell_of_row w' _ 4 _ _ _ q, cell_of_row w' _ 5 _ _ _ q⟩)
 have HW := hZ9 hW
 have Hw0 := hZ9 hw0
 have HE := hZ9 (he.below hw0)
 have HP := hZ9 (hp.below hw0)
 have HFw := hZ9 (few35_calls _ _ ba wa ca bn wn cn bc wc cc l P t W (he.below hw0) (hp.below hw0) hbn hwn hcn ht1 ht2)
 obtain ⟨m0, m1, m2, m3, m4, m5⟩ := HM.out W (Below.refl _ _)
 clear hW rW hw0 he hp
 go_enter Tryz.func18, Tryz.ntmps18
 go_upto_region 1 with (fail)
 rw [← HW.out]
 go_wp2_with fail
 refine HFw.out.mono ?_
 rintro e w1 ⟨rfl, hb1⟩
 have HbW := hZ9 hb1
 have Hb1 := hZ9 (Hw0.out.trans (hb1.mono Hw0.out.size))
 clear m0 m1 m2 m3 m4 m5
 obtain ⟨m0, m1, m2, m3, m4, m5⟩ := HM.out w1 hb1
 clear hb1
 cases hfw : fewB l P bn wn cn t with
 | false =>
   clear hfw m0 m1 m2 m3 m4 m5
   go_wp2
   go_ret
   exact ⟨⟨false, rfl, fun h => by cases h⟩, Hb1.out⟩
 | true =>
   have Hfw := hZ9 hfw
   have HCk := hZ9 (check17_calls _ l w1 (HE.out.below HbW.out) (by have := (fewB_is hfw).1; omega))
   clear hfw
   go_wp2_with fail
   refine HCk.out.mono ?_
   rintro e w2 ⟨p0, r0, rfl, hr0, hb2⟩
   have Hb2W := hZ9 (HbW.out.trans (hb2.mono HbW.out.size))
   have Hb2 := hZ9 (Hb1.out.trans (hb2.mono Hb1.out.size))
   have Hr0 := hZ9 hr0
   clear m0 m1 m2 m3 m4 m5 hb2 hr0
   by_cases hrz : r0 = 0
   · have HOk := hZ9 (Hr0.out hrz)
     subst hrz
     obtain ⟨m0, m1, m2, m3, m4, m5⟩ := HM.out w2 Hb2W.out
     have HPc := hZ9 (rpcheck_calls _ P w2 (HP.out.below Hb2W.out))
     go_wp2_with fail
     refine HPc.out.mono ?_
     rintro e w3 ⟨rfl, hb3⟩
     have Hb3 := hZ9 (Hb2.out.trans (hb3.mono Hb2.out.size))
     clear m0 m1 m2 m3 m4 m5 hb3
     by_cases hcz : checkE P = 0
     · have HC := hZ9 (case35 Hfw.out HOk.out hcz)
       have hc1 : (checkE P == 0) = true := beq_iff_eq.2 hcz
       clear hcz
       generalize checkE P = cE at *
       go_wp2
       go_ret
       exact ⟨⟨_, rfl, fun _ => HC.out⟩, Hb3.out⟩
     have hc1 : (checkE P == 0) = false := beq_eq_false_iff_ne.2 hcz
     clear hcz
     generalize checkE P = cE at *
     go_wp2
     go_ret
     exact ⟨⟨false, rfl, fun h => by cases h⟩, Hb3.out⟩
   have hr1 : (r0 == 0) = false := beq_eq_false_iff_ne.2 hrz
   clear hrz
   go_wp2
   go_ret
   exact ⟨⟨false, rfl, fun h => by cases h⟩, Hb2.out⟩
end Go.Proofs.YtngippiilgdnoaaGreat
