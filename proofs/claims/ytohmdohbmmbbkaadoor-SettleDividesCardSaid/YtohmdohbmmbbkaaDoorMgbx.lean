/-
  The walk of the law on division.
-/
import Derived.Test.YtohmdohbmmbbkaaDoorMgbs
import Derived.Test.YtohmdohbmmbbkaaDoorMgbw
import Derived.Test.YtohmdohbmmbbkaaDoorMgbc
namespace Go.Proofs.YtohmdohbmmbbkaaDoor
open Go.RowKit

theorem Tryd.usInfo : (Tryd.prog.info? 47).map (fun i => (i.zero, i.size, i.bytes)) = some (some (.agg #[.int .i64 0, .int .i64 0, .int .i64 0, .int .i64 0, .string ⟨#[]⟩, .string ⟨#[]⟩, .int .i64 0, .int .i64 0, .int .i64 0, .bool false, .int .i64 0, .int .i64 0]), 12, 112) := by kernel_rfl
def usCells (u : Us) : List Value := u.row.toList
theorem UssAt.own {w : World} {base : Nat} {e : TypeId} {v : Value} {l : List Us} (h : w.ownsRow base e 12 v l.length (l.flatMap usCells)) : UssAt w v l :=
  SliceAt.own usCells (fun _ => rfl) h fun _ _ _ _ h j hj => (h j hj).trans (Array.getElem?_toList ..)
/-- The usages gathered so far. -/
def DivR (pa at0 part : Int) (us : List Us) (B k : Nat) (X : World) (vo : Value) (wx : World) : Prop := wx.ownsRow B 47 12 vo (accO pa at0 part us k).length ((accO pa at0 part us k).flatMap usCells) ∧ Below B X wx

theorem chCells_cn {c d : Chg} (h : noCn c = noCn d) : (chCells d).set 2 (.int .i64 c.cn) = chCells c := by
  unfold noCn at h
  simp only [Prod.mk.injEq] at h
  obtain ⟨h1, h2, h3, h4⟩ := h
  unfold chCells
  rw [h1, h2, h3, h4]
  rfl
theorem set_mix (qs ss : List Chg) (h : qs.map noCn = ss.map noCn) (k : Nat) (h1 : k < qs.length) (h2 : k < ss.length) : ((qs.take k ++ ss.drop k).flatMap chCells).set (k * 5 + 2) (.int .i64 qs[k].cn) = (qs.take (k + 1) ++ ss.drop (k + 1)).flatMap chCells := by
  have hk : noCn qs[k] = noCn ss[k] := by
    have e := congrArg (fun l => l[k]?) h
    simp only [List.getElem?_map, List.getElem?_eq_getElem h1, List.getElem?_eq_getElem h2, Option.map_some, Option.some.injEq] at e
    exact e
  have hl : ((qs.take k).flatMap chCells).length = k * 5 := by rw [flat_length chCells 5 (fun _ => rfl), List.length_take]; omega
  rw [List.take_succ_eq_append_getElem h1, List.drop_eq_getElem_cons h2, List.flatMap_append, List.flatMap_append, List.flatMap_append, List.flatMap_cons, List.flatMap_cons, List.flatMap_nil, List.append_nil, List.append_assoc, List.set_append_right _ _ (by omega), hl, show k * 5 + 2 - k * 5 = 2 by omega, List.set_append_left _ _ (by show 2 < 5; omega), chCells_cn hk]
theorem mix_get (qs ss : List Chg) (k : Nat) (h1 : k < qs.length) (h2 : k < ss.length) (_ : ss.length = qs.length) : ((qs.take k ++ ss.drop k).flatMap chCells)[k * 5 + 2]? = some (.int .i64 ss[k].cn) := by
  have hi : k < (qs.take k ++ ss.drop k).length := by rw [List.length_append, List.length_take, List.length_drop]; omega
  have e := flat_get chCells 5 (fun _ => rfl) (qs.take k ++ ss.drop k) k 2 hi (by omega)
  rw [e]
  have : (qs.take k ++ ss.drop k)[k] = ss[k] := by
    rw [List.getElem_append_right (by rw [List.length_take]; omega)]
    simp only [List.getElem_drop, List.length_take]
    congr 1
    omega
  rw [this]
  rfl

set_option maxRecDepth 100000 in
set_option maxHeartbeats 12800000 in
theorem divides51_law (vl vu : Value) (l : List Ag) (us : List Us) (pa mf mt at0 part : Int) (w : World) (hl : AgsAt w vl l) (hu : UssAt w vu us) (_hat : -9223372036854775808 ≤ at0 ∧ at0 ≤ 9223372036854775807) (hpart : -9223372036854775808 ≤ part ∧ part ≤ 9223372036854775807) :
    Calls Tryd.prog 5 #[.agg #[vl, vu, .int .i64 pa, .int .i64 mf, .int .i64 mt], .int .i64 at0, .int .i64 part] w (BoolTo true w) := by
  obtain ⟨X, hX⟩ : ∃ X, X = w.alloc (Obj.cells #[vl, vu, .int .i64 pa, .int .i64 mf, .int .i64 mt] 27) := ⟨_, rfl⟩
  have hbX : Below w.heap.size w X := by rw [hX]; exact (Below.refl _ _).alloc (Nat.le_refl _) _
  have rX : X.heap[w.heap.size]? = some (Obj.cells #[vl, vu, .int .i64 pa, .int .i64 mf, .int .i64 mt] 27) := by rw [hX]; exact heap_alloc_new _ _
  have hlX := hl.below hbX
  have huX := hu.below hbX
  have x0 := cell_of_row X _ 0 _ _ _ rX
  have x1 := cell_of_row X _ 1 _ _ _ rX
  have x2 := cell_of_row X _ 2 _ _ _ rX
  have x3 := cell_of_row X _ 3 _ _ _ rX
  have x4 := cell_of_row X _ 4 _ _ _ rX
  have HF := Lib.hid (few51_calls vl vu l us pa mf mt X hlX huX)
  have HAl := Lib.hid (fun w' => alive51_calls w')
  obtain ⟨la, lc, rfl, -, -, -⟩ := hl
  obtain ⟨ua, uc, rfl, hul, hum, -⟩ := hu
  have hum := hum.1
  unfold maxLen at hum
  obtain ⟨fl, hfl⟩ : ∃ fl, fl = fewC l us := ⟨_, rfl⟩
  rw [← hfl] at HF
  have Hfl := Lib.hid hfl
  have HX := Lib.hid hX
  have HbX := Lib.hid hbX
  have HrX := Lib.hid rX
  have Hl := Lib.hid hlX
  have Hu := Lib.hid huX
  have hzX : w.heap.size < X.heap.size := (Array.getElem?_eq_some_iff.1 rX).1
  clear hX hbX rX hlX huX hfl
  go_enter Tryd.func5, Tryd.ntmps5
  go_upto_region 1 with (fail)
  rw [← HX.out]
  go_wp2_with fail
  refine HF.out.mono ?_
  rintro e w1 ⟨rfl, hb1⟩
  have Hb1 := Lib.hid hb1
  have H1 := Lib.hid (HbX.out.trans (hb1.mono HbX.out.size))
  clear x0 x1 x2 x3 x4 hb1
  cases fl with
  | false =>
    go_wp2_with fail
    refine (HAl.out w1).mono ?_
    rintro e w2 ⟨rfl, hb2⟩
    have H2 := Lib.hid (H1.out.trans (hb2.mono H1.out.size))
    clear hb2
    go_wp2
    go_ret
    exact ⟨rfl, H2.out⟩
  | true =>
    obtain ⟨hl19, hu40⟩ := fewC_len Hfl.out.symm
    have hu30 : us.length ≤ 30 := by
      have h := Hfl.out.symm
      unfold fewC at h
      simp only [Bool.and_eq_true, decide_eq_true_eq] at h
      exact h.2
    have HSame := Lib.hid (stmE_same l us pa mf mt at0 part)
    have HS := Lib.hid (fun w' (hb : Below X.heap.size X w') => statement_calls _ _ l us pa mf mt w' (Hl.out.below hb) (Hu.out.below hb) hl19 hu40)
    have HT := Lib.hid (fun w' vo (hb : Below X.heap.size X w') (ho : UssAt w' vo (accO pa at0 part us 0)) => statement_calls _ vo l (accO pa at0 part us 0) pa mf mt w' (Hl.out.below hb) ho hl19 (by have := accO_le pa at0 part us 0 (Nat.zero_le _); omega))
    obtain ⟨r, hr⟩ : ∃ r, r = stmE l us pa mf mt := ⟨_, rfl⟩
    obtain ⟨s, hs⟩ : ∃ s, s = stmE l (accO pa at0 part us 0) pa mf mt := ⟨_, rfl⟩
    rw [← hr] at HS HSame
    rw [← hs] at HT HSame
    clear hr hs
    obtain ⟨er, qa, qf, qt, qs, qn⟩ := r
    obtain ⟨es, sa, sf, st0, ss, sn⟩ := s
    dsimp only at HSame
    obtain ⟨rfl, rfl, rfl, rfl, rfl, hcn⟩ := HSame.out
    have hln : ss.length = qs.length := by have := congrArg List.length hcn; simpa using this.symm
    have Hcn := Lib.hid hcn
    have Hln := Lib.hid hln
    have HS1 := Lib.hid (HS.out w1 Hb1.out)
    have r1 := (Hb1.out.block _ hzX).trans HrX.out
    have x0 := cell_of_row w1 _ 0 _ _ _ r1
    have x1 := cell_of_row w1 _ 1 _ _ _ r1
    have x2 := cell_of_row w1 _ 2 _ _ _ r1
    have x3 := cell_of_row w1 _ 3 _ _ _ r1
    have x4 := cell_of_row w1 _ 4 _ _ _ r1
    clear r1 HS hcn hln HSame
    go_wp2_with fail
    refine HS1.out.mono ?_
    rintro e w2 ⟨vc, rfl, hown, hb2⟩
    obtain ⟨ca, cc, rfl, hcq, hcm⟩ := own_shape hown
    unfold maxLen at hcm
    dsimp only at hown ⊢
    obtain ⟨Y, hY⟩ : ∃ Y, Y = w2.alloc (Obj.cells #[Value.int .i64 qa, .int .i64 qf, .int .i64 qt, .slice ca qs.length cc, .int .i64 qn] 32) := ⟨_, rfl⟩
    have hbY : Below w2.heap.size w2 Y := by rw [hY]; exact (Below.refl _ _).alloc (Nat.le_refl _) _
    have rY : Y.heap[w2.heap.size]? = some (Obj.cells #[Value.int .i64 qa, .int .i64 qf, .int .i64 qt, .slice ca qs.length cc, .int .i64 qn] 32) := by rw [hY]; exact heap_alloc_new _ _
    have hwY := Hb1.out.trans ((hb2.trans (hbY.mono hb2.size)).mono Hb1.out.size)
    have HcY := Lib.hid ((ChsAt.own hown).below hbY)
    have HuY := Lib.hid (Hu.out.below hwY)
    have HY := Lib.hid hY
    have HrY := Lib.hid rY
    have HwY := Lib.hid hwY
    have hyl : w2.heap.size < Y.heap.size := (Array.getElem?_eq_some_iff.1 rY).1
    have hxl : w.heap.size < Y.heap.size := Nat.lt_of_lt_of_le hzX hwY.size
    have HrXY := Lib.hid ((hwY.block _ hzX).trans HrX.out)
    have HwwY := Lib.hid (HbX.out.trans (hwY.mono HbX.out.size))
    clear x0 x1 x2 x3 x4 hY hbY rY hwY hown hb2
    have x1 := cell_of_row Y _ 1 _ _ _ HrXY.out
    have hn1 : IntKind.i64.wrap ((us.length : Int) - 1) = (us.length : Int) - 1 := IntWalk.i64_in _ (by omega)
    have HSt := Lib.hid (accO_step pa at0 part us)
    have HLe := Lib.hid (accO_le pa at0 part us)
    go_upto_region 4 with (fail)
    rw [← HY.out]
    go_wp2_with fail
    go_loopg [9, 10] us.length (fun g vo i wx => ∃ z : Int, i = .int .i64 z ∧ RowKit.Hid (z = (g : Int) - 1) ∧ g ≤ us.length ∧ DivR pa at0 part us Y.heap.size g Y vo wx)
    case atStart => exact ⟨_, rfl, Lib.hid rfl, Nat.le_refl _, by rw [accO_end]; exact World.ownsRow_nil _ _ _ _, Below.refl _ _⟩
    case round =>
      obtain ⟨wo, rfl⟩ : ∃ wo : World, wo = wr := ⟨_, rfl⟩
      obtain ⟨z, rfl, hz, hgl, hown, hbr⟩ := hrel
      have Hbr := Lib.hid hbr
      have Hown := Lib.hid hown
      obtain ⟨oa, oc, rfl, -, -⟩ := own_shape hown
      have hbo := hbr.size
      have rx := (hbr.block _ hxl).trans HrXY.out
      clear x1 hown
      have x0 := cell_of_row wo _ 0 _ _ _ rx
      have x1 := cell_of_row wo _ 1 _ _ _ rx
      have x2 := cell_of_row wo _ 2 _ _ _ rx
      have x3 := cell_of_row wo _ 3 _ _ _ rx
      have x4 := cell_of_row wo _ 4 _ _ _ rx
      clear rx
      cases gk with
      | zero =>
        obtain rfl : z = -1 := by have := hz.out; omega
        have HoE := Lib.hid (UssAt.own Hown.out)
        have HTo := Lib.hid (HT.out wo _ (HwY.out.trans (hbr.mono HwY.out.size)) HoE.out)
        clear hgl hz
        go_wp2_with fail
        refine HTo.out.mono ?_
        rintro e w3 ⟨vd, rfl, hown3, hb3⟩
        dsimp only at hown3 ⊢
        obtain ⟨da, dc, rfl, -, -⟩ := own_shape hown3
        rw [Hln.out] at hown3 ⊢
        obtain ⟨Z, hZ⟩ : ∃ Z, Z = w3.alloc (Obj.cells #[Value.int .i64 qa, .int .i64 qf, .int .i64 qt, .slice da qs.length dc, .int .i64 qn] 32) := ⟨_, rfl⟩
        have hbZ : Below w3.heap.size w3 Z := by rw [hZ]; exact (Below.refl _ _).alloc (Nat.le_refl _) _
        have rZ : Z.heap[w3.heap.size]? = some (Obj.cells #[Value.int .i64 qa, .int .i64 qf, .int .i64 qt, .slice da qs.length dc, .int .i64 qn] 32) := by rw [hZ]; exact heap_alloc_new _ _
        have hoZ := hb3.trans (hbZ.mono hb3.size)
        have Ho3 := Lib.hid hown3
        have HoZ := Lib.hid (ownsRow_below hown3 hbZ)
        have HZ := Lib.hid hZ
        have HrZ := Lib.hid rZ
        have HoZb := Lib.hid hoZ
        have rY := (hoZ.block _ (by omega)).trans ((hbr.block _ hyl).trans HrY.out)
        have y3 := cell_of_row Z _ 3 _ _ _ rY
        have z3 := cell_of_row Z _ 3 _ _ _ rZ
        have h3o := hb3.size
        have heq : (er != er) = false := bne_eq_false_iff_eq.2 rfl
        have hlq : ((qs.length : Int) != (qs.length : Int)) = false := by simp
        clear hZ hbZ rZ hoZ rY hown3 hb3 x0 x1 x2 x3 x4
        go_upto_region 17 with (fail)
        rw [← HZ.out]
        go_wp2_with fail
        go_loopg [15] qs.length (fun g i wx => ∃ k : Nat, k + g = qs.length ∧ i = .int .i64 k ∧ wx.ownsRow wo.heap.size 49 5 (.slice da qs.length dc) qs.length ((qs.take k ++ ss.drop k).flatMap chCells) ∧ Below wo.heap.size wo wx ∧ wx.heap[w3.heap.size]? = some (Obj.cells #[Value.int .i64 qa, .int .i64 qf, .int .i64 qt, .slice da qs.length dc, .int .i64 qn] 32))
        case atStart => exact ⟨0, by omega, rfl, by rw [List.take_zero, List.nil_append, List.drop_zero]; exact HoZ.out, HoZb.out, HrZ.out⟩
        case round =>
          obtain ⟨k, hkg, rfl, ho, hb, hr3⟩ := hrel
          have Ho := Lib.hid ho
          have Hb := Lib.hid hb
          have Hr3 := Lib.hid hr3
          have hbs := hb.size
          have rY := (hb.block _ (by omega)).trans ((Hbr.out.block _ hyl).trans HrY.out)
          have HrYr := Lib.hid rY
          clear y3 z3
          have y3 := cell_of_row wr _ 3 _ _ _ rY
          have z3 := cell_of_row wr _ 3 _ _ _ hr3
          clear rY ho
          cases gk with
          | zero =>
            have hkz : ¬ ((k : Int) < (qs.length : Int)) := by omega
            have HEq := Lib.hid (show qs.take k ++ ss.drop k = qs by rw [List.take_of_length_le (by omega), List.drop_of_length_le (by have := Hln.out; omega), List.append_nil])
            rw [HEq.out] at Ho
            have HcR := Lib.hid (HcY.out.below (Hbr.out.trans (hb.mono hbo)))
            have HSm := Lib.hid (same51_calls qa qf qt qn _ _ qs wr HcR.out (ChsAt.own Ho.out))
            clear y3 z3
            have y0 := cell_of_row wr _ 0 _ _ _ HrYr.out
            have y1 := cell_of_row wr _ 1 _ _ _ HrYr.out
            have y2 := cell_of_row wr _ 2 _ _ _ HrYr.out
            have y3 := cell_of_row wr _ 3 _ _ _ HrYr.out
            have y4 := cell_of_row wr _ 4 _ _ _ HrYr.out
            have z0 := cell_of_row wr _ 0 _ _ _ hr3
            have z1 := cell_of_row wr _ 1 _ _ _ hr3
            have z2 := cell_of_row wr _ 2 _ _ _ hr3
            have z3 := cell_of_row wr _ 3 _ _ _ hr3
            have z4 := cell_of_row wr _ 4 _ _ _ hr3
            have HwR := Lib.hid (HwwY.out.trans ((Hbr.out.trans (hb.mono hbo)).mono HwwY.out.size))
            clear hkg hb hr3
            go_wp2_with fail
            refine HSm.out.mono ?_
            rintro e w4 ⟨rfl, hb4⟩
            have H4 := Lib.hid (HwR.out.trans (hb4.mono HwR.out.size))
            clear y0 y1 y2 y3 y4 z0 z1 z2 z3 z4 hb4
            go_wp2_with fail
            refine (HAl.out w4).mono ?_
            rintro e w5 ⟨rfl, hb5⟩
            have H5 := Lib.hid (H4.out.trans (hb5.mono H4.out.size))
            clear hb5
            go_wp2
            go_ret
            exact ⟨rfl, H5.out⟩
          | succ gk =>
            have hlt : k < qs.length := by omega
            have hls : k < ss.length := by have := Hln.out; omega
            have hk1 : (k : Int) < (qs.length : Int) := by omega
            have hk0 : (0 : Int) ≤ (k : Int) := Int.natCast_nonneg _
            have hks : IntKind.i64.wrap ((k : Int) + 1) = (k : Int) + 1 := IntWalk.i64_in _ (by omega)
            obtain ⟨g2, rfl⟩ : ∃ g2, da = some ⟨g2, 0, none⟩ := by
              rcases Ho.out.2 with ⟨h1, h2⟩ | ⟨g2, cap', cur, hv, -⟩
              · omega
              · simp only [Value.slice.injEq] at hv
                exact ⟨g2, hv.1⟩
            obtain ⟨av2, cap2, e2, -, -, hx⟩ := HcY.out
            cases e2
            obtain ⟨b1, o1, rfl, hB1, hx⟩ := hx (by rintro rfl; cases hlt)
            have s2 := ((Hbr.out.trans (hb.mono hbo)).cell (p := ⟨b1, _, none⟩) hB1).trans (hx k hlt 2 (by omega))
            have s2 : wr.cell? ⟨b1, o1 + k * 5 + 2, none⟩ = some (.int .i64 qs[k].cn) := s2
            have HSet := Lib.hid (set_mix qs ss Hcn.out k hlt hls)
            have HCe := Lib.hid (mix_get qs ss k hlt hls (by have := Hln.out; omega))
            have hg2 := ownsRow_block Ho.out g2 rfl
            have hg23 := (ownsRow_block Ho3.out g2 rfl).2
            have hB1r : b1 < wr.heap.size := by omega
            have hYr : w2.heap.size < wr.heap.size := by omega
            have h3r : w3.heap.size < wr.heap.size := (Array.getElem?_eq_some_iff.1 hr3).1
            have fs := fun p : BelowOf wr => BelowOf.cell (a := ⟨b1, _, none⟩) hB1r s2 p
            have fy := fun p : BelowOf wr => BelowOf.cell (a := ⟨w2.heap.size, _, none⟩) hYr y3 p
            have fz := fun p : BelowOf wr => BelowOf.cell (a := ⟨w3.heap.size, _, none⟩) h3r z3 p
            generalize qs[k].cn = cq at *
            clear hx s2
            go_upto_region 24 with (fail)
            refine wp_region_quiet_tail 11 (Below.refl wr.heap.size wr) (by kernel_rfl) (by kernel_rfl) ?_
            simp only [List.take_succ_cons, List.take_zero, List.drop_succ_cons, List.drop_zero]
            repeat (go_big_quiet_step (fail))
            refine wpQuiet_nil ?_
            intro wq hw'
            have hYq : Below wr.heap.size wr wq := by obtain ⟨pq, rfl⟩ := hw'; exact pq.h
            have HoQ := Lib.hid (ownsRow_below Ho.out hYq)
            have q2 := (HoQ.out.cellAt (k * 5 + 2) (by omega)).trans HCe.out
            have qf2 := HoQ.out.frozenAt (k * 5 + 2)
            have Hrq := Lib.hid ((hYq.block _ h3r).trans Hr3.out)
            have Hbq := Lib.hid (Hb.out.trans (hYq.mono hbs))
            clear hw' hYq fs fy fz
            go_wp2
            go_roundg gk
            case measure => omega
            case rel => exact ⟨k + 1, by omega, by first | rfl | simp, by rw [← HSet.out]; exact (HoQ.out.stored (k * 5 + 2) _).1, Hbq.out.setCell hg2.1 _, (Below.heap_setCell _ _ _ _ (by show w3.heap.size ≠ g2; omega)).trans Hrq.out⟩
      | succ k =>
        obtain rfl : z = (k : Int) := by have := hz.out; omega
        have hlt : k < us.length := by omega
        have hk1 : (k : Int) < (us.length : Int) := by omega
        have hk0 : (0 : Int) ≤ (k : Int) := Int.natCast_nonneg _
        have hks : IntKind.i64.wrap ((k : Int) - 1) = (k : Int) - 1 := IntWalk.i64_in _ (by omega)
        obtain ⟨ua2, uc2, e2, -, -, hx⟩ := HuY.out
        cases e2
        obtain ⟨bu, ou, rfl, hBu, hx⟩ := hx (by rintro rfl; cases hlt)
        have c := fun j (hj : j < 12) => (hbr.cell (p := ⟨bu, _, none⟩) hBu).trans (hx k hlt j hj)
        have HSk := Lib.hid (HSt.out k hlt)
        have hle := HLe.out (k + 1) (by omega)
        have hlek := HLe.out k (by omega)
        clear hx
        generalize us[k] = u at *
        obtain ⟨id, kx, ac, sb, ua, ub, st, un, tr, ix, so0, se⟩ := u
        unfold Us.row at c
        dsimp only at c
        have c0 := c 0 (by omega)
        have c1 := c 1 (by omega)
        have c2 := c 2 (by omega)
        have c3 := c 3 (by omega)
        have c4 := c 4 (by omega)
        have c5 := c 5 (by omega)
        have c6 := c 6 (by omega)
        have c7 := c 7 (by omega)
        have c8 := c 8 (by omega)
        have c9 := c 9 (by omega)
        have c10 := c 10 (by omega)
        have c11 := c 11 (by omega)
        have c0 : wo.cell? ⟨bu, ou + k * 12, none⟩ = some (.int .i64 id) := c0
        clear c
        obtain ⟨Z, hZ⟩ : ∃ Z, Z = wo.alloc (Obj.cells #[Value.int .i64 id, .int .i64 kx, .int .i64 ac, .int .i64 sb, .string ua, .string ub, .int .i64 st, .int .i64 un, .int .i64 tr, .bool ix, .int .i64 so0, .int .i64 se] 47) := ⟨_, rfl⟩
        have hbZ : Below wo.heap.size wo Z := by rw [hZ]; exact (Below.refl _ _).alloc (Nat.le_refl _) _
        have rZ : Z.heap[wo.heap.size]? = some (Obj.cells #[Value.int .i64 id, .int .i64 kx, .int .i64 ac, .int .i64 sb, .string ua, .string ub, .int .i64 st, .int .i64 un, .int .i64 tr, .bool ix, .int .i64 so0, .int .i64 se] 47) := by rw [hZ]; exact heap_alloc_new _ _
        have hzl : wo.heap.size < Z.heap.size := (Array.getElem?_eq_some_iff.1 rZ).1
        have HoZ := Lib.hid (ownsRow_below Hown.out hbZ)
        have HYZ := Lib.hid (hbr.trans (hbZ.mono hbo))
        have HEl := Lib.hid (show elemO pa at0 part k ⟨id, kx, ac, sb, ua, ub, st, un, tr, ix, so0, se⟩ = if tr = pa then (if splitB at0 part k ⟨id, kx, ac, sb, ua, ub, st, un, tr, ix, so0, se⟩ = true then [withUn ⟨id, kx, ac, sb, ua, ub, st, un, tr, ix, so0, se⟩ (un - part), withUn ⟨id, kx, ac, sb, ua, ub, st, un, tr, ix, so0, se⟩ part] else [⟨id, kx, ac, sb, ua, ub, st, un, tr, ix, so0, se⟩]) else [] from rfl)
        have HSp := Lib.hid (show splitB at0 part k ⟨id, kx, ac, sb, ua, ub, st, un, tr, ix, so0, se⟩ = (((k : Int) == at0) && decide (0 ≤ part) && decide (part ≤ un) && decide (un ≤ 1099511627776)) from rfl)
        have HZ := Lib.hid hZ
        have HrZ := Lib.hid rZ
        have z8 := cell_of_row Z _ 8 _ _ _ rZ
        have z7 := cell_of_row Z _ 7 _ _ _ rZ
        have hxZ : w.heap.size < Z.heap.size := by omega
        have y2 := cell_of_row Z _ 2 _ _ _ ((HYZ.out.block _ hxl).trans HrXY.out)
        clear hZ rZ hbZ hbr hz
        go_upto_region 9 with (fail)
        rw [← HZ.out]
        clear c0 c1 c2 c3 c4 c5 c6 c7 c8 c9 c10 c11 x0 x1 x2 x3 x4
        generalize accO pa at0 part us (k + 1) = A at *
        by_cases htr : tr = pa
        · have htb : (tr != pa) = false := bne_eq_false_iff_eq.2 htr
          have HE1 := Lib.hid (HEl.out.trans (if_pos htr))
          go_upto_region 10 with (fail)
          clear htr
          cases e1 : ((k : Int) == at0) with
          | false =>
            have HE := Lib.hid (HSk.out.trans (by rw [HE1.out, if_neg (by rw [HSp.out, e1]; simp)]))
            clear z7 z8 y2
            have z0 := cell_of_row Z _ 0 _ _ _ HrZ.out
            have z1 := cell_of_row Z _ 1 _ _ _ HrZ.out
            have z2 := cell_of_row Z _ 2 _ _ _ HrZ.out
            have z3 := cell_of_row Z _ 3 _ _ _ HrZ.out
            have z4 := cell_of_row Z _ 4 _ _ _ HrZ.out
            have z5 := cell_of_row Z _ 5 _ _ _ HrZ.out
            have z6 := cell_of_row Z _ 6 _ _ _ HrZ.out
            have z7 := cell_of_row Z _ 7 _ _ _ HrZ.out
            have z8 := cell_of_row Z _ 8 _ _ _ HrZ.out
            have z9 := cell_of_row Z _ 9 _ _ _ HrZ.out
            have z10 := cell_of_row Z _ 10 _ _ _ HrZ.out
            have z11 := cell_of_row Z _ 11 _ _ _ HrZ.out
            obtain ⟨i0, hi, hz0, hz1, hz2⟩ := info_parts Tryd.usInfo
            have Hi := Lib.hid (And.intro hi (And.intro hz0 (And.intro hz1 hz2)))
            clear hi hz0 hz1 hz2
            have hsZ := HYZ.out.size
            go_wp2_with (at_builtin; refine wpList_append_own _ rfl _ _ 23 rfl Y.heap.size 47 i0 _ 12 112 Tryd.underlying23 Hi.out.1 Hi.out.2.1 Hi.out.2.2.1 Hi.out.2.2.2 rfl (by decide) _ _ _ rfl (HoZ.out.alloc _) ⟨Z.heap.size, 0, none⟩ 1 1 [.int .i64 id, .int .i64 kx, .int .i64 ac, .int .i64 sb, .string ua, .string ub, .int .i64 st, .int .i64 un, .int .i64 tr, .bool ix, .int .i64 so0, .int .i64 se] rfl rfl (World.news_of_block (cs := #[.int .i64 id, .int .i64 kx, .int .i64 ac, .int .i64 sb, .string ua, .string ub, .int .i64 st, .int .i64 un, .int .i64 tr, .bool ix, .int .i64 so0, .int .i64 se]) (t := 47) (fr := (0, 0)) (heap_alloc_new _ _)) ?n12 ?n13 ?n14 ?n15 ?_)
            case n12 => simp [Value.oneCell']
            case n13 => unfold maxLen; omega
            case n14 => omega
            case n15 => (try simp); omega
            intro v2 w9 hown9 hgrow _
            have Hown9 := Lib.hid hown9
            have Hb9 := Lib.hid ((HYZ.out.alloc hsZ (Obj.cells #[.int .i64 id, .int .i64 kx, .int .i64 ac, .int .i64 sb, .string ua, .string ub, .int .i64 st, .int .i64 un, .int .i64 tr, .bool ix, .int .i64 so0, .int .i64 se] 47)).grown hgrow (by simp; omega) (fun g hg => (ownsRow_block HoZ.out g hg).1))
            clear hown9 hgrow
            clear z0 z1 z2 z3 z4 z5 z6 z7 z8 z9 z10 z11
            go_wp2
            go_roundg k
            case measure => omega
            case rel => exact ⟨(k : Int) - 1, by first | rfl | simp, Lib.hid rfl, by omega, by rw [HE.out, List.length_append, List.flatMap_append]; exact Hown9.out, Hb9.out⟩
          | true =>
            cases e2 : decide (0 ≤ part) with
            | false =>
              have HE := Lib.hid (HSk.out.trans (by rw [HE1.out, if_neg (by rw [HSp.out, e2]; simp)]))
              clear z7 z8 y2
              have z0 := cell_of_row Z _ 0 _ _ _ HrZ.out
              have z1 := cell_of_row Z _ 1 _ _ _ HrZ.out
              have z2 := cell_of_row Z _ 2 _ _ _ HrZ.out
              have z3 := cell_of_row Z _ 3 _ _ _ HrZ.out
              have z4 := cell_of_row Z _ 4 _ _ _ HrZ.out
              have z5 := cell_of_row Z _ 5 _ _ _ HrZ.out
              have z6 := cell_of_row Z _ 6 _ _ _ HrZ.out
              have z7 := cell_of_row Z _ 7 _ _ _ HrZ.out
              have z8 := cell_of_row Z _ 8 _ _ _ HrZ.out
              have z9 := cell_of_row Z _ 9 _ _ _ HrZ.out
              have z10 := cell_of_row Z _ 10 _ _ _ HrZ.out
              have z11 := cell_of_row Z _ 11 _ _ _ HrZ.out
              obtain ⟨i0, hi, hz0, hz1, hz2⟩ := info_parts Tryd.usInfo
              have Hi := Lib.hid (And.intro hi (And.intro hz0 (And.intro hz1 hz2)))
              clear hi hz0 hz1 hz2
              have hsZ := HYZ.out.size
              go_wp2_with (at_builtin; refine wpList_append_own _ rfl _ _ 23 rfl Y.heap.size 47 i0 _ 12 112 Tryd.underlying23 Hi.out.1 Hi.out.2.1 Hi.out.2.2.1 Hi.out.2.2.2 rfl (by decide) _ _ _ rfl (HoZ.out.alloc _) ⟨Z.heap.size, 0, none⟩ 1 1 [.int .i64 id, .int .i64 kx, .int .i64 ac, .int .i64 sb, .string ua, .string ub, .int .i64 st, .int .i64 un, .int .i64 tr, .bool ix, .int .i64 so0, .int .i64 se] rfl rfl (World.news_of_block (cs := #[.int .i64 id, .int .i64 kx, .int .i64 ac, .int .i64 sb, .string ua, .string ub, .int .i64 st, .int .i64 un, .int .i64 tr, .bool ix, .int .i64 so0, .int .i64 se]) (t := 47) (fr := (0, 0)) (heap_alloc_new _ _)) ?n22 ?n23 ?n24 ?n25 ?_)
              case n22 => simp [Value.oneCell']
              case n23 => unfold maxLen; omega
              case n24 => omega
              case n25 => (try simp); omega
              intro v2 w9 hown9 hgrow _
              have Hown9 := Lib.hid hown9
              have Hb9 := Lib.hid ((HYZ.out.alloc hsZ (Obj.cells #[.int .i64 id, .int .i64 kx, .int .i64 ac, .int .i64 sb, .string ua, .string ub, .int .i64 st, .int .i64 un, .int .i64 tr, .bool ix, .int .i64 so0, .int .i64 se] 47)).grown hgrow (by simp; omega) (fun g hg => (ownsRow_block HoZ.out g hg).1))
              clear hown9 hgrow
              clear z0 z1 z2 z3 z4 z5 z6 z7 z8 z9 z10 z11
              go_wp2
              go_roundg k
              case measure => omega
              case rel => exact ⟨(k : Int) - 1, by first | rfl | simp, Lib.hid rfl, by omega, by rw [HE.out, List.length_append, List.flatMap_append]; exact Hown9.out, Hb9.out⟩
            | true =>
              cases e3 : decide (part ≤ un) with
              | false =>
                have HE := Lib.hid (HSk.out.trans (by rw [HE1.out, if_neg (by rw [HSp.out, e3]; simp)]))
                clear z7 z8 y2
                have z0 := cell_of_row Z _ 0 _ _ _ HrZ.out
                have z1 := cell_of_row Z _ 1 _ _ _ HrZ.out
                have z2 := cell_of_row Z _ 2 _ _ _ HrZ.out
                have z3 := cell_of_row Z _ 3 _ _ _ HrZ.out
                have z4 := cell_of_row Z _ 4 _ _ _ HrZ.out
                have z5 := cell_of_row Z _ 5 _ _ _ HrZ.out
                have z6 := cell_of_row Z _ 6 _ _ _ HrZ.out
                have z7 := cell_of_row Z _ 7 _ _ _ HrZ.out
                have z8 := cell_of_row Z _ 8 _ _ _ HrZ.out
                have z9 := cell_of_row Z _ 9 _ _ _ HrZ.out
                have z10 := cell_of_row Z _ 10 _ _ _ HrZ.out
                have z11 := cell_of_row Z _ 11 _ _ _ HrZ.out
                obtain ⟨i0, hi, hz0, hz1, hz2⟩ := info_parts Tryd.usInfo
                have Hi := Lib.hid (And.intro hi (And.intro hz0 (And.intro hz1 hz2)))
                clear hi hz0 hz1 hz2
                have hsZ := HYZ.out.size
                go_wp2_with (at_builtin; refine wpList_append_own _ rfl _ _ 23 rfl Y.heap.size 47 i0 _ 12 112 Tryd.underlying23 Hi.out.1 Hi.out.2.1 Hi.out.2.2.1 Hi.out.2.2.2 rfl (by decide) _ _ _ rfl (HoZ.out.alloc _) ⟨Z.heap.size, 0, none⟩ 1 1 [.int .i64 id, .int .i64 kx, .int .i64 ac, .int .i64 sb, .string ua, .string ub, .int .i64 st, .int .i64 un, .int .i64 tr, .bool ix, .int .i64 so0, .int .i64 se] rfl rfl (World.news_of_block (cs := #[.int .i64 id, .int .i64 kx, .int .i64 ac, .int .i64 sb, .string ua, .string ub, .int .i64 st, .int .i64 un, .int .i64 tr, .bool ix, .int .i64 so0, .int .i64 se]) (t := 47) (fr := (0, 0)) (heap_alloc_new _ _)) ?n32 ?n33 ?n34 ?n35 ?_)
                case n32 => simp [Value.oneCell']
                case n33 => unfold maxLen; omega
                case n34 => omega
                case n35 => (try simp); omega
                intro v2 w9 hown9 hgrow _
                have Hown9 := Lib.hid hown9
                have Hb9 := Lib.hid ((HYZ.out.alloc hsZ (Obj.cells #[.int .i64 id, .int .i64 kx, .int .i64 ac, .int .i64 sb, .string ua, .string ub, .int .i64 st, .int .i64 un, .int .i64 tr, .bool ix, .int .i64 so0, .int .i64 se] 47)).grown hgrow (by simp; omega) (fun g hg => (ownsRow_block HoZ.out g hg).1))
                clear hown9 hgrow
                clear z0 z1 z2 z3 z4 z5 z6 z7 z8 z9 z10 z11
                go_wp2
                go_roundg k
                case measure => omega
                case rel => exact ⟨(k : Int) - 1, by first | rfl | simp, Lib.hid rfl, by omega, by rw [HE.out, List.length_append, List.flatMap_append]; exact Hown9.out, Hb9.out⟩
              | true =>
                cases e4 : decide (un ≤ 1099511627776) with
                | false =>
                  have HE := Lib.hid (HSk.out.trans (by rw [HE1.out, if_neg (by rw [HSp.out, e4]; simp)]))
                  clear z7 z8 y2
                  have z0 := cell_of_row Z _ 0 _ _ _ HrZ.out
                  have z1 := cell_of_row Z _ 1 _ _ _ HrZ.out
                  have z2 := cell_of_row Z _ 2 _ _ _ HrZ.out
                  have z3 := cell_of_row Z _ 3 _ _ _ HrZ.out
                  have z4 := cell_of_row Z _ 4 _ _ _ HrZ.out
                  have z5 := cell_of_row Z _ 5 _ _ _ HrZ.out
                  have z6 := cell_of_row Z _ 6 _ _ _ HrZ.out
                  have z7 := cell_of_row Z _ 7 _ _ _ HrZ.out
                  have z8 := cell_of_row Z _ 8 _ _ _ HrZ.out
                  have z9 := cell_of_row Z _ 9 _ _ _ HrZ.out
                  have z10 := cell_of_row Z _ 10 _ _ _ HrZ.out
                  have z11 := cell_of_row Z _ 11 _ _ _ HrZ.out
                  obtain ⟨i0, hi, hz0, hz1, hz2⟩ := info_parts Tryd.usInfo
                  have Hi := Lib.hid (And.intro hi (And.intro hz0 (And.intro hz1 hz2)))
                  clear hi hz0 hz1 hz2
                  have hsZ := HYZ.out.size
                  go_wp2_with (at_builtin; refine wpList_append_own _ rfl _ _ 23 rfl Y.heap.size 47 i0 _ 12 112 Tryd.underlying23 Hi.out.1 Hi.out.2.1 Hi.out.2.2.1 Hi.out.2.2.2 rfl (by decide) _ _ _ rfl (HoZ.out.alloc _) ⟨Z.heap.size, 0, none⟩ 1 1 [.int .i64 id, .int .i64 kx, .int .i64 ac, .int .i64 sb, .string ua, .string ub, .int .i64 st, .int .i64 un, .int .i64 tr, .bool ix, .int .i64 so0, .int .i64 se] rfl rfl (World.news_of_block (cs := #[.int .i64 id, .int .i64 kx, .int .i64 ac, .int .i64 sb, .string ua, .string ub, .int .i64 st, .int .i64 un, .int .i64 tr, .bool ix, .int .i64 so0, .int .i64 se]) (t := 47) (fr := (0, 0)) (heap_alloc_new _ _)) ?n42 ?n43 ?n44 ?n45 ?_)
                  case n42 => simp [Value.oneCell']
                  case n43 => unfold maxLen; omega
                  case n44 => omega
                  case n45 => (try simp); omega
                  intro v2 w9 hown9 hgrow _
                  have Hown9 := Lib.hid hown9
                  have Hb9 := Lib.hid ((HYZ.out.alloc hsZ (Obj.cells #[.int .i64 id, .int .i64 kx, .int .i64 ac, .int .i64 sb, .string ua, .string ub, .int .i64 st, .int .i64 un, .int .i64 tr, .bool ix, .int .i64 so0, .int .i64 se] 47)).grown hgrow (by simp; omega) (fun g hg => (ownsRow_block HoZ.out g hg).1))
                  clear hown9 hgrow
                  clear z0 z1 z2 z3 z4 z5 z6 z7 z8 z9 z10 z11
                  go_wp2
                  go_roundg k
                  case measure => omega
                  case rel => exact ⟨(k : Int) - 1, by first | rfl | simp, Lib.hid rfl, by omega, by rw [HE.out, List.length_append, List.flatMap_append]; exact Hown9.out, Hb9.out⟩
                | true =>
                  have hp0 := of_decide_eq_true e2
                  have hp1 := of_decide_eq_true e3
                  have hp2 := of_decide_eq_true e4
                  have HE := Lib.hid (HSk.out.trans (by rw [HE1.out, if_pos (by rw [HSp.out, e1, e2, e3, e4]; rfl)]))
                  have hwu : IntKind.i64.wrap (un - part) = un - part := IntWalk.i64_in _ (by omega)
                  clear z7 z8 y2
                  have z0 := cell_of_row Z _ 0 _ _ _ HrZ.out
                  have z1 := cell_of_row Z _ 1 _ _ _ HrZ.out
                  have z2 := cell_of_row Z _ 2 _ _ _ HrZ.out
                  have z3 := cell_of_row Z _ 3 _ _ _ HrZ.out
                  have z4 := cell_of_row Z _ 4 _ _ _ HrZ.out
                  have z5 := cell_of_row Z _ 5 _ _ _ HrZ.out
                  have z6 := cell_of_row Z _ 6 _ _ _ HrZ.out
                  have z7 := cell_of_row Z _ 7 _ _ _ HrZ.out
                  have z8 := cell_of_row Z _ 8 _ _ _ HrZ.out
                  have z9 := cell_of_row Z _ 9 _ _ _ HrZ.out
                  have z10 := cell_of_row Z _ 10 _ _ _ HrZ.out
                  have z11 := cell_of_row Z _ 11 _ _ _ HrZ.out
                  have hsZ := HYZ.out.size
                  obtain ⟨V, hV⟩ : ∃ V, V = Z.alloc (Obj.cells #[Value.int .i64 id, .int .i64 kx, .int .i64 ac, .int .i64 sb, .string ua, .string ub, .int .i64 st, .int .i64 un, .int .i64 tr, .bool ix, .int .i64 so0, .int .i64 se] 47) := ⟨_, rfl⟩
                  have hbV : Below Z.heap.size Z V := by rw [hV]; exact (Below.refl _ _).alloc (Nat.le_refl _) _
                  have rV1 : V.heap[Z.heap.size]? = some (Obj.cells #[Value.int .i64 id, .int .i64 kx, .int .i64 ac, .int .i64 sb, .string ua, .string ub, .int .i64 st, .int .i64 un, .int .i64 tr, .bool ix, .int .i64 so0, .int .i64 se] 47) := by rw [hV]; exact heap_alloc_new _ _
                  have rV0 := (hbV.block _ hzl).trans HrZ.out
                  have HoV := Lib.hid (ownsRow_below HoZ.out hbV)
                  have HYV := Lib.hid (HYZ.out.trans (hbV.mono hsZ))
                  have HV := Lib.hid hV
                  have hne0 : ∀ g, (Value.slice oa A.length oc).ownBlock = some g → g < wo.heap.size := fun g hg => (ownsRow_block Hown.out g hg).2
                  obtain ⟨V2, hV2⟩ : ∃ V2, V2 = (V.setCell ⟨wo.heap.size, 7, none⟩ (.int .i64 part)).setCell ⟨Z.heap.size, 7, none⟩ (.int .i64 (un - part)) := ⟨_, rfl⟩
                  have hcs : V2.heap.size = V.heap.size := by rw [hV2]; simp [World.setCell]
                  have rW0 : V2.heap[wo.heap.size]? = some (Obj.cells #[Value.int .i64 id, .int .i64 kx, .int .i64 ac, .int .i64 sb, .string ua, .string ub, .int .i64 st, .int .i64 part, .int .i64 tr, .bool ix, .int .i64 so0, .int .i64 se] 47) := by
                    rw [hV2, Below.heap_setCell _ _ _ _ (by show wo.heap.size ≠ Z.heap.size; omega)]
                    exact heap_setCell_same V _ 7 _ _ _ rV0
                  have rW1 : V2.heap[Z.heap.size]? = some (Obj.cells #[Value.int .i64 id, .int .i64 kx, .int .i64 ac, .int .i64 sb, .string ua, .string ub, .int .i64 st, .int .i64 (un - part), .int .i64 tr, .bool ix, .int .i64 so0, .int .i64 se] 47) := by
                    rw [hV2]
                    exact heap_setCell_same _ _ 7 _ _ _ ((Below.heap_setCell _ _ _ _ (by show Z.heap.size ≠ wo.heap.size; omega)).trans rV1)
                  have HoW := Lib.hid (show V2.ownsRow Y.heap.size 47 12 (.slice oa A.length oc) A.length (A.flatMap usCells) by
                    rw [hV2]
                    exact ownsRow_set4 (ownsRow_set4 HoV.out ⟨wo.heap.size, 7, none⟩ _ (fun g hg => by have := hne0 g hg; show g ≠ wo.heap.size; omega)) ⟨Z.heap.size, 7, none⟩ _ (fun g hg => by have := hne0 g hg; show g ≠ Z.heap.size; omega))
                  have HYW := Lib.hid (show Below Y.heap.size Y V2 by rw [hV2]; exact (HYV.out.setCell (by show Y.heap.size ≤ wo.heap.size; omega) _).setCell (by show Y.heap.size ≤ Z.heap.size; omega) _)
                  have v7 := cell_of_row V _ 7 _ _ _ rV1
                  have f7 : V.frozen? ⟨Z.heap.size, 7, none⟩ = false := by simp [World.frozen?, rV1]
                  have u7 := cell_of_row V _ 7 _ _ _ rV0
                  have g7 : V.frozen? ⟨wo.heap.size, 7, none⟩ = false := by simp [World.frozen?, rV0]
                  have hzz : wo.heap.size ≠ Z.heap.size := by omega
                  have hzz2 : ¬ Z.heap.size = wo.heap.size := by omega
                  have HV2 := Lib.hid hV2
                  have HrW0 := Lib.hid rW0
                  have HrW1 := Lib.hid rW1
                  have Hne0 := Lib.hid hne0
                  have hV2s := HYW.out.size
                  have hZV2 : Z.heap.size < V2.heap.size := (Array.getElem?_eq_some_iff.1 rW1).1
                  clear hV hV2 rV0 rV1 rW0 rW1 hbV hcs hne0
                  go_upto_region 12 with (fail)
                  rw [← HV.out]
                  clear z0 z1 z2 z3 z4 z5 z6 z7 z8 z9 z10 z11
                  go_upto_region 14 with (fail)
                  rw [← HV2.out]
                  clear v7 f7 u7 g7
                  have z0 := cell_of_row V2 _ 0 _ _ _ HrW1.out
                  have z1 := cell_of_row V2 _ 1 _ _ _ HrW1.out
                  have z2 := cell_of_row V2 _ 2 _ _ _ HrW1.out
                  have z3 := cell_of_row V2 _ 3 _ _ _ HrW1.out
                  have z4 := cell_of_row V2 _ 4 _ _ _ HrW1.out
                  have z5 := cell_of_row V2 _ 5 _ _ _ HrW1.out
                  have z6 := cell_of_row V2 _ 6 _ _ _ HrW1.out
                  have z7 := cell_of_row V2 _ 7 _ _ _ HrW1.out
                  have z8 := cell_of_row V2 _ 8 _ _ _ HrW1.out
                  have z9 := cell_of_row V2 _ 9 _ _ _ HrW1.out
                  have z10 := cell_of_row V2 _ 10 _ _ _ HrW1.out
                  have z11 := cell_of_row V2 _ 11 _ _ _ HrW1.out
                  obtain ⟨i0, hi, hz0, hz1, hz2⟩ := info_parts Tryd.usInfo
                  have Hi := Lib.hid (And.intro hi (And.intro hz0 (And.intro hz1 hz2)))
                  clear hi hz0 hz1 hz2
                  go_wp2_with (at_builtin; refine wpList_append_own _ rfl _ _ 23 rfl Y.heap.size 47 i0 _ 12 112 Tryd.underlying23 Hi.out.1 Hi.out.2.1 Hi.out.2.2.1 Hi.out.2.2.2 rfl (by decide) _ _ _ rfl (HoW.out.alloc _) ⟨V2.heap.size, 0, none⟩ 1 1 [.int .i64 id, .int .i64 kx, .int .i64 ac, .int .i64 sb, .string ua, .string ub, .int .i64 st, .int .i64 (un - part), .int .i64 tr, .bool ix, .int .i64 so0, .int .i64 se] rfl rfl (World.news_of_block (cs := #[.int .i64 id, .int .i64 kx, .int .i64 ac, .int .i64 sb, .string ua, .string ub, .int .i64 st, .int .i64 (un - part), .int .i64 tr, .bool ix, .int .i64 so0, .int .i64 se]) (t := 47) (fr := (0, 0)) (heap_alloc_new _ _)) ?y12 ?y13 ?y14 ?y15 ?_)
                  case y12 => simp [Value.oneCell']
                  case y13 => unfold maxLen; omega
                  case y14 => omega
                  case y15 => (try simp); omega
                  intro v2 w9 hown9 hgrow _
                  have Hown9 := Lib.hid hown9
                  have Hb9 := Lib.hid ((HYW.out.alloc hV2s (Obj.cells #[.int .i64 id, .int .i64 kx, .int .i64 ac, .int .i64 sb, .string ua, .string ub, .int .i64 st, .int .i64 (un - part), .int .i64 tr, .bool ix, .int .i64 so0, .int .i64 se] 47)).grown hgrow (by simp; omega) (fun g hg => (ownsRow_block HoW.out g hg).1))
                  have Hr9 := Lib.hid ((hgrow.block wo.heap.size (by simp; omega) (fun e => by have := Hne0.out _ e.symm; omega)).trans ((Below.heap_alloc _ _ _ (by omega)).trans HrW0.out))
                  obtain ⟨va9, vc9, rfl, -, -⟩ := own_shape hown9
                  have hs9 := Hb9.out.size
                  clear z0 z1 z2 z3 z4 z5 z6 z7 z8 z9 z10 z11
                  clear hown9 hgrow
                  have z0 := cell_of_row w9 _ 0 _ _ _ Hr9.out
                  have z1 := cell_of_row w9 _ 1 _ _ _ Hr9.out
                  have z2 := cell_of_row w9 _ 2 _ _ _ Hr9.out
                  have z3 := cell_of_row w9 _ 3 _ _ _ Hr9.out
                  have z4 := cell_of_row w9 _ 4 _ _ _ Hr9.out
                  have z5 := cell_of_row w9 _ 5 _ _ _ Hr9.out
                  have z6 := cell_of_row w9 _ 6 _ _ _ Hr9.out
                  have z7 := cell_of_row w9 _ 7 _ _ _ Hr9.out
                  have z8 := cell_of_row w9 _ 8 _ _ _ Hr9.out
                  have z9 := cell_of_row w9 _ 9 _ _ _ Hr9.out
                  have z10 := cell_of_row w9 _ 10 _ _ _ Hr9.out
                  have z11 := cell_of_row w9 _ 11 _ _ _ Hr9.out
                  go_wp2_with (at_builtin; refine wpList_append_own _ rfl _ _ 23 rfl Y.heap.size 47 i0 _ 12 112 Tryd.underlying23 Hi.out.1 Hi.out.2.1 Hi.out.2.2.1 Hi.out.2.2.2 rfl (by decide) _ _ _ rfl (Hown9.out.alloc _) ⟨w9.heap.size, 0, none⟩ 1 1 [.int .i64 id, .int .i64 kx, .int .i64 ac, .int .i64 sb, .string ua, .string ub, .int .i64 st, .int .i64 part, .int .i64 tr, .bool ix, .int .i64 so0, .int .i64 se] rfl rfl (World.news_of_block (cs := #[.int .i64 id, .int .i64 kx, .int .i64 ac, .int .i64 sb, .string ua, .string ub, .int .i64 st, .int .i64 part, .int .i64 tr, .bool ix, .int .i64 so0, .int .i64 se]) (t := 47) (fr := (0, 0)) (heap_alloc_new _ _)) ?y22 ?y23 ?y24 ?y25 ?_)
                  case y22 => simp [Value.oneCell']
                  case y23 => unfold maxLen; omega
                  case y24 => omega
                  case y25 => (try simp); omega
                  intro v3 w10 hown10 hgrow10 _
                  have Hown10 := Lib.hid hown10
                  have Hb10 := Lib.hid ((Hb9.out.alloc hs9 (Obj.cells #[.int .i64 id, .int .i64 kx, .int .i64 ac, .int .i64 sb, .string ua, .string ub, .int .i64 st, .int .i64 part, .int .i64 tr, .bool ix, .int .i64 so0, .int .i64 se] 47)).grown hgrow10 (by simp; omega) (fun g hg => (ownsRow_block Hown9.out g hg).1))
                  clear hown10 hgrow10
                  clear z0 z1 z2 z3 z4 z5 z6 z7 z8 z9 z10 z11
                  go_wp2
                  go_roundg k
                  case measure => omega
                  case rel => exact ⟨(k : Int) - 1, by first | rfl | simp, Lib.hid rfl, by omega, by
                    rw [HE.out, List.length_append, List.flatMap_append]
                    have h := Hown10.out
                    first
                      | exact h
                      | (rw [List.append_assoc] at h
                         exact h), Hb10.out⟩
        · have htb : (tr != pa) = true := bne_iff_ne.2 htr
          have HE := Lib.hid (HSk.out.trans (by rw [HEl.out, if_neg htr, List.append_nil]))
          clear htr
          go_wp2
          go_roundg k
          case measure => omega
          case rel => exact ⟨(k : Int) - 1, by first | rfl | simp, Lib.hid rfl, by omega, by rw [HE.out]; exact HoZ.out, HYZ.out⟩
end Go.Proofs.YtohmdohbmmbbkaaDoor
