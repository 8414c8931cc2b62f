/-
  The walk of the law on caps.
-/
import Derived.Test.YtohmdohbmmbbkaaDoorMgbs
import Derived.Test.YtohmdohbmmbbkaaDoorMgbu
namespace Go.Proofs.YtohmdohbmmbbkaaDoor
open Go.RowKit

/-- The inner loop's truth at agreement k. -/
def CapR (l : List Ag) (pa kd : Int) (ib : Bool) (k : Nat) (lim fr : Value) : Prop := lim = .int .i64 (limL pa kd ib (l.take k)) ∧ fr = .bool (freeL pa kd ib (l.take k))

set_option maxRecDepth 100000 in
set_option maxHeartbeats 12800000 in
theorem caps51_law (vl vu : Value) (l : List Ag) (us : List Us) (pa mf mt : Int) (w : World) (hl : AgsAt w vl l) (hu : UssAt w vu us) :
    Calls Tryd.prog 6 #[.agg #[vl, vu, .int .i64 pa, .int .i64 mf, .int .i64 mt]] w (BoolTo true w) := by
  obtain ⟨X, hX⟩ : ∃ X, X = w.alloc (Obj.cells #[vl, vu, .int .i64 pa, .int .i64 mf, .int .i64 mt] 27) := ⟨_, rfl⟩
  have hbX : Below w.heap.size w X := by rw [hX]; exact (Below.refl _ _).alloc (Nat.le_refl _) _
  have rX : X.heap[w.heap.size]? = some (Obj.cells #[vl, vu, .int .i64 pa, .int .i64 mf, .int .i64 mt] 27) := by rw [hX]; exact heap_alloc_new _ _
  have hlX := hl.below hbX
  have huX := hu.below hbX
  have x0 := cell_of_row X _ 0 _ _ _ rX
  have x1 := cell_of_row X _ 1 _ _ _ rX
  have x2 := cell_of_row X _ 2 _ _ _ rX
  have x3 := cell_of_row X _ 3 _ _ _ rX
  have x4 := cell_of_row X _ 4 _ _ _ rX
  have HF := Lib.hid (few51_calls vl vu l us pa mf mt X hlX huX)
  have HAl := Lib.hid (fun w' => alive51_calls w')
  obtain ⟨la, lc, rfl, -, -, -⟩ := hl
  obtain ⟨ua, uc, rfl, -, -, -⟩ := hu
  obtain ⟨fl, hfl⟩ : ∃ fl, fl = fewC l us := ⟨_, rfl⟩
  rw [← hfl] at HF
  have Hfl := Lib.hid hfl
  have HX := Lib.hid hX
  have HbX := Lib.hid hbX
  have HrX := Lib.hid rX
  have Hl := Lib.hid hlX
  have Hu := Lib.hid huX
  have hzX : w.heap.size < X.heap.size := (Array.getElem?_eq_some_iff.1 rX).1
  clear hX hbX rX hlX huX hfl
  go_enter Tryd.func6, Tryd.ntmps6
  go_upto_region 1 with (fail)
  rw [← HX.out]
  go_wp2_with fail
  refine HF.out.mono ?_
  rintro e w1 ⟨rfl, hb1⟩
  have Hb1 := Lib.hid hb1
  have H1 := Lib.hid (HbX.out.trans (hb1.mono HbX.out.size))
  clear x0 x1 x2 x3 x4 hb1
  cases fl with
  | false =>
    go_wp2_with fail
    refine (HAl.out w1).mono ?_
    rintro e w2 ⟨rfl, hb2⟩
    have H2 := Lib.hid (H1.out.trans (hb2.mono H1.out.size))
    clear hb2
    go_wp2
    go_ret
    exact ⟨rfl, H2.out⟩
  | true =>
    obtain ⟨hl19, hu40⟩ := fewC_len Hfl.out.symm
    obtain ⟨r, hr⟩ : ∃ r, r = stmE l us pa mf mt := ⟨_, rfl⟩
    have HS := Lib.hid (fun w' (hb : Below X.heap.size X w') => statement_calls _ _ l us pa mf mt w' (Hl.out.below hb) (Hu.out.below hb) hl19 hu40)
    have HOk := Lib.hid (fun h => stmE_caps (l := l) (us := us) (pa := pa) (mf := mf) (mt := mt) h hl19)
    have HErr := Lib.hid (fun h => stmE_err (l := l) (us := us) (pa := pa) (mf := mf) (mt := mt) h)
    rw [← hr] at HS HOk HErr
    clear hr hu40
    obtain ⟨er, qa, qf, qt, qs, qn⟩ := r
    dsimp only at HOk HErr
    have HS1 := Lib.hid (HS.out w1 Hb1.out)
    have r1 := (Hb1.out.block _ hzX).trans HrX.out
    have x0 := cell_of_row w1 _ 0 _ _ _ r1
    have x1 := cell_of_row w1 _ 1 _ _ _ r1
    have x2 := cell_of_row w1 _ 2 _ _ _ r1
    have x3 := cell_of_row w1 _ 3 _ _ _ r1
    have x4 := cell_of_row w1 _ 4 _ _ _ r1
    clear r1 HS
    go_wp2_with fail
    refine HS1.out.mono ?_
    rintro e w2 ⟨vc, rfl, hown, hb2⟩
    obtain ⟨ca, cc, rfl, -, -⟩ := own_shape hown
    dsimp only at hown ⊢
    obtain ⟨Y, hY⟩ : ∃ Y, Y = w2.alloc (Obj.cells #[Value.int .i64 qa, .int .i64 qf, .int .i64 qt, .slice ca qs.length cc, .int .i64 qn] 32) := ⟨_, rfl⟩
    have hbY : Below w2.heap.size w2 Y := by rw [hY]; exact (Below.refl _ _).alloc (Nat.le_refl _) _
    have rY : Y.heap[w2.heap.size]? = some (Obj.cells #[Value.int .i64 qa, .int .i64 qf, .int .i64 qt, .slice ca qs.length cc, .int .i64 qn] 32) := by rw [hY]; exact heap_alloc_new _ _
    have hwY := Hb1.out.trans ((hb2.trans (hbY.mono hb2.size)).mono Hb1.out.size)
    have HcY := Lib.hid ((ChsAt.own hown).below hbY)
    have HlY := Lib.hid (Hl.out.below hwY)
    have HY := Lib.hid hY
    have HrY := Lib.hid rY
    have HwY := Lib.hid hwY
    have hyl : w2.heap.size < Y.heap.size := (Array.getElem?_eq_some_iff.1 rY).1
    have hxl : w.heap.size < Y.heap.size := Nat.lt_of_lt_of_le hzX hwY.size
    have HrXY := Lib.hid ((hwY.block _ hzX).trans HrX.out)
    have HwwY := Lib.hid (HbX.out.trans (hwY.mono HbX.out.size))
    have y3 := cell_of_row Y _ 3 _ _ _ rY
    clear x0 x1 x2 x3 x4 hY hbY rY hwY hown hb2
    go_upto_region 4 with (fail)
    rw [← HY.out]
    by_cases he : er = 0
    · obtain ⟨hnet, hlen, hok⟩ := HOk.out he
      have heb : (er != 0) = false := bne_eq_false_iff_eq.2 he
      have Hnet := Lib.hid hnet
      have Hok := Lib.hid hok
      have Hbd := Lib.hid (netL_bd hok)
      have HSn := Lib.hid (netL_snoc 0 qs)
      clear hnet hok he y3
      go_wp2_with fail
      go_loopg [5, 6] qs.length (fun g n i wx => ∃ k : Nat, k + g = qs.length ∧ i = .int .i64 k ∧ n = .int .i64 (netL 0 (qs.take k)) ∧ Below Y.heap.size Y wx)
      case atStart => exact ⟨0, by omega, rfl, rfl, Below.refl _ _⟩
      case round =>
        obtain ⟨wo, rfl⟩ : ∃ wo : World, wo = wr := ⟨_, rfl⟩
        obtain ⟨k, hkg, rfl, rfl, hbr⟩ := hrel
        have Hbr := Lib.hid hbr
        have r2 := (hbr.block _ hyl).trans HrY.out
        have y3 := cell_of_row wo _ 3 _ _ _ r2
        have y4 := cell_of_row wo _ 4 _ _ _ r2
        have hbo := hbr.size
        clear r2
        cases gk with
        | zero =>
          have hkz : ¬ ((k : Int) < (qs.length : Int)) := by omega
          have HE := Lib.hid (show netL 0 (qs.take k) = qn by rw [List.take_of_length_le (by omega)]; exact Hnet.out.symm)
          rw [HE.out]
          have hqq : (qn == qn) = true := beq_self_eq_true _
          clear hkg hbr
          go_wp2_with fail
          refine (HAl.out wo).mono ?_
          rintro e w5 ⟨rfl, hb5⟩
          have H5 := Lib.hid (HwwY.out.trans ((Hbr.out.trans (hb5.mono hbo)).mono HwwY.out.size))
          clear hb5
          go_wp2
          go_ret
          exact ⟨rfl, H5.out⟩
        | succ gout =>
          have hlt : k < qs.length := by omega
          have hk1 : (k : Int) < (qs.length : Int) := by omega
          have hk0 : (0 : Int) ≤ (k : Int) := Int.natCast_nonneg _
          obtain ⟨av2, cap2, e2, -, -, hx⟩ := HcY.out
          cases e2
          obtain ⟨b1, o1, rfl, hB1, hx⟩ := hx (by rintro rfl; cases hlt)
          have c := fun j (hj : j < 5) => (hbr.cell (p := ⟨b1, _, none⟩) hB1).trans (hx k hlt j hj)
          have HSk := Lib.hid (HSn.out k hlt)
          obtain ⟨hn1, hn2⟩ := Hbd.out k (by omega)
          have hokk := Hok.out qs[k] (List.getElem_mem hlt)
          clear hx
          generalize qs[k] = y at *
          have hcap := okChg_caps hokk
          obtain ⟨ham0, ham1, hcn, -⟩ := hokk
          obtain ⟨kd, ib, cn, un, am⟩ := y
          unfold chCells at c
          dsimp only at c hcap ham0 ham1 hcn HSk
          have c0 : wo.cell? ⟨b1, o1 + k * 5, none⟩ = some (.int .i64 kd) := c 0 (by omega)
          have c1 := c 1 (by omega)
          have c2 := c 2 (by omega)
          have c3 := c 3 (by omega)
          have c4 := c 4 (by omega)
          clear c
          obtain ⟨Z, hZ⟩ : ∃ Z, Z = wo.alloc (Obj.cells #[Value.int .i64 kd, .bool ib, .int .i64 cn, .int .i64 un, .int .i64 am] 49) := ⟨_, rfl⟩
          have hbZ : Below wo.heap.size wo Z := by rw [hZ]; exact (Below.refl _ _).alloc (Nat.le_refl _) _
          have rZ : Z.heap[wo.heap.size]? = some (Obj.cells #[Value.int .i64 kd, .bool ib, .int .i64 cn, .int .i64 un, .int .i64 am] 49) := by rw [hZ]; exact heap_alloc_new _ _
          have hzl : wo.heap.size < Z.heap.size := (Array.getElem?_eq_some_iff.1 rZ).1
          have hYZ := hbr.trans (hbZ.mono hbo)
          have HZ := Lib.hid hZ
          have HrZ := Lib.hid rZ
          have HYZ := Lib.hid hYZ
          have HLs := Lib.hid (limL_snoc pa kd ib l)
          have HFs := Lib.hid (freeL_snoc pa kd ib l)
          have hrx := (hYZ.block _ hxl).trans HrXY.out
          have HrXZ := Lib.hid hrx
          have hxZ : w.heap.size < Z.heap.size := by omega
          have hcapH := Lib.hid hcap
          clear hZ rZ hbZ hYZ hrx hcap
          go_upto_region 11 with (fail)
          rw [← HZ.out]
          clear c0 c1 c2 c3 c4 y3 y4
          go_wp2_with fail
          go_loopg [8, 9, 10] l.length (fun g lim fr i wx => ∃ j : Nat, j + g = l.length ∧ i = .int .i64 j ∧ CapR l pa kd ib j lim fr ∧ Below Z.heap.size Z wx)
          case atStart => exact ⟨0, by omega, rfl, ⟨rfl, rfl⟩, Below.refl _ _⟩
          case round =>
            obtain ⟨j, hjg, rfl, ⟨rfl, rfl⟩, hbj⟩ := hrel
            have Hbj := Lib.hid hbj
            have q1 := (hbj.block _ hxZ).trans HrXZ.out
            have q2 := (hbj.block _ hzl).trans HrZ.out
            have x0 := cell_of_row wr _ 0 _ _ _ q1
            have x2 := cell_of_row wr _ 2 _ _ _ q1
            have z0 := cell_of_row wr _ 0 _ _ _ q2
            have z1 := cell_of_row wr _ 1 _ _ _ q2
            have z2 := cell_of_row wr _ 2 _ _ _ q2
            have z4 := cell_of_row wr _ 4 _ _ _ q2
            clear q1 q2
            cases gk with
            | zero =>
              have hjz : ¬ ((j : Int) < (l.length : Int)) := by omega
              have HE := Lib.hid (show l.take j = l from List.take_of_length_le (by omega))
              rw [HE.out]
              have hcap := hcapH.out
              generalize limL pa kd ib l = lim at *
              generalize freeL pa kd ib l = fr at *
              have k1 : ¬ am < 0 := by omega
              have k2 : ¬ cn < 1 := by omega
              have hbY5 := HYZ.out.trans (hbj.mono HYZ.out.size)
              have HbY5 := Lib.hid hbY5
              generalize netL 0 (qs.take k) = nt at *
              have hw1 : IntKind.i64.wrap (nt + am) = nt + am := IntWalk.i64_in _ (by omega)
              have hw2 : IntKind.i64.wrap (nt - am) = nt - am := IntWalk.i64_in _ (by omega)
              clear hjg hbj hbY5 hbr
              cases fr with
              | true =>
                clear hcap
                cases ib with
                | true =>
                  have HN := Lib.hid (HSk.out.trans (if_pos rfl))
                  go_wp2
                  go_roundg gout
                  case measure => omega
                  case rel => exact ⟨k + 1, by omega, by first | rfl | simp, by rw [HN.out], HbY5.out⟩
                | false =>
                  have HN := Lib.hid (HSk.out.trans (if_neg (by simp)))
                  go_wp2
                  go_roundg gout
                  case measure => omega
                  case rel => exact ⟨k + 1, by omega, by first | rfl | simp, by rw [HN.out], HbY5.out⟩
              | false =>
                have k3 : ¬ lim < am := by have := hcap.resolve_left (by simp); omega
                clear hcap
                cases ib with
                | true =>
                  have HN := Lib.hid (HSk.out.trans (if_pos rfl))
                  go_wp2
                  go_roundg gout
                  case measure => omega
                  case rel => exact ⟨k + 1, by omega, by first | rfl | simp, by rw [HN.out], HbY5.out⟩
                | false =>
                  have HN := Lib.hid (HSk.out.trans (if_neg (by simp)))
                  go_wp2
                  go_roundg gout
                  case measure => omega
                  case rel => exact ⟨k + 1, by omega, by first | rfl | simp, by rw [HN.out], HbY5.out⟩
            | succ gin =>
              have hjl : j < l.length := by omega
              have hj1 : (j : Int) < (l.length : Int) := by omega
              have hj0 : (0 : Int) ≤ (j : Int) := Int.natCast_nonneg _
              obtain ⟨sa2, sc2, e2, -, -, hx⟩ := HlY.out
              cases e2
              obtain ⟨bs, os, rfl, hBs, hx⟩ := hx (by rintro rfl; cases hjl)
              obtain ⟨d0, d1, d2, d3, d4, ⟨sv, d5, hsv, -⟩, d6⟩ := hx j hjl
              have hYr := HYZ.out.trans (hbj.mono HYZ.out.size)
              have d0 := (hYr.cell (p := ⟨bs, _, none⟩) hBs).trans d0
              have d1 := (hYr.cell (p := ⟨bs, _, none⟩) hBs).trans d1
              have d2 := (hYr.cell (p := ⟨bs, _, none⟩) hBs).trans d2
              have d3 := (hYr.cell (p := ⟨bs, _, none⟩) hBs).trans d3
              have d4 := (hYr.cell (p := ⟨bs, _, none⟩) hBs).trans d4
              have d5 := (hYr.cell (p := ⟨bs, _, none⟩) hBs).trans d5
              have d6 := (hYr.cell (p := ⟨bs, _, none⟩) hBs).trans d6
              obtain ⟨xa, xc, rfl, -, -⟩ := hsv
              have HL1 := Lib.hid (HLs.out j hjl)
              have HF1 := Lib.hid (HFs.out j hjl)
              clear hx hYr
              generalize l[j] = ag at *
              obtain ⟨ap, ak, ai, af, at0, ast, acp⟩ := ag
              dsimp only at d0 d1 d2 d3 d4 d5 d6 HL1 HF1
              have HFo := Lib.hid (show forB pa kd ib ⟨ap, ak, ai, af, at0, ast, acp⟩ = ((ap == pa) && (ak == kd) && (ai == ib)) from rfl)
              obtain ⟨V, hV⟩ : ∃ V, V = wr.alloc (Obj.cells #[Value.int .i64 ap, .int .i64 ak, .bool ai, .int .i64 af, .int .i64 at0, .slice xa ast.length xc, .int .i64 acp] 53) := ⟨_, rfl⟩
              have hbV : Below wr.heap.size wr V := by rw [hV]; exact (Below.refl _ _).alloc (Nat.le_refl _) _
              have rV : V.heap[wr.heap.size]? = some (Obj.cells #[Value.int .i64 ap, .int .i64 ak, .bool ai, .int .i64 af, .int .i64 at0, .slice xa ast.length xc, .int .i64 acp] 53) := by rw [hV]; exact heap_alloc_new _ _
              have hZV := hbj.trans (hbV.mono hbj.size)
              have HZV := Lib.hid hZV
              have q1 := (hZV.block _ hxZ).trans HrXZ.out
              have q2 := (hZV.block _ hzl).trans HrZ.out
              have v0 := cell_of_row V _ 0 _ _ _ rV
              have v1 := cell_of_row V _ 1 _ _ _ rV
              have v2 := cell_of_row V _ 2 _ _ _ rV
              have v6 := cell_of_row V _ 6 _ _ _ rV
              have u2 := cell_of_row V _ 2 _ _ _ q1
              have u0 := cell_of_row V _ 0 _ _ _ q2
              have u1 := cell_of_row V _ 1 _ _ _ q2
              have HV := Lib.hid hV
              clear hV hbV rV hZV q1 q2 hbj
              go_upto_region 16 with (fail)
              rw [← HV.out]
              clear d0 d1 d2 d3 d4 d5 d6 x0 x2 z0 z1 z2 z4
              generalize limL pa kd ib (l.take j) = lim at *
              generalize freeL pa kd ib (l.take j) = fr at *
              cases h1b : (ap == pa) with
              | false =>
                have HE1 := Lib.hid (HL1.out.trans (if_neg (by rw [HFo.out, h1b]; simp)))
                have HE2 := Lib.hid (HF1.out.trans (if_neg (by rw [HFo.out, h1b]; simp)))
                go_wp2
                go_roundg gin
                case measure => omega
                case rel => exact ⟨j + 1, by omega, by first | rfl | simp, ⟨by rw [HE1.out], by rw [HE2.out]⟩, HZV.out⟩
              | true =>
                cases h2b : (ak == kd) with
                | false =>
                  have HE1 := Lib.hid (HL1.out.trans (if_neg (by rw [HFo.out, h2b]; simp)))
                  have HE2 := Lib.hid (HF1.out.trans (if_neg (by rw [HFo.out, h2b]; simp)))
                  go_wp2
                  go_roundg gin
                  case measure => omega
                  case rel => exact ⟨j + 1, by omega, by first | rfl | simp, ⟨by rw [HE1.out], by rw [HE2.out]⟩, HZV.out⟩
                | true =>
                  cases h3b : (ai == ib) with
                  | false =>
                    have HE1 := Lib.hid (HL1.out.trans (if_neg (by rw [HFo.out, h3b]; simp)))
                    have HE2 := Lib.hid (HF1.out.trans (if_neg (by rw [HFo.out, h3b]; simp)))
                    go_wp2
                    go_roundg gin
                    case measure => omega
                    case rel => exact ⟨j + 1, by omega, by first | rfl | simp, ⟨by rw [HE1.out], by rw [HE2.out]⟩, HZV.out⟩
                  | true =>
                    have HE1 := Lib.hid (HL1.out.trans (if_pos (by rw [HFo.out, h1b, h2b, h3b]; rfl)))
                    have HE2 := Lib.hid (HF1.out.trans (if_pos (by rw [HFo.out, h1b, h2b, h3b]; rfl)))
                    go_upto_region 17 with (fail)
                    clear h1b h2b h3b
                    cases fr with
                    | true =>
                      go_wp2
                      go_roundg gin
                      case measure => omega
                      case rel => exact ⟨j + 1, by omega, by first | rfl | simp, ⟨by rw [HE1.out], by rw [HE2.out]; rfl⟩, HZV.out⟩
                    | false =>
                      go_wp2
                      go_roundg gin
                      case measure => omega
                      case rel => exact ⟨j + 1, by omega, by first | rfl | simp, ⟨by rw [HE1.out], by rw [HE2.out]; simp⟩, HZV.out⟩
    · have heb : (er != 0) = true := bne_iff_ne.2 he
      have HQ := Lib.hid (congrArg Stm.cs (HErr.out he))
      obtain rfl : qs = [] := HQ.out
      clear he
      go_wp2_with fail
      refine (HAl.out Y).mono ?_
      rintro e w5 ⟨rfl, hb5⟩
      have H5 := Lib.hid (HwwY.out.trans (hb5.mono HwwY.out.size))
      clear hb5 y3
      go_wp2
      go_ret
      exact ⟨rfl, H5.out⟩
end Go.Proofs.YtohmdohbmmbbkaaDoor
