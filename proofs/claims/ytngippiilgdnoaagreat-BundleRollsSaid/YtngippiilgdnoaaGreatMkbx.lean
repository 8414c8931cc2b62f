/-
  The law on the units of the buckets that an Advance adds.
-/
import Derived.Test.YtngippiilgdnoaaGreatMkbt
set_option maxRecDepth 100000
set_option maxHeartbeats 25600000
namespace Go.Proofs.YtngippiilgdnoaaGreat
open Go.RowKit
theorem rolls35_law (l : List Ev) (P : List Pd) (L : List Bu) (WL CL : List I5) (ea pa ba wa ca : Option Addr) (en pn ec pc bc wc cc : Nat) (X : List BuX) (ac : Int) (t : Int) (ht1 : -9223372036854775808 ≤ t) (ht2 : t ≤ 9223372036854775807) (w : World) (he : EvsAt w (.slice ea en ec) l) (hp : PdsAt w (.slice pa pn pc) P) (hs : StIn w L WL CL ba bc X wa wc ca cc) (hk : ∀ b ∈ L, KeyB b) :
 Calls Tryz.prog 8 #[.agg #[.slice ea en ec, .slice pa pn pc, .slice ba X.length bc, .slice wa WL.length wc, .slice ca CL.length cc, .int .i64 ac], .int .i64 t] w fun e w' => e = .returned (.bool true) ∧ Below w.heap.size w w' := by
 obtain ⟨W, hW⟩ : ∃ W, W = w.alloc (Obj.cells #[.slice ea en ec, .slice pa pn pc, .slice ba X.length bc, .slice wa WL.length wc, .slice ca CL.length cc, .int .i64 ac] 47) := ⟨_, rfl⟩
 have hw0 : Below w.heap.size w W := by rw [hW]; exact (Below.refl _ _).alloc (Nat.le_refl _) _
 have rW : W.heap[w.heap.size]? = some (Obj.cells #[.slice ea en ec, .slice pa pn pc, .slice ba X.length bc, .slice wa WL.length wc, .slice ca CL.length cc, .int .i64 ac] 47) := by rw [hW]; exact heap_alloc_new _ _
 have hzW : w.heap.size < W.heap.size := (ltB9 rW)
 have HM := hZ9 (show ∀ w', Below W.heap.size W w' → w'.cell? ⟨w.heap.size, 0, none⟩ = some (.slice ea en ec) ∧ w'.cell? ⟨w.heap.size, 1, none⟩ = some (.slice pa pn pc) ∧ w'.cell? ⟨w.heap.size, 2, none⟩ = some (.slice ba X.length bc) ∧ w'.cell? ⟨w.heap.size, 3, none⟩ = some (.slice wa WL.length wc) ∧ w'.cell? ⟨w.heap.size, 4, none⟩ = some (.slice ca CL.length cc) ∧ w'.cell? ⟨w.heap.size, 5, none⟩ = some (.int .i64 ac) from fun w' hb => by
  have q := (hb.block _ hzW).trans rW
  exact ⟨cell_of_row w' _ 0 _ _ _ q, cell_of_row w' _ 1 _ _ _ q, cell_of_row w' _ 2 _ _ _ q, cell_of_row w' _ 3 _ _ _ q, cell_of_row w' _ 4 _ _ _ q, cell_of_row w' _ 5 _ _ _ q⟩)
 have HW := hZ9 hW
 have Hw0 := hZ9 hw0
 have HE := hZ9 (fun w' (hb : Below W.heap.size W w') => he.below (hw0.trans (hb.mono hw0.size)))
 have HP := hZ9 (fun w' (hb : Below W.heap.size W w') => hp.below (hw0.trans (hb.mono hw0.size)))
 have HS := hZ9 (fun w' (hb : Below W.heap.size W w') => hs.below (hw0.trans (hb.mono hw0.size)))
 have Hk := hZ9 hk
 have HLn := hZ9 hs.len
 have hbn : X.length ≤ maxLen := by obtain ⟨_, _, e, q1, q2⟩ := rec_shape hs.bu; cases e; omega
 have hwn : WL.length ≤ maxLen := by obtain ⟨_, _, e, q1, q2⟩ := rec_shape hs.wal; cases e; omega
 have hcn : CL.length ≤ maxLen := by obtain ⟨_, _, e, q1, q2⟩ := rec_shape hs.cnt; cases e; omega
 have HV := hZ9 (valid35_calls ea pa ba wa ca en pn X.length WL.length CL.length ec pc bc wc cc ac t l P W (HE.out W (Below.refl _ _)) (HP.out W (Below.refl _ _)) hbn hwn hcn ht1 ht2)
 have Ht1 := hZ9 ht1
 have Ht2 := hZ9 ht2
 have HwW := hZ9 hzW
 obtain ⟨m0, m1, m2, m3, m4, m5⟩ := HM.out W (Below.refl _ _)
 clear hW rW hw0 he hp hs hk hbn hwn hcn hzW
 go_enter Tryz.func8, Tryz.ntmps8
 go_upto_region 1 with (fail)
 rw [← HW.out]
 go_wp2_with fail
 refine HV.out.mono ?_
 rintro e w1 ⟨⟨b, rfl, hv⟩, hb1⟩
 have HbW := hZ9 hb1
 have Hb1 := hZ9 (Hw0.out.trans (hb1.mono Hw0.out.size))
 have Hv := hZ9 hv
 clear m0 m1 m2 m3 m4 m5 hb1 hv
 obtain ⟨m0, m1, m2, m3, m4, m5⟩ := HM.out w1 HbW.out
 cases b with
 | false =>
   clear m0 m1 m2 m3 m4 m5
   go_wp2_with fail
   refine (alive35_calls w1).mono ?_
   rintro e wA ⟨rfl, hbA⟩
   have HbA := hZ9 (Hb1.out.trans (hbA.mono Hb1.out.size))
   clear hbA
   go_wp2
   go_ret
   exact ⟨rfl, HbA.out⟩
 | true =>
   have HC := hZ9 (Hv.out rfl)
   have HOr := hZ9 (ordered_calls _ X w1 (HS.out w1 HbW.out).bu)
   rw [(HS.out w1 HbW.out).pl] at HOr
   have HL60 := hZ9 (show L.length ≤ 60 by rw [← HLn.out]; exact HC.out.bl)
   have HwL := hZ9 (show WL.length ≤ 1000 from Nat.le_trans HC.out.wl (by decide))
   have HcL := hZ9 (show CL.length ≤ 1000 from Nat.le_trans HC.out.cl (by decide))
   clear HV Hv
   go_wp2_with fail
   refine HOr.out.mono ?_
   rintro e w2 ⟨⟨b, rfl, ho⟩, hb2⟩
   have HbW2 := hZ9 (HbW.out.trans (hb2.mono HbW.out.size))
   have Hb2 := hZ9 (Hb1.out.trans (hb2.mono Hb1.out.size))
   have Ho := hZ9 ho
   clear m0 m1 m2 m3 m4 m5 hb2 ho HOr
   cases b with
   | false =>
     go_wp2_with fail
     refine (alive35_calls w2).mono ?_
     rintro e wA ⟨rfl, hbA⟩
     have HbA := hZ9 (Hb2.out.trans (hbA.mono Hb2.out.size))
     clear hbA
     go_wp2
     go_ret
     exact ⟨rfl, HbA.out⟩
   | true =>
     have HO := hZ9 (Ho.out.1 rfl)
     obtain ⟨m0, m1, m2, m3, m4, m5⟩ := HM.out w2 HbW2.out
     have Mk := hZ9 (show ∀ w', Below w2.heap.size w2 w' → Below w2.heap.size w2 w' ∧ w'.cell? ⟨w.heap.size, 0, none⟩ = some (.slice ea en ec) ∧ w'.cell? ⟨w.heap.size, 1, none⟩ = some (.slice pa pn pc) ∧ w'.cell? ⟨w.heap.size, 2, none⟩ = some (.slice ba X.length bc) ∧ w'.cell? ⟨w.heap.size, 3, none⟩ = some (.slice wa WL.length wc) ∧ w'.cell? ⟨w.heap.size, 4, none⟩ = some (.slice ca CL.length cc) ∧ w'.cell? ⟨w.heap.size, 5, none⟩ = some (.int .i64 ac) from fun w' hb => ⟨hb, HM.out w' (HbW2.out.trans (hb.mono HbW2.out.size))⟩)
     have HIn := hZ9 (fun w' (hb : Below w2.heap.size w2 w') => HbW2.out.trans (hb.mono HbW2.out.size))
     clear Ho
     have HAdv := hZ9 (padv_calls l P ac t _ _ L WL CL ba wa ca bc wc cc X w2 HC.out.c HC.out.near (by have := Ht2.out; omega) (HE.out w2 HbW2.out) (HP.out w2 HbW2.out) (HS.out w2 HbW2.out) Hk.out (by have := HL60.out; omega) HwL.out HcL.out)
     go_wp2_with fail
     refine HAdv.out.mono ?_
     rintro e w3 ⟨G, hg, a3, c3, X3, wa3, wc3, ca3, cc3, rfl, hs3, hb3⟩
     obtain ⟨V, hV⟩ : ∃ V, V = w3.alloc (Obj.cells #[.slice a3 X3.length c3, .slice wa3 WL.length wc3, .slice ca3 CL.length cc3] 45) := ⟨_, rfl⟩
     have hbV : Below w3.heap.size w3 V := by rw [hV]; exact (Below.refl _ _).alloc (Nat.le_refl _) _
     have VN := hZ9 (show V.heap[w3.heap.size]? = some (Obj.cells #[.slice a3 X3.length c3, .slice wa3 WL.length wc3, .slice ca3 CL.length cc3] 45) by rw [hV]; exact heap_alloc_new _ _)
     have HV := hZ9 hV
     have HG := hZ9 hg
     have HS3 := hZ9 hs3
     have HbV3 := hZ9 hbV
     have HbV := hZ9 (HbW2.out.trans ((hb3.trans (hbV.mono hb3.size)).mono HbW2.out.size))
     have Hle3 := hZ9 (show W.heap.size ≤ w3.heap.size from Nat.le_trans HbW2.out.size hb3.size)
     clear hV hg hs3 hbV hb3 HAdv Mk HIn m0 m1 m2 m3 m4 m5
     obtain ⟨m0, m1, m2, m3, m4, m5⟩ := HM.out V HbV.out
     have e0 := cell_of_row V _ 0 _ _ _ VN.out
     have e1 := cell_of_row V _ 1 _ _ _ VN.out
     have e2 := cell_of_row V _ 2 _ _ _ VN.out
     go_upto_region 4 with (fail)
     rw [← HV.out]
     have hov : w3.heap.size < V.heap.size := (ltB9 VN.out)
     have hwl : w.heap.size < W.heap.size := HwW.out
     have HPl := hZ9 (show plB X = L from (HS.out W (Below.refl _ _)).pl)
     obtain ⟨q1, q2, e9, q3, q4, -⟩ := HS3.out.bu
     cases e9
     have q5 := q4.1
     unfold maxLen at q5
     clear q4
     go_wp2_with fail
     go_loopw [6] (fun i wr => ∃ k : Nat, k ≤ X3.length ∧ i = .int .i64 k ∧ Below V.heap.size V wr) (fun i _ => X3.length - (intOf i).toNat)
     case atStart => exact ⟨0, Nat.zero_le _, rfl, Below.refl _ _⟩
     case round =>
      obtain ⟨wo, rfl⟩ : ∃ wo : World, wo = wr := ⟨_, rfl⟩
      obtain ⟨k, hk, rfl, hb⟩ := hrel
      have Hbo := hZ9 hb
      have hk0 : (0 : Int) ≤ (k : Int) := Int.natCast_nonneg _
      have Ov := hZ9 ((hb.block _ hov).trans VN.out)
      have e0 := cell_of_row wo _ 0 _ _ _ Ov.out
      by_cases hlt : k < X3.length
      · have hk1 : (k : Int) < (X3.length : Int) := by omega
        obtain ⟨a9, c9, e9, -, -, hx⟩ := (HS3.out.below (HbV3.out.trans (hb.mono HbV3.out.size))).bu
        cases e9
        obtain ⟨bb, o, rfl, hB, hx⟩ := hx (by rintro rfl; cases hlt)
        have hx := hx k hlt
        obtain ⟨x0, x1, x2, x3, x4, x5, x6, x7, x8, x9, x10, x11⟩ := bu12 hx
        have HRy := hZ9 ((HS3.out.below (HbV3.out.trans (hb.mono HbV3.out.size))).rd _ (List.getElem_mem hlt))
        have HMy := hZ9 (show (X3[k]).b ∈ foldG G L by rw [← HS3.out.pl]; exact List.mem_map_of_mem (List.getElem_mem hlt))
        clear hx
        generalize X3[k] = y at *
        obtain ⟨Y, hY⟩ : ∃ Y, Y = wo.alloc (Obj.cells #[.int .i64 y.b.ac, .int .i64 y.b.sb, .string y.b.pr, .int .i64 y.b.ix, .int .i64 y.b.kd, .slice y.za y.zn y.zc, .int .i64 y.b.f, .int .i64 y.b.t, .int .i64 y.b.un, .int .i64 y.b.lf, .int .i64 y.b.pt, .bool y.b.sh] 60) := ⟨_, rfl⟩
        have hbY : Below wo.heap.size wo Y := by rw [hY]; exact (Below.refl _ _).alloc (Nat.le_refl _) _
        have YN := hZ9 (show Y.heap[wo.heap.size]? = some (Obj.cells #[.int .i64 y.b.ac, .int .i64 y.b.sb, .string y.b.pr, .int .i64 y.b.ix, .int .i64 y.b.kd, .slice y.za y.zn y.zc, .int .i64 y.b.f, .int .i64 y.b.t, .int .i64 y.b.un, .int .i64 y.b.lf, .int .i64 y.b.pt, .bool y.b.sh] 60) by rw [hY]; exact heap_alloc_new _ _)
        have HbY := hZ9 (hb.trans (hbY.mono hb.size))
        have HbYW := hZ9 (HbV.out.trans (HbY.out.mono HbV.out.size))
        have HRy2 := hZ9 (HRy.out.below hbY)
        have HY := hZ9 hY
        have hyn : wo.heap.size < Y.heap.size := (ltB9 YN.out)
        have hwY : w.heap.size < Y.heap.size := Nat.lt_of_lt_of_le hwl HbYW.out.size
        clear hY hbY hb
        go_upto_region 8 with (fail)
        rw [← HY.out]
        clear e0 x0 x1 x2 x3 x4 x5 x6 x7 x8 x9 x10 x11
        have m2 := fun p : BelowOf Y => BelowOf.cell (a := ⟨w.heap.size, 2, none⟩) hwY (HM.out Y HbYW.out).2.2.1 p
        have y0 := fun p : BelowOf Y => BelowOf.cell (a := ⟨wo.heap.size, 0, none⟩) hyn (cell_of_row Y _ 0 _ _ _ YN.out) p
        have y1 := fun p : BelowOf Y => BelowOf.cell (a := ⟨wo.heap.size, 1, none⟩) hyn (cell_of_row Y _ 1 _ _ _ YN.out) p
        have y2 := fun p : BelowOf Y => BelowOf.cell (a := ⟨wo.heap.size, 2, none⟩) hyn (cell_of_row Y _ 2 _ _ _ YN.out) p
        have y3 := fun p : BelowOf Y => BelowOf.cell (a := ⟨wo.heap.size, 3, none⟩) hyn (cell_of_row Y _ 3 _ _ _ YN.out) p
        have y4 := fun p : BelowOf Y => BelowOf.cell (a := ⟨wo.heap.size, 4, none⟩) hyn (cell_of_row Y _ 4 _ _ _ YN.out) p
        have y5 := fun p : BelowOf Y => BelowOf.cell (a := ⟨wo.heap.size, 5, none⟩) hyn (cell_of_row Y _ 5 _ _ _ YN.out) p
        have y6 := fun p : BelowOf Y => BelowOf.cell (a := ⟨wo.heap.size, 6, none⟩) hyn (cell_of_row Y _ 6 _ _ _ YN.out) p
        have y7 := fun p : BelowOf Y => BelowOf.cell (a := ⟨wo.heap.size, 7, none⟩) hyn (cell_of_row Y _ 7 _ _ _ YN.out) p
        have y8 := fun p : BelowOf Y => BelowOf.cell (a := ⟨wo.heap.size, 8, none⟩) hyn (cell_of_row Y _ 8 _ _ _ YN.out) p
        have y9 := fun p : BelowOf Y => BelowOf.cell (a := ⟨wo.heap.size, 9, none⟩) hyn (cell_of_row Y _ 9 _ _ _ YN.out) p
        have y10 := fun p : BelowOf Y => BelowOf.cell (a := ⟨wo.heap.size, 10, none⟩) hyn (cell_of_row Y _ 10 _ _ _ YN.out) p
        have y11 := fun p : BelowOf Y => BelowOf.cell (a := ⟨wo.heap.size, 11, none⟩) hyn (cell_of_row Y _ 11 _ _ _ YN.out) p
        have HId := hZ9 (fun w1 => id35_calls y w1)
        have HFi := hZ9 (fun w1 (hb1 : Below Y.heap.size Y w1) => find33_calls _ X y.b.sb y.b.pr y.b.ix y.b.f 0 w1 (HS.out w1 (HbYW.out.trans (hb1.mono HbYW.out.size))).bu)
        rw [HPl.out] at HFi
        have HEx := hZ9 (existsB_ix L y.b)
        have HIxc := hZ9 (ixOf_cases (idIs y.b.sb y.b.pr y.b.ix y.b.f) L)
        unfold buVal at HId
        generalize ixOf (idIs y.b.sb y.b.pr y.b.ix y.b.f) L = ix at *
        refine wp_region_quiet_below (Below.refl Y.heap.size Y) (by kernel_rfl) (by kernel_rfl) ?_
        repeat (go_big_quiet_step (first | (go_at_call 27; refine calls_below_of (HId.out _) (fun e w' h => h)) | (go_at_call 26; refine calls_below_of (HFi.out _ (by first | assumption | exact BelowOf.h (by assumption))) (fun e w' h => h))))
        refine wpQuiet_nil ?_
        intro wz hw'
        have hYa : Below Y.heap.size Y wz := by obtain ⟨pq, rfl⟩ := hw'; exact pq.h
        have Zn := hZ9 ((hYa.block _ hyn).trans YN.out)
        have HbZ := hZ9 (HbY.out.trans (hYa.mono HbY.out.size))
        have HbZW := hZ9 (HbV.out.trans (HbZ.out.mono HbV.out.size))
        have HRz := hZ9 (HRy2.out.below hYa)
        clear hw' hYa m2 y0 y1 y2 y3 y4 y5 y6 y7 y8 y9 y10 y11 HFi HId
        by_cases hix : 0 ≤ ix
        · have HEy := hZ9 (show existsB L y.b = true by rw [← HEx.out]; exact decide_eq_true hix)
          clear HIxc
          go_wp2
          exact ⟨⟨k + 1, hlt, by go_num, HbZ.out⟩, by simp [intOf]; omega⟩
        have HEy := hZ9 (show existsB L y.b = false by rw [← HEx.out]; exact decide_eq_false hix)
        have hNew := new_of HC.out.c.r HC.out.c.ok HG.out HMy.out HEy.out
        obtain ⟨x, i, dd, hat, hxP, -, hi, e3, e4, -, e6, e7, e8, e9, -⟩ := hNew.bd
        have hi2 : i < x.bs.length := (List.getElem?_eq_some_iff.1 hi).1
        have hde : x.bs[i] = dd := (List.getElem?_eq_some_iff.1 hi).2
        have Hdd := hZ9 ((HC.out.c.ok x hxP).bs dd (List.mem_of_getElem? hi)).2.2.1
        have HRa := hZ9 (rat_calls _ P y.b.pr y.b.f wz (HP.out wz HbZW.out))
        rw [hat] at HRa
        have HX4 := hZ9 (HC.out.c.b x hxP)
        clear HIxc hNew hat hxP
        obtain ⟨m0, m1, m2, m3, m4, m5⟩ := HM.out wz HbZW.out
        have tQ := fun j => cell_of_row wz _ j _ _ _ Zn.out
        have y0 := tQ 0
        have y1 := tQ 1
        have y2 := tQ 2
        have y3 := tQ 3
        have y4 := tQ 4
        have y5 := tQ 5
        have y6 := tQ 6
        have y7 := tQ 7
        have y8 := tQ 8
        have y9 := tQ 9
        have y10 := tQ 10
        have y11 := tQ 11
        clear tQ
        go_wp2_with fail
        refine HRa.out.mono ?_
        intro e w5 hr
        obtain ⟨bv, rfl, hbv, hb5⟩ : AtYes wz x e w5 := hr
        obtain ⟨ba2, bc2, rfl, hbl, hbm, hbx⟩ := id hbv
        obtain ⟨b6, o6, rfl, hB6, hbx⟩ := hbx (by intro h; rw [h] at hi2; cases hi2)
        have hbd := hbx i hi2
        rw [hde] at hbd
        obtain ⟨za, zc, z0, z1, hzs, z2, z3, z4, z5⟩ := bd_zones hbd
        unfold pdVal
        clear hbx hbd hbv hi hde
        generalize x.nm = nm at *
        generalize x.fm = fm at *
        generalize x.fe = fe at *
        generalize x.ct = ct at *
        generalize x.pro = pro at *
        generalize x.bs = bs at *
        obtain ⟨Q, hQ⟩ : ∃ Q, Q = w5.alloc (Obj.cells #[.string nm, .int .i64 fm, .int .i64 fe, .string ct, .bool pro, .slice (some ⟨b6, o6, none⟩) bs.length bc2] 72) := ⟨_, rfl⟩
        have hbQ : Below w5.heap.size w5 Q := by rw [hQ]; exact (Below.refl _ _).alloc (Nat.le_refl _) _
        have QN := hZ9 (show Q.heap[w5.heap.size]? = some (Obj.cells #[.string nm, .int .i64 fm, .int .i64 fe, .string ct, .bool pro, .slice (some ⟨b6, o6, none⟩) bs.length bc2] 72) by rw [hQ]; exact heap_alloc_new _ _)
        have HQ := hZ9 hQ
        have HbQ := hZ9 (HbZ.out.trans ((hb5.trans (hbQ.mono hb5.size)).mono HbZ.out.size))
        have Qy := hZ9 (((hb5.trans (hbQ.mono hb5.size)).block _ (ltB9 Zn.out)).trans Zn.out)
        have hu0 := (hbQ.cell (p := ⟨b6, _, none⟩) hB6).trans z0
        have hu1 := (hbQ.cell (p := ⟨b6, _, none⟩) hB6).trans z1
        have hu2 := (hbQ.cell (p := ⟨b6, _, none⟩) hB6).trans z2
        have hu3 := (hbQ.cell (p := ⟨b6, _, none⟩) hB6).trans z3
        have hu4 := (hbQ.cell (p := ⟨b6, _, none⟩) hB6).trans z4
        have hu5 := (hbQ.cell (p := ⟨b6, _, none⟩) hB6).trans z5
        clear z0 z1 z2 z3 z4 z5 hzs hb5 hbQ hQ m0 m1 m2 m3 m4 m5 y0 y1 y2 y3 y4 y5 y6 y7 y8 y9 y10 y11
        go_upto_region 10 with (fail)
        rw [← HQ.out]
        have tQ := fun j => cell_of_row Q _ j _ _ _ Qy.out
        have y0 := tQ 0
        have y1 := tQ 1
        have y2 := tQ 2
        have y3 := tQ 3
        have y4 := tQ 4
        have y5 := tQ 5
        have y6 := tQ 6
        have y7 := tQ 7
        have y8 := tQ 8
        have y9 := tQ 9
        have y10 := tQ 10
        have y11 := tQ 11
        clear tQ
        have tQ := fun j => cell_of_row Q _ j _ _ _ QN.out
        have p0 := tQ 0
        have p1 := tQ 1
        have p2 := tQ 2
        have p3 := tQ 3
        have p4 := tQ 4
        have p5 := tQ 5
        clear tQ
        have i0 : (0 : Int) ≤ (i : Int) := Int.natCast_nonneg _
        have i1 : (i : Int) < (bs.length : Int) := by omega
        have ixe : y.b.ix = (i : Int) := e3
        generalize y.b.ix = yix at *
        subst ixe
        obtain ⟨D, hD⟩ : ∃ D, D = Q.alloc (Obj.cells #[.int .i64 dd.kd, .slice za dd.zs.length zc, .int .i64 dd.un, .int .i64 dd.ro, .int .i64 dd.pr, .bool dd.sh] 76) := ⟨_, rfl⟩
        have hbD : Below Q.heap.size Q D := by rw [hD]; exact (Below.refl _ _).alloc (Nat.le_refl _) _
        have DN := hZ9 (show D.heap[Q.heap.size]? = some (Obj.cells #[.int .i64 dd.kd, .slice za dd.zs.length zc, .int .i64 dd.un, .int .i64 dd.ro, .int .i64 dd.pr, .bool dd.sh] 76) by rw [hD]; exact heap_alloc_new _ _)
        have HD := hZ9 hD
        have HbD := hZ9 (HbQ.out.trans (hbD.mono HbQ.out.size))
        have Dy := hZ9 ((hbD.block _ (ltB9 Qy.out)).trans Qy.out)
        clear hD hbD
        go_upto_region 13 with (fail)
        rw [← HD.out]
        clear y0 y1 y2 y3 y4 y5 y6 y7 y8 y9 y10 y11 p0 p1 p2 p3 p4 p5 hu0 hu1 hu2 hu3 hu4 hu5 hB6
        have tQ := fun j => cell_of_row D _ j _ _ _ Dy.out
        have v0 := tQ 0
        have v1 := tQ 1
        have v2 := tQ 2
        have v3 := tQ 3
        have v4 := tQ 4
        have v5 := tQ 5
        have v6 := tQ 6
        have v7 := tQ 7
        have v8 := tQ 8
        have v9 := tQ 9
        have v10 := tQ 10
        have v11 := tQ 11
        clear tQ
        have tQ := fun j => cell_of_row D _ j _ _ _ DN.out
        have u0 := tQ 0
        have u1 := tQ 1
        have u2 := tQ 2
        have u3 := tQ 3
        have u4 := tQ 4
        have u5 := tQ 5
        clear tQ
        have d1 : ¬ y.b.un < dd.un := by omega
        have d2 : IntKind.i64.wrap (dd.un + dd.ro) = dd.un + dd.ro := IntWalk.i64_in _ (by have := Hdd.out; unfold Bd.ok at this; omega)
        have d3 : ¬ dd.un + dd.ro < y.b.un := by omega
        have d4 : y.b.kd = dd.kd := e4
        have d5 : y.b.pt = dd.pr := e6
        have d6 : y.b.sh = dd.sh := e7
        rw [d4] at v4
        rw [d5] at v10
        rw [d6] at v11
        go_wp2
        exact ⟨⟨k + 1, hlt, by go_num, HbD.out⟩, by simp [intOf]; omega⟩
      clear hb
      have HbF := hZ9 (HbV.out.trans (Hbo.out.mono HbV.out.size))
      have HbF0 := hZ9 (Hw0.out.trans (HbF.out.mono Hw0.out.size))
      go_wp2_with fail
      refine (alive35_calls wo).mono ?_
      rintro e wA ⟨rfl, hbA⟩
      have HbA := hZ9 (HbF0.out.trans (hbA.mono HbF0.out.size))
      clear hbA
      go_wp2
      go_ret
      exact ⟨rfl, HbA.out⟩
end Go.Proofs.YtngippiilgdnoaaGreat
