/-
  The law on the buckets that an Advance keeps and adds.
-/
import Derived.Test.YtngippiilgdnoaaGreatMkbt
set_option maxRecDepth 100000
set_option maxHeartbeats 25600000
namespace Go.Proofs.YtngippiilgdnoaaGreat
open Go.RowKit
theorem keeps35_law (l : List Ev) (P : List Pd) (L : List Bu) (WL CL : List I5) (ea pa ba wa ca : Option Addr) (en pn ec pc bc wc cc : Nat) (X : List BuX) (ac : Int) (t : Int) (ht1 : -9223372036854775808 ≤ t) (ht2 : t ≤ 9223372036854775807) (w : World) (he : EvsAt w (.slice ea en ec) l) (hp : PdsAt w (.slice pa pn pc) P) (hs : StIn w L WL CL ba bc X wa wc ca cc) (hk : ∀ b ∈ L, KeyB b) :
 Calls Tryz.prog 7 #[.agg #[.slice ea en ec, .slice pa pn pc, .slice ba X.length bc, .slice wa WL.length wc, .slice ca CL.length cc, .int .i64 ac], .int .i64 t] w fun e w' => e = .returned (.bool true) ∧ Below w.heap.size w w' := by
 obtain ⟨W, hW⟩ : ∃ W, W = w.alloc (Obj.cells #[.slice ea en ec, .slice pa pn pc, .slice ba X.length bc, .slice wa WL.length wc, .slice ca CL.length cc, .int .i64 ac] 47) := ⟨_, rfl⟩
 have hw0 : Below w.heap.size w W := by rw [hW]; exact (Below.refl _ _).alloc (Nat.le_refl _) _
 have rW : W.heap[w.heap.size]? = some (Obj.cells #[.slice ea en ec, .slice pa pn pc, .slice ba X.length bc, .slice wa WL.length wc, .slice ca CL.length cc, .int .i64 ac] 47) := by rw [hW]; exact heap_alloc_new _ _
 have hzW : w.heap.size < W.heap.size := (ltB9 rW)
 have HM := hZ9 (show ∀ w', Below W.heap.size W w' → w'.cell? ⟨w.heap.size, 0, none⟩ = some (.slice ea en ec) ∧ w'.cell? ⟨w.heap.size, 1, none⟩ = some (.slice pa pn pc) ∧ w'.cell? ⟨w.heap.size, 2, none⟩ = some (.slice ba X.length bc) ∧ w'.cell? ⟨w.heap.size, 3, none⟩ = some (.slice wa WL.length wc) ∧ w'.cell? ⟨w.heap.size, 4, none⟩ = some (.slice ca CL.length cc) ∧ w'.cell? ⟨w.heap.size, 5, none⟩ = some (.int .i64 ac) from fun w' hb => by
  have q := (hb.block _ hzW).trans rW
  exact ⟨cell_of_row w' _ 0 _ _ _ q, cell_of_row w' _ 1 _ _ _ q, cell_of_row w' _ 2 _ _ _ q, cell_of_row w' _ 3 _ _ _ q, cell_of_row w' _ 4 _ _ _ q, cell_of_row w' _ 5 _ _ _ q⟩)
 have HW := hZ9 hW
 have Hw0 := hZ9 hw0
 have HE := hZ9 (fun w' (hb : Below W.heap.size W w') => he.below (hw0.trans (hb.mono hw0.size)))
 have HP := hZ9 (fun w' (hb : Below W.heap.size W w') => hp.below (hw0.trans (hb.mono hw0.size)))
 have HS := hZ9 (fun w' (hb : Below W.heap.size W w') => hs.below (hw0.trans (hb.mono hw0.size)))
 have Hk := hZ9 hk
 have HLn := hZ9 hs.len
 have hbn : X.length ≤ maxLen := by obtain ⟨_, _, e, q1, q2⟩ := rec_shape hs.bu; cases e; omega
 have hwn : WL.length ≤ maxLen := by obtain ⟨_, _, e, q1, q2⟩ := rec_shape hs.wal; cases e; omega
 have hcn : CL.length ≤ maxLen := by obtain ⟨_, _, e, q1, q2⟩ := rec_shape hs.cnt; cases e; omega
 have HV := hZ9 (valid35_calls ea pa ba wa ca en pn X.length WL.length CL.length ec pc bc wc cc ac t l P W (HE.out W (Below.refl _ _)) (HP.out W (Below.refl _ _)) hbn hwn hcn ht1 ht2)
 have Ht1 := hZ9 ht1
 have Ht2 := hZ9 ht2
 have HwW := hZ9 hzW
 obtain ⟨m0, m1, m2, m3, m4, m5⟩ := HM.out W (Below.refl _ _)
 clear hW rW hw0 he hp hs hk hbn hwn hcn hzW
 go_enter Tryz.func7, Tryz.ntmps7
 go_upto_region 1 with (fail)
 rw [← HW.out]
 go_wp2_with fail
 refine HV.out.mono ?_
 rintro e w1 ⟨⟨b, rfl, hv⟩, hb1⟩
 have HbW := hZ9 hb1
 have Hb1 := hZ9 (Hw0.out.trans (hb1.mono Hw0.out.size))
 have Hv := hZ9 hv
 clear m0 m1 m2 m3 m4 m5 hb1 hv
 obtain ⟨m0, m1, m2, m3, m4, m5⟩ := HM.out w1 HbW.out
 cases b with
 | false =>
   clear m0 m1 m2 m3 m4 m5
   go_wp2_with fail
   refine (alive35_calls w1).mono ?_
   rintro e wA ⟨rfl, hbA⟩
   have HbA := hZ9 (Hb1.out.trans (hbA.mono Hb1.out.size))
   clear hbA
   go_wp2
   go_ret
   exact ⟨rfl, HbA.out⟩
 | true =>
   have HC := hZ9 (Hv.out rfl)
   have HOr := hZ9 (ordered_calls _ X w1 (HS.out w1 HbW.out).bu)
   rw [(HS.out w1 HbW.out).pl] at HOr
   have HL60 := hZ9 (show L.length ≤ 60 by rw [← HLn.out]; exact HC.out.bl)
   have HwL := hZ9 (show WL.length ≤ 1000 from Nat.le_trans HC.out.wl (by decide))
   have HcL := hZ9 (show CL.length ≤ 1000 from Nat.le_trans HC.out.cl (by decide))
   clear HV Hv
   go_wp2_with fail
   refine HOr.out.mono ?_
   rintro e w2 ⟨⟨b, rfl, ho⟩, hb2⟩
   have HbW2 := hZ9 (HbW.out.trans (hb2.mono HbW.out.size))
   have Hb2 := hZ9 (Hb1.out.trans (hb2.mono Hb1.out.size))
   have Ho := hZ9 ho
   clear m0 m1 m2 m3 m4 m5 hb2 ho HOr
   cases b with
   | false =>
     go_wp2_with fail
     refine (alive35_calls w2).mono ?_
     rintro e wA ⟨rfl, hbA⟩
     have HbA := hZ9 (Hb2.out.trans (hbA.mono Hb2.out.size))
     clear hbA
     go_wp2
     go_ret
     exact ⟨rfl, HbA.out⟩
   | true =>
     have HO := hZ9 (Ho.out.1 rfl)
     obtain ⟨m0, m1, m2, m3, m4, m5⟩ := HM.out w2 HbW2.out
     have Mk := hZ9 (show ∀ w', Below w2.heap.size w2 w' → Below w2.heap.size w2 w' ∧ w'.cell? ⟨w.heap.size, 0, none⟩ = some (.slice ea en ec) ∧ w'.cell? ⟨w.heap.size, 1, none⟩ = some (.slice pa pn pc) ∧ w'.cell? ⟨w.heap.size, 2, none⟩ = some (.slice ba X.length bc) ∧ w'.cell? ⟨w.heap.size, 3, none⟩ = some (.slice wa WL.length wc) ∧ w'.cell? ⟨w.heap.size, 4, none⟩ = some (.slice ca CL.length cc) ∧ w'.cell? ⟨w.heap.size, 5, none⟩ = some (.int .i64 ac) from fun w' hb => ⟨hb, HM.out w' (HbW2.out.trans (hb.mono HbW2.out.size))⟩)
     have HIn := hZ9 (fun w' (hb : Below w2.heap.size w2 w') => HbW2.out.trans (hb.mono HbW2.out.size))
     clear Ho
     have HAdv := hZ9 (padv_calls l P ac t _ _ L WL CL ba wa ca bc wc cc X w2 HC.out.c HC.out.near (by have := Ht2.out; omega) (HE.out w2 HbW2.out) (HP.out w2 HbW2.out) (HS.out w2 HbW2.out) Hk.out (by have := HL60.out; omega) HwL.out HcL.out)
     go_wp2_with fail
     refine HAdv.out.mono ?_
     rintro e w3 ⟨G, hg, a3, c3, X3, wa3, wc3, ca3, cc3, rfl, hs3, hb3⟩
     obtain ⟨V, hV⟩ : ∃ V, V = w3.alloc (Obj.cells #[.slice a3 X3.length c3, .slice wa3 WL.length wc3, .slice ca3 CL.length cc3] 45) := ⟨_, rfl⟩
     have hbV : Below w3.heap.size w3 V := by rw [hV]; exact (Below.refl _ _).alloc (Nat.le_refl _) _
     have VN := hZ9 (show V.heap[w3.heap.size]? = some (Obj.cells #[.slice a3 X3.length c3, .slice wa3 WL.length wc3, .slice ca3 CL.length cc3] 45) by rw [hV]; exact heap_alloc_new _ _)
     have HV := hZ9 hV
     have HG := hZ9 hg
     have HS3 := hZ9 hs3
     have HbV3 := hZ9 hbV
     have HbV := hZ9 (HbW2.out.trans ((hb3.trans (hbV.mono hb3.size)).mono HbW2.out.size))
     have Hle3 := hZ9 (show W.heap.size ≤ w3.heap.size from Nat.le_trans HbW2.out.size hb3.size)
     clear hV hg hs3 hbV hb3 HAdv Mk HIn m0 m1 m2 m3 m4 m5
     obtain ⟨m0, m1, m2, m3, m4, m5⟩ := HM.out V HbV.out
     have e0 := cell_of_row V _ 0 _ _ _ VN.out
     have e1 := cell_of_row V _ 1 _ _ _ VN.out
     have e2 := cell_of_row V _ 2 _ _ _ VN.out
     go_upto_region 4 with (fail)
     rw [← HV.out]
     have HOr3 := hZ9 (ordered_calls _ X3 V (HS3.out.below HbV3.out).bu)
     have hln1 : L.length ≤ X3.length := by rw [HS3.out.len]; exact fold_grows G L
     have hln2 : ¬ (X3.length : Int) < (X.length : Int) := by have := HLn.out; omega
     go_wp2_with fail
     refine HOr3.out.mono ?_
     rintro e w4 ⟨⟨b, rfl, ho⟩, hb4⟩
     obtain rfl : b = true := ho.2 (by rw [HS3.out.pl]; exact foldG_ord G HO.out)
     have Hb4 := hZ9 hb4
     have Hb4W := hZ9 (HbV.out.trans (hb4.mono HbV.out.size))
     have HOp := hZ9 (opened_calls _ l ac w4 (HE.out w4 Hb4W.out))
     have HAn := hZ9 (show advOn l ac t → ((openE l ac).getD default).vl = anchorL l ac from fun h => by
      have h3 := h.2.2
      unfold anchorL at h3 ⊢
      cases ho : openE l ac with
      | none => rw [ho] at h3; exact absurd h3 (by decide)
      | some o => rfl)
     clear hb4 ho HOr3 hln1 hln2 m0 m1 m2 m3 m4 m5 e0 e1 e2
     obtain ⟨m0, m1, m2, m3, m4, m5⟩ := HM.out w4 Hb4W.out
     go_wp2_with fail
     refine HOp.out.mono ?_
     rintro e w5 ⟨rfl, hb5⟩
     dsimp only
     generalize (openE l ac).getD default = d at *
     generalize (openE l ac).isSome = kn at *
     unfold evVal
     obtain ⟨V2, hV2⟩ : ∃ V2, V2 = w5.alloc (Obj.cells #[.int .i64 d.tm, .int .i64 d.kd, .int .i64 d.ac, .int .i64 d.sb, .string d.nu, .string d.nm, .int .i64 d.vl] 55) := ⟨_, rfl⟩
     have hbV2 : Below w5.heap.size w5 V2 := by rw [hV2]; exact (Below.refl _ _).alloc (Nat.le_refl _) _
     have EvN := hZ9 (show V2.heap[w5.heap.size]? = some (Obj.cells #[.int .i64 d.tm, .int .i64 d.kd, .int .i64 d.ac, .int .i64 d.sb, .string d.nu, .string d.nm, .int .i64 d.vl] 55) by rw [hV2]; exact heap_alloc_new _ _)
     have hevn : w5.heap.size < V2.heap.size := (ltB9 EvN.out)
     have hV5 := Hb4.out.trans ((hb5.trans (hbV2.mono hb5.size)).mono Hb4.out.size)
     have HbVb := hZ9 (HbV.out.trans (hV5.mono HbV.out.size))
     have HbV3b := hZ9 (HbV3.out.trans (hV5.mono HbV3.out.size))
     have VN2 := hZ9 ((hV5.block _ (ltB9 VN.out)).trans VN.out)
     have HV2 := hZ9 hV2
     have HPlX := hZ9 (show plB X = L from (HS.out W (Below.refl _ _)).pl)
     clear hV2 hbV2 hb5 hV5 m0 m1 m2 m3 m4 m5
     go_upto_region 7 with (fail)
     rw [← HV2.out]
     have hov : w3.heap.size < V2.heap.size := (ltB9 VN2.out)
     have hwl : w.heap.size < W.heap.size := HwW.out
     have HPl := hZ9 (show plB X = L from (HS.out W (Below.refl _ _)).pl)
     obtain ⟨q1, q2, e9, q3, q4, -⟩ := HS3.out.bu
     cases e9
     have q5 := q4.1
     unfold maxLen at q5
     clear q4
     have hcapX : X.length ≤ 60 := by have := HLn.out; have := HL60.out; omega
     obtain ⟨m0, m1, m2, m3, m4, m5⟩ := HM.out V2 HbVb.out
     go_wp2_with fail
     go_loopw [8, 9] (fun kpv i wr => ∃ k kp : Nat, k ≤ X3.length ∧ kp ≤ k ∧ i = .int .i64 k ∧ kpv = .int .i64 kp ∧ ((foldG G L).take k).countP (existsB L) = kp ∧ Below V2.heap.size V2 wr) (fun _ i _ => X3.length - (intOf i).toNat)
     case atStart => exact ⟨0, 0, Nat.zero_le _, Nat.le_refl _, rfl, rfl, rfl, Below.refl _ _⟩
     case round =>
      obtain ⟨wo, rfl⟩ : ∃ wo : World, wo = wr := ⟨_, rfl⟩
      obtain ⟨k, kp, hk, hkp, rfl, rfl, hcnt, hb⟩ := hrel
      have HCnt := hZ9 hcnt
      clear hcnt
      have hkp0 : (0 : Int) ≤ (kp : Int) := Int.natCast_nonneg _
      have Hbo := hZ9 hb
      have hk0 : (0 : Int) ≤ (k : Int) := Int.natCast_nonneg _
      have Ov := hZ9 ((hb.block _ hov).trans VN2.out)
      have e0 := cell_of_row wo _ 0 _ _ _ Ov.out
      by_cases hlt : k < X3.length
      · have hk1 : (k : Int) < (X3.length : Int) := by omega
        obtain ⟨a9, c9, e9, -, -, hx⟩ := (HS3.out.below (HbV3b.out.trans (hb.mono HbV3b.out.size))).bu
        cases e9
        obtain ⟨bb, o, rfl, hB, hx⟩ := hx (by rintro rfl; cases hlt)
        have hx := hx k hlt
        obtain ⟨x0, x1, x2, x3, x4, x5, x6, x7, x8, x9, x10, x11⟩ := bu12 hx
        have HRy := hZ9 ((HS3.out.below (HbV3b.out.trans (hb.mono HbV3b.out.size))).rd _ (List.getElem_mem hlt))
        have HMy := hZ9 (show (X3[k]).b ∈ foldG G L by rw [← HS3.out.pl]; exact List.mem_map_of_mem (List.getElem_mem hlt))
        have HCs := hZ9 (show ((foldG G L).take (k + 1)).countP (existsB L) = kp + (if existsB L (X3[k]).b = true then 1 else 0) from by
         have hg : k < (foldG G L).length := by rw [← HS3.out.len]; exact hlt
         have he : (foldG G L)[k] = (X3[k]).b := by
          have h3 : (plB X3)[k]? = (foldG G L)[k]? := by rw [HS3.out.pl]
          unfold plB at h3
          rw [List.getElem?_map, List.getElem?_eq_getElem hlt, List.getElem?_eq_getElem hg] at h3
          exact (Option.some.inj h3).symm
         rw [List.take_succ_eq_append_getElem hg, List.countP_append, List.countP_singleton, he, HCnt.out])
        have HCntY := hZ9 (show existsB L (X3[k]).b = true → ((foldG G L).take (k + 1)).countP (existsB L) = kp + 1 from fun h => by rw [HCs.out, if_pos h])
        have HCntN := hZ9 (show existsB L (X3[k]).b = false → ((foldG G L).take (k + 1)).countP (existsB L) = kp from fun h => by rw [HCs.out, if_neg (by rw [h]; decide), Nat.add_zero])
        clear HCs
        clear hx
        generalize X3[k] = y at *
        obtain ⟨Y, hY⟩ : ∃ Y, Y = wo.alloc (Obj.cells #[.int .i64 y.b.ac, .int .i64 y.b.sb, .string y.b.pr, .int .i64 y.b.ix, .int .i64 y.b.kd, .slice y.za y.zn y.zc, .int .i64 y.b.f, .int .i64 y.b.t, .int .i64 y.b.un, .int .i64 y.b.lf, .int .i64 y.b.pt, .bool y.b.sh] 60) := ⟨_, rfl⟩
        have hbY : Below wo.heap.size wo Y := by rw [hY]; exact (Below.refl _ _).alloc (Nat.le_refl _) _
        have YN := hZ9 (show Y.heap[wo.heap.size]? = some (Obj.cells #[.int .i64 y.b.ac, .int .i64 y.b.sb, .string y.b.pr, .int .i64 y.b.ix, .int .i64 y.b.kd, .slice y.za y.zn y.zc, .int .i64 y.b.f, .int .i64 y.b.t, .int .i64 y.b.un, .int .i64 y.b.lf, .int .i64 y.b.pt, .bool y.b.sh] 60) by rw [hY]; exact heap_alloc_new _ _)
        have HbY := hZ9 (hb.trans (hbY.mono hb.size))
        have HbYW := hZ9 (HbVb.out.trans (HbY.out.mono HbVb.out.size))
        have HRy2 := hZ9 (HRy.out.below hbY)
        have HY := hZ9 hY
        have hyn : wo.heap.size < Y.heap.size := (ltB9 YN.out)
        have hwY : w.heap.size < Y.heap.size := Nat.lt_of_lt_of_le hwl HbYW.out.size
        clear hY hbY hb
        go_upto_region 12 with (fail)
        rw [← HY.out]
        clear e0 x0 x1 x2 x3 x4 x5 x6 x7 x8 x9 x10 x11
        have m2 := fun p : BelowOf Y => BelowOf.cell (a := ⟨w.heap.size, 2, none⟩) hwY (HM.out Y HbYW.out).2.2.1 p
        have y0 := fun p : BelowOf Y => BelowOf.cell (a := ⟨wo.heap.size, 0, none⟩) hyn (cell_of_row Y _ 0 _ _ _ YN.out) p
        have y1 := fun p : BelowOf Y => BelowOf.cell (a := ⟨wo.heap.size, 1, none⟩) hyn (cell_of_row Y _ 1 _ _ _ YN.out) p
        have y2 := fun p : BelowOf Y => BelowOf.cell (a := ⟨wo.heap.size, 2, none⟩) hyn (cell_of_row Y _ 2 _ _ _ YN.out) p
        have y3 := fun p : BelowOf Y => BelowOf.cell (a := ⟨wo.heap.size, 3, none⟩) hyn (cell_of_row Y _ 3 _ _ _ YN.out) p
        have y4 := fun p : BelowOf Y => BelowOf.cell (a := ⟨wo.heap.size, 4, none⟩) hyn (cell_of_row Y _ 4 _ _ _ YN.out) p
        have y5 := fun p : BelowOf Y => BelowOf.cell (a := ⟨wo.heap.size, 5, none⟩) hyn (cell_of_row Y _ 5 _ _ _ YN.out) p
        have y6 := fun p : BelowOf Y => BelowOf.cell (a := ⟨wo.heap.size, 6, none⟩) hyn (cell_of_row Y _ 6 _ _ _ YN.out) p
        have y7 := fun p : BelowOf Y => BelowOf.cell (a := ⟨wo.heap.size, 7, none⟩) hyn (cell_of_row Y _ 7 _ _ _ YN.out) p
        have y8 := fun p : BelowOf Y => BelowOf.cell (a := ⟨wo.heap.size, 8, none⟩) hyn (cell_of_row Y _ 8 _ _ _ YN.out) p
        have y9 := fun p : BelowOf Y => BelowOf.cell (a := ⟨wo.heap.size, 9, none⟩) hyn (cell_of_row Y _ 9 _ _ _ YN.out) p
        have y10 := fun p : BelowOf Y => BelowOf.cell (a := ⟨wo.heap.size, 10, none⟩) hyn (cell_of_row Y _ 10 _ _ _ YN.out) p
        have y11 := fun p : BelowOf Y => BelowOf.cell (a := ⟨wo.heap.size, 11, none⟩) hyn (cell_of_row Y _ 11 _ _ _ YN.out) p
        have HId := hZ9 (fun w1 => id35_calls y w1)
        have HFi := hZ9 (fun w1 (hb1 : Below Y.heap.size Y w1) => find33_calls _ X y.b.sb y.b.pr y.b.ix y.b.f 0 w1 (HS.out w1 (HbYW.out.trans (hb1.mono HbYW.out.size))).bu)
        rw [HPl.out] at HFi
        have HEx := hZ9 (existsB_ix L y.b)
        have HIxc := hZ9 (ixOf_cases (idIs y.b.sb y.b.pr y.b.ix y.b.f) L)
        unfold buVal at HId
        generalize ixOf (idIs y.b.sb y.b.pr y.b.ix y.b.f) L = ix at *
        refine wp_region_quiet_below (Below.refl Y.heap.size Y) (by kernel_rfl) (by kernel_rfl) ?_
        repeat (go_big_quiet_step (first | (go_at_call 27; refine calls_below_of (HId.out _) (fun e w' h => h)) | (go_at_call 26; refine calls_below_of (HFi.out _ (by first | assumption | exact BelowOf.h (by assumption))) (fun e w' h => h))))
        refine wpQuiet_nil ?_
        intro wz hw'
        have hYa : Below Y.heap.size Y wz := by obtain ⟨pq, rfl⟩ := hw'; exact pq.h
        have Zn := hZ9 ((hYa.block _ hyn).trans YN.out)
        have HbZ := hZ9 (HbY.out.trans (hYa.mono HbY.out.size))
        have HbZW := hZ9 (HbVb.out.trans (HbZ.out.mono HbVb.out.size))
        have HRz := hZ9 (HRy2.out.below hYa)
        clear hw' hYa m2 y0 y1 y2 y3 y4 y5 y6 y7 y8 y9 y10 y11 HFi HId
        by_cases hix : 0 ≤ ix
        · have HEy := hZ9 (show existsB L y.b = true by rw [← HEx.out]; exact decide_eq_true hix)
          rcases HIxc.out with ⟨hneg, -⟩ | ⟨kx, hkx, hkq, hid, -⟩
          · exfalso; omega
          subst hkq
          have hkX : kx < X.length := by rw [← HPlX.out, plB_len] at hkx; exact hkx
          obtain ⟨a8, c8, e8, -, -, hz⟩ := (HS.out wz HbZW.out).bu
          cases e8
          obtain ⟨b8, o8, rfl, hB8, hz⟩ := hz (by rintro rfl; cases hkX)
          have hz := hz kx hkX
          have hst := HS.out wz HbZW.out
          have HRs := hZ9 (hst.rd _ (List.getElem_mem hkX))
          have hXk : (X[kx]).b = L[kx] := by
           have h3 : (plB X)[kx]? = L[kx]? := by rw [hst.pl]
           unfold plB at h3
           rw [List.getElem?_map, List.getElem?_eq_getElem hkX, List.getElem?_eq_getElem hkx] at h3
           exact Option.some.inj h3
          have hsb : (X[kx]).b = y.b := by
           rw [hXk]
           refine (ord_same (foldG_ord G HO.out) HMy.out (foldG_mono G (List.getElem_mem hkx)) ?_).symm
           unfold sameId
           exact hid
          have hkI : (kx : Int) < (X.length : Int) := by omega
          have hkI0 : (0 : Int) ≤ (kx : Int) := Int.natCast_nonneg _
          obtain ⟨qQ0, qQ1, qQ2, qQ3, qQ4, qQ5, qQ6, qQ7, qQ8, qQ9, qQ10, qQ11⟩ := bu12 hz
          have z0 := fun p : BelowOf wz => BelowOf.cell hB8 qQ0 p
          have z1 := fun p : BelowOf wz => BelowOf.cell hB8 qQ1 p
          have z2 := fun p : BelowOf wz => BelowOf.cell hB8 qQ2 p
          have z3 := fun p : BelowOf wz => BelowOf.cell hB8 qQ3 p
          have z4 := fun p : BelowOf wz => BelowOf.cell hB8 qQ4 p
          have z5 := fun p : BelowOf wz => BelowOf.cell hB8 qQ5 p
          have z6 := fun p : BelowOf wz => BelowOf.cell hB8 qQ6 p
          have z7 := fun p : BelowOf wz => BelowOf.cell hB8 qQ7 p
          have z8 := fun p : BelowOf wz => BelowOf.cell hB8 qQ8 p
          have z9 := fun p : BelowOf wz => BelowOf.cell hB8 qQ9 p
          have z10 := fun p : BelowOf wz => BelowOf.cell hB8 qQ10 p
          have z11 := fun p : BelowOf wz => BelowOf.cell hB8 qQ11 p
          clear qQ0 qQ1 qQ2 qQ3 qQ4 qQ5 qQ6 qQ7 qQ8 qQ9 qQ10 qQ11
          have HSa := hZ9 (fun w1 (hb1 : Below wz.heap.size wz w1) => sameOne_calls y X[kx] w1 (HRz.out.below hb1) (HRs.out.below hb1) hsb)
          clear hz hst hXk hsb hid HIxc
          generalize X[kx] = xs at *
          have hzn : wo.heap.size < wz.heap.size := (ltB9 Zn.out)
          have hwz : w.heap.size < wz.heap.size := Nat.lt_of_lt_of_le hwl HbZW.out.size
          have m2 := fun p : BelowOf wz => BelowOf.cell (a := ⟨w.heap.size, 2, none⟩) hwz (HM.out wz HbZW.out).2.2.1 p
          have y0 := fun p : BelowOf wz => BelowOf.cell (a := ⟨wo.heap.size, 0, none⟩) hzn (cell_of_row wz _ 0 _ _ _ Zn.out) p
          have y1 := fun p : BelowOf wz => BelowOf.cell (a := ⟨wo.heap.size, 1, none⟩) hzn (cell_of_row wz _ 1 _ _ _ Zn.out) p
          have y2 := fun p : BelowOf wz => BelowOf.cell (a := ⟨wo.heap.size, 2, none⟩) hzn (cell_of_row wz _ 2 _ _ _ Zn.out) p
          have y3 := fun p : BelowOf wz => BelowOf.cell (a := ⟨wo.heap.size, 3, none⟩) hzn (cell_of_row wz _ 3 _ _ _ Zn.out) p
          have y4 := fun p : BelowOf wz => BelowOf.cell (a := ⟨wo.heap.size, 4, none⟩) hzn (cell_of_row wz _ 4 _ _ _ Zn.out) p
          have y5 := fun p : BelowOf wz => BelowOf.cell (a := ⟨wo.heap.size, 5, none⟩) hzn (cell_of_row wz _ 5 _ _ _ Zn.out) p
          have y6 := fun p : BelowOf wz => BelowOf.cell (a := ⟨wo.heap.size, 6, none⟩) hzn (cell_of_row wz _ 6 _ _ _ Zn.out) p
          have y7 := fun p : BelowOf wz => BelowOf.cell (a := ⟨wo.heap.size, 7, none⟩) hzn (cell_of_row wz _ 7 _ _ _ Zn.out) p
          have y8 := fun p : BelowOf wz => BelowOf.cell (a := ⟨wo.heap.size, 8, none⟩) hzn (cell_of_row wz _ 8 _ _ _ Zn.out) p
          have y9 := fun p : BelowOf wz => BelowOf.cell (a := ⟨wo.heap.size, 9, none⟩) hzn (cell_of_row wz _ 9 _ _ _ Zn.out) p
          have y10 := fun p : BelowOf wz => BelowOf.cell (a := ⟨wo.heap.size, 10, none⟩) hzn (cell_of_row wz _ 10 _ _ _ Zn.out) p
          have y11 := fun p : BelowOf wz => BelowOf.cell (a := ⟨wo.heap.size, 11, none⟩) hzn (cell_of_row wz _ 11 _ _ _ Zn.out) p
          unfold buVal at HSa
          go_upto_region 14 with (fail)
          refine wp_region_quiet_below (Below.refl wz.heap.size wz) (by kernel_rfl) (by kernel_rfl) ?_
          repeat (go_big_quiet_step (first | (go_at_call 28; refine calls_below_of (HSa.out _ (by first | assumption | exact BelowOf.h (by assumption))) (fun e w' h => h))))
          refine wpQuiet_nil ?_
          intro wq hw'
          have hYa : Below wz.heap.size wz wq := by obtain ⟨pq, rfl⟩ := hw'; exact pq.h
          have HbQ := hZ9 (HbZ.out.trans (hYa.mono HbZ.out.size))
          have HCn := hZ9 (HCntY.out HEy.out)
          clear hw' hYa m2 y0 y1 y2 y3 y4 y5 y6 y7 y8 y9 y10 y11 z0 z1 z2 z3 z4 z5 z6 z7 z8 z9 z10 z11 HSa
          go_wp2
          exact ⟨⟨k + 1, kp + 1, hlt, by omega, by go_num, by go_num, HCn.out, HbQ.out⟩, by simp [intOf]; omega⟩
        have HEy := hZ9 (show existsB L y.b = false by rw [← HEx.out]; exact decide_eq_false hix)
        have hNew := new_of HC.out.c.r HC.out.c.ok HG.out HMy.out HEy.out
        obtain ⟨x, i, dd, -, hxP, hpx, hi, e3, e4, e5, -, -, e8, e9, e10⟩ := hNew.bd
        have hdd := (HC.out.c.ok x hxP).bs dd (List.mem_of_getElem? hi)
        have hix4 : i < 4 := Nat.lt_of_lt_of_le (List.getElem?_eq_some_iff.1 hi).1 (HC.out.c.b x hxP)
        have hnm := (HC.out.c.ok x hxP).nm
        have hb3 := hdd.2.2.1
        unfold Bd.ok at hb3
        have HCk := hZ9 (fun w1 (hb1 : Below wz.heap.size wz w1) => check33_calls y w1 (HRz.out.below hb1) (by rw [hNew.own]; exact hNew.a1.1) (by rw [hNew.own]; exact hNew.a1.2) hNew.s1.1 hNew.s1.2 (by rw [hpx]; exact hnm) (by omega) (by omega) (by omega) (by omega) (by rw [e5]; exact hdd.2.2.2.1) (by rw [e5]; exact hdd.2.2.2.2) ((validB_iff _ _).2 ⟨hNew.wf.1, hNew.wf.2.1, hNew.wf.2.2⟩) (by omega) (by omega) e10)
        obtain ⟨m, m0, m1, m2, m3⟩ := hNew.mo
        have hAn := HAn.out hNew.on
        have ha1 : 1 ≤ anchorL l ac := by have := hNew.on.2.2; omega
        have ha2 := (anchor_le HC.out.c.r ac).2
        have hci := cyc_in ha1 ha2 m
        have hmo : IsMo (anchorL l ac) y.b.f m := ⟨m0, m1, by show (cyc (anchorL l ac) m).1 ≤ _; omega, by show _ < (cyc (anchorL l ac) m).2; have := hNew.wf.2.1; omega⟩
        have HRc := hZ9 (rcycle_calls (anchorL l ac) y.b.f m wz ha1 ha2 hNew.wf.1 (by have := hNew.wf; omega) hmo)
        have HIs := hZ9 (show ∀ w1, Calls Tryz.prog 30 #[.agg #[.int .i64 (cyc (anchorL l ac) m).1, .int .i64 (cyc (anchorL l ac) m).2], .agg #[.int .i64 y.b.f, .int .i64 y.b.t]] w1 fun e w' => e = .returned (.tuple #[.agg #[.int .i64 y.b.f, .int .i64 y.b.t], .bool true]) ∧ Below w1.heap.size w1 w' from fun w1 => by
         have h := intersect_calls' (cyc (anchorL l ac) m).1 (cyc (anchorL l ac) m).2 y.b.f y.b.t w1
         have hm : meetB (cyc (anchorL l ac) m).1 (cyc (anchorL l ac) m).2 y.b.f y.b.t = true := (meetB_iff _ _ _ _).2 ⟨(validB_iff _ _).2 ⟨hci.1, by have := hNew.wf.2.1; omega, hci.2⟩, (validB_iff _ _).2 ⟨hNew.wf.1, hNew.wf.2.1, hNew.wf.2.2⟩, by have := hNew.wf.2.1; omega⟩
         rw [hm] at h
         have e1 : max (cyc (anchorL l ac) m).1 y.b.f = y.b.f := by omega
         have e2 : min (cyc (anchorL l ac) m).2 y.b.t = y.b.t := by omega
         simp only [if_true, e1, e2] at h
         exact h)
        generalize cyc (anchorL l ac) m = cy at *
        rw [← hAn] at HRc
        have hle : ¬ t < y.b.f := by have := hNew.le; omega
        have hown : y.b.ac = ac := hNew.own
        have hlf : y.b.lf = y.b.un := e10
        have HCn := hZ9 (HCntN.out HEy.out)
        clear hNew hdd hnm hb3 m0 m1 m2 m3 hAn ha1 ha2 hci hmo hi hix4 hpx e3 e4 e5 e8 e9 e10 hxP HIxc
        have Ev := hZ9 ((HbZ.out.block _ hevn).trans EvN.out)
        have q6 := cell_of_row wz _ 6 _ _ _ Ev.out
        have tQ := fun j => cell_of_row wz _ j _ _ _ Zn.out
        have y0 := tQ 0
        have y1 := tQ 1
        have y2 := tQ 2
        have y3 := tQ 3
        have y4 := tQ 4
        have y5 := tQ 5
        have y6 := tQ 6
        have y7 := tQ 7
        have y8 := tQ 8
        have y9 := tQ 9
        have y10 := tQ 10
        have y11 := tQ 11
        clear tQ
        go_wp2_with fail
        refine HRc.out.mono ?_
        rintro e w6 ⟨rfl, hb6⟩
        obtain ⟨Q, hQ⟩ : ∃ Q, Q = w6.alloc (Obj.cells #[.int .i64 cy.1, .int .i64 cy.2] 25) := ⟨_, rfl⟩
        have hbQ : Below w6.heap.size w6 Q := by rw [hQ]; exact (Below.refl _ _).alloc (Nat.le_refl _) _
        have QN := hZ9 (show Q.heap[w6.heap.size]? = some (Obj.cells #[.int .i64 cy.1, .int .i64 cy.2] 25) by rw [hQ]; exact heap_alloc_new _ _)
        have HQ := hZ9 hQ
        have hzQ := hb6.trans (hbQ.mono hb6.size)
        have HzQ := hZ9 hzQ
        have Qy := hZ9 ((hzQ.block _ (ltB9 Zn.out)).trans Zn.out)
        clear hQ hbQ hb6 hzQ q6 y0 y1 y2 y3 y4 y5 y6 y7 y8 y9 y10 y11
        go_upto_region 18 with (fail)
        rw [← HQ.out]
        have tQ := fun j => cell_of_row Q _ j _ _ _ Qy.out
        have y0 := tQ 0
        have y1 := tQ 1
        have y2 := tQ 2
        have y3 := tQ 3
        have y4 := tQ 4
        have y5 := tQ 5
        have y6 := tQ 6
        have y7 := tQ 7
        have y8 := tQ 8
        have y9 := tQ 9
        have y10 := tQ 10
        have y11 := tQ 11
        clear tQ
        have v0 := cell_of_row Q _ 0 _ _ _ QN.out
        have v1 := cell_of_row Q _ 1 _ _ _ QN.out
        go_wp2_with fail
        refine (HIs.out Q).mono ?_
        rintro e w7 ⟨rfl, hb7⟩
        obtain ⟨R, hR⟩ : ∃ R, R = w7.alloc (Obj.cells #[.int .i64 y.b.f, .int .i64 y.b.t] 25) := ⟨_, rfl⟩
        have hbR : Below w7.heap.size w7 R := by rw [hR]; exact (Below.refl _ _).alloc (Nat.le_refl _) _
        have RN := hZ9 (show R.heap[w7.heap.size]? = some (Obj.cells #[.int .i64 y.b.f, .int .i64 y.b.t] 25) by rw [hR]; exact heap_alloc_new _ _)
        have HR := hZ9 hR
        have hQR := hb7.trans (hbR.mono hb7.size)
        have HzR := hZ9 (HzQ.out.trans (hQR.mono HzQ.out.size))
        have Ry := hZ9 ((hQR.block _ (ltB9 Qy.out)).trans Qy.out)
        have HbR := hZ9 (HbZ.out.trans (HzR.out.mono HbZ.out.size))
        have HCkR := hZ9 (HCk.out R HzR.out)
        clear hR hbR hb7 hQR y0 y1 y2 y3 y4 y5 y6 y7 y8 y9 y10 y11 v0 v1
        go_upto_region 19 with (fail)
        rw [← HR.out]
        obtain ⟨m0, m1, m2, m3, m4, m5⟩ := HM.out R (HbVb.out.trans (HbR.out.mono HbVb.out.size))
        have tQ := fun j => cell_of_row R _ j _ _ _ Ry.out
        have y0 := tQ 0
        have y1 := tQ 1
        have y2 := tQ 2
        have y3 := tQ 3
        have y4 := tQ 4
        have y5 := tQ 5
        have y6 := tQ 6
        have y7 := tQ 7
        have y8 := tQ 8
        have y9 := tQ 9
        have y10 := tQ 10
        have y11 := tQ 11
        clear tQ
        have p0 := cell_of_row R _ 0 _ _ _ RN.out
        have p1 := cell_of_row R _ 1 _ _ _ RN.out
        rw [hown] at y0
        rw [hlf] at y9
        have hac : (ac == ac) = true := beq_self_eq_true ac
        unfold buVal at HCkR
        rw [hown, hlf] at HCkR
        have Hlf := hZ9 hlf
        clear hown hlf hac
        go_wp2_with fail
        refine HCkR.out.mono ?_
        rintro e w8 ⟨rfl, hb8⟩
        have Wy := hZ9 ((hb8.block _ (ltB9 Ry.out)).trans Ry.out)
        have WN := hZ9 ((hb8.block _ (ltB9 RN.out)).trans RN.out)
        have Hb8 := hZ9 (HbR.out.trans (hb8.mono HbR.out.size))
        clear hb8 m0 m1 m2 m3 m4 m5 y0 y1 y2 y3 y4 y5 y6 y7 y8 y9 y10 y11 p0 p1
        have tQ := fun j => cell_of_row w8 _ j _ _ _ Wy.out
        have y0 := tQ 0
        have y1 := tQ 1
        have y2 := tQ 2
        have y3 := tQ 3
        have y4 := tQ 4
        have y5 := tQ 5
        have y6 := tQ 6
        have y7 := tQ 7
        have y8 := tQ 8
        have y9 := tQ 9
        have y10 := tQ 10
        have y11 := tQ 11
        clear tQ
        have p0 := cell_of_row w8 _ 0 _ _ _ WN.out
        have p1 := cell_of_row w8 _ 1 _ _ _ WN.out
        rw [Hlf.out] at y9
        have hlq : (y.b.un != y.b.un) = false := by simp
        go_wp2
        exact ⟨⟨k + 1, kp, hlt, by omega, by go_num, rfl, HCn.out, Hb8.out⟩, by simp [intOf]; omega⟩
      clear hb
      have hkl : k = X3.length := by omega
      subst hkl
      have hfin : kp = L.length := by
       have h := HCnt.out
       rw [show X3.length = (foldG G L).length from HS3.out.len, List.take_length, kept_len] at h
       exact h.symm
      have hfin2 : (kp : Int) = (X.length : Int) := by have := HLn.out; omega
      have HbF := hZ9 (HbVb.out.trans (Hbo.out.mono HbVb.out.size))
      have HbF0 := hZ9 (Hw0.out.trans (HbF.out.mono Hw0.out.size))
      have hfin3 : ((kp : Int) == (X.length : Int)) = true := beq_iff_eq.2 hfin2
      clear m0 m1 m2 m3 m4 m5
      obtain ⟨m0, m1, m2, m3, m4, m5⟩ := HM.out wo HbF.out
      go_wp2_with fail
      refine (alive35_calls wo).mono ?_
      rintro e wA ⟨rfl, hbA⟩
      have HbA := hZ9 (HbF0.out.trans (hbA.mono HbF0.out.size))
      clear hbA
      go_wp2
      go_ret
      exact ⟨rfl, HbA.out⟩
end Go.Proofs.YtngippiilgdnoaaGreat
