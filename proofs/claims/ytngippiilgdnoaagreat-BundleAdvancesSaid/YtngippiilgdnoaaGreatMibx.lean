/-
  The law on Advance and its specification.
-/
import Derived.Test.YtngippiilgdnoaaGreatMibt
set_option maxRecDepth 100000
set_option maxHeartbeats 25600000
namespace Go.Proofs.YtngippiilgdnoaaGreat
open Go.RowKit
theorem Q7 (l:List Ev) (P:List Pd) (L:List Bu) (WL CL:List I5) (ea pa ba wa ca:Option Addr) (en pn ec pc bc wc cc:Nat) (X:List BuX) (ac:Int) (t:Int) (ht1:-9223372036854775808<=t) (ht2:t<=9223372036854775807) (w:World) (he:vQ w (.slice ea en ec) l) (hp:qG w (.slice pa pn pc) P) (hs:StIn w L WL CL ba bc X wa wc ca cc) (hk:∀b∈L,KeyB b):
 Calls Tryz.prog 5 #[.agg #[.slice ea en ec,.slice pa pn pc,.slice ba X.length bc,.slice wa WL.length wc,.slice ca CL.length cc,.int .i64 ac],.int .i64 t] w fun e w'=>e=.returned (.bool true)/\Below w.heap.size w w':=by
 obtain⟨W,hW⟩:∃W,W=w.alloc (Obj.cells #[.slice ea en ec,.slice pa pn pc,.slice ba X.length bc,.slice wa WL.length wc,.slice ca CL.length cc,.int .i64 ac] 47):=⟨_,rfl⟩;have hw0:Below w.heap.size w W:=by rw[hW];exact(Below.refl _ _).alloc (Nat.le_refl _) _
 have rW:W.heap[w.heap.size]?=some (Obj.cells #[.slice ea en ec,.slice pa pn pc,.slice ba X.length bc,.slice wa WL.length wc,.slice ca CL.length cc,.int .i64 ac] 47):=by rw[hW];exact heap_alloc_new _ _
 have hzW:w.heap.size<W.heap.size:=(zw rW);have HM:=zb (show ∀w',Below W.heap.size W w'->w'.cell? ⟨w.heap.size,0,none⟩=some (.slice ea en ec)/\w'.cell? ⟨w.heap.size,1,none⟩=some (.slice pa pn pc)/\w'.cell? ⟨w.heap.size,2,none⟩=some (.slice ba X.length bc)/\w'.cell? ⟨w.heap.size,3,none⟩=some (.slice wa WL.length wc)/\w'.cell? ⟨w.heap.size,4,none⟩=some (.slice ca CL.length cc)/\w'.cell? ⟨w.heap.size,5,none⟩=some (.int .i64 ac)from fun w' hb=>by
  have q:=(hb.block _ hzW).trans rW;exact⟨cell_of_row w' _ 0 _ _ _ q,cell_of_row w' _ 1 _ _ _ q,cell_of_row w' _ 2 _ _ _ q,cell_of_row w' _ 3 _ _ _ q,cell_of_row w' _ 4 _ _ _ q,cell_of_row w' _ 5 _ _ _ q⟩);have HW:=zb hW;have Hw0:=zb hw0;have HE:=zb (fun w' (hb:Below W.heap.size W w')=>he.below (hw0.trans (hb.mono hw0.size)));have HP:=zb (fun w' (hb:Below W.heap.size W w')=>hp.below (hw0.trans (hb.mono hw0.size)));have HS:=zb (fun w' (hb:Below W.heap.size W w')=>hs.below (hw0.trans (hb.mono hw0.size)));have Hk:=zb hk;have HLn:=zb hs.len;have hbn:X.length<=maxLen:=by obtain⟨_,_,e,q1,q2⟩:=zu hs.bu;cases e;omega
 have hwn:WL.length<=maxLen:=by obtain⟨_,_,e,q1,q2⟩:=zu hs.wal;cases e;omega
 have hcn:CL.length<=maxLen:=by obtain⟨_,_,e,q1,q2⟩:=zu hs.cnt;cases e;omega
 have HV:=zb (Jo ea pa ba wa ca en pn X.length WL.length CL.length ec pc bc wc cc ac t l P W (HE.out W (Below.refl _ _)) (HP.out W (Below.refl _ _)) hbn hwn hcn ht1 ht2);have Ht1:=zb ht1;have Ht2:=zb ht2;obtain⟨m0,m1,m2,m3,m4,m5⟩:=HM.out W (Below.refl _ _);clear hW rW hw0 he hp hs hk hbn hwn hcn hzW;go_enter Tryz.func5,Tryz.ntmps5;go_upto_region 1 with(fail);rw[<-HW.out];go_wp2_with fail;refine HV.out.mono ?_;rintro e w1 ⟨⟨b,rfl,hv⟩,hb1⟩;have HbW:=zb hb1;have Hb1:=zb (Hw0.out.trans (hb1.mono Hw0.out.size));have Hv:=zb hv;clear m0 m1 m2 m3 m4 m5 hb1 hv;obtain⟨m0,m1,m2,m3,m4,m5⟩:=HM.out w1 HbW.out;cases b with
 |false=>clear m0 m1 m2 m3 m4 m5;go_wp2_with fail;refine(kN w1).mono ?_;rintro e wA ⟨rfl,hbA⟩;have HbA:=zb (Hb1.out.trans (hbA.mono Hb1.out.size));clear hbA;go_wp2;go_ret;exact⟨rfl,HbA.out⟩
 |true=>
   have HC:=zb (Hv.out rfl);have HOr:=zb (JE _ X w1 (HS.out w1 HbW.out).bu);rw[(HS.out w1 HbW.out).pl]at HOr;have HL60:=zb (show L.length<=60 by rw[<-HLn.out];exact HC.out.bl);have HwL:=zb (show WL.length<=1000 from Nat.le_trans HC.out.wl (by decide));have HcL:=zb (show CL.length<=1000 from Nat.le_trans HC.out.cl (by decide));clear HV Hv;go_wp2_with fail;refine HOr.out.mono ?_;rintro e w2 ⟨⟨b,rfl,ho⟩,hb2⟩;have HbW2:=zb (HbW.out.trans (hb2.mono HbW.out.size));have Hb2:=zb (Hb1.out.trans (hb2.mono Hb1.out.size));have Ho:=zb ho;clear m0 m1 m2 m3 m4 m5 hb2 ho HOr;cases b with
   |false=>go_wp2_with fail;refine(kN w2).mono ?_;rintro e wA ⟨rfl,hbA⟩;have HbA:=zb (Hb2.out.trans (hbA.mono Hb2.out.size));clear hbA;go_wp2;go_ret;exact⟨rfl,HbA.out⟩
   |true=>
     have HO:=zb (Ho.out.1 rfl);obtain⟨m0,m1,m2,m3,m4,m5⟩:=HM.out w2 HbW2.out;have Mk:=zb (show ∀w',Below w2.heap.size w2 w'->Below w2.heap.size w2 w'/\w'.cell? ⟨w.heap.size,0,none⟩=some (.slice ea en ec)/\w'.cell? ⟨w.heap.size,1,none⟩=some (.slice pa pn pc)/\w'.cell? ⟨w.heap.size,2,none⟩=some (.slice ba X.length bc)/\w'.cell? ⟨w.heap.size,3,none⟩=some (.slice wa WL.length wc)/\w'.cell? ⟨w.heap.size,4,none⟩=some (.slice ca CL.length cc)/\w'.cell? ⟨w.heap.size,5,none⟩=some (.int .i64 ac)from fun w' hb=>⟨hb,HM.out w' (HbW2.out.trans (hb.mono HbW2.out.size))⟩);have HIn:=zb (fun w' (hb:Below w2.heap.size w2 w')=>HbW2.out.trans (hb.mono HbW2.out.size));clear Ho;go_upto_region 3 with(fail);go_region_held3 (fun w':World=>Below w2.heap.size w2 w'/\w'.cell? ⟨w.heap.size,0,none⟩=some (.slice ea en ec)/\w'.cell? ⟨w.heap.size,1,none⟩=some (.slice pa pn pc)/\w'.cell? ⟨w.heap.size,2,none⟩=some (.slice ba X.length bc)/\w'.cell? ⟨w.heap.size,3,none⟩=some (.slice wa WL.length wc)/\w'.cell? ⟨w.heap.size,4,none⟩=some (.slice ca CL.length cc)/\w'.cell? ⟨w.heap.size,5,none⟩=some (.int .i64 ac))
      (first
       |exact Mk.out _ (by assumption)
       |exact Mk.out _ (Below.drew (by assumption))
       |exact Mk.out _ (Below.refl _ _)
       |exact Mk.out _ (Below.drew (Below.refl _ _)))
      (first
       | (go_at_call 22
          refine(Wd l P ac t _ _ L WL CL _ _ _ _ _ _ X _ HC.out.c HC.out.near (by have:=Ht2.out;omega) (HE.out _ (HIn.out _ (And.left (by assumption)))) (HP.out _ (HIn.out _ (And.left (by assumption)))) (HS.out _ (HIn.out _ (And.left (by assumption)))) Hk.out (by have:=HL60.out;omega) HwL.out HcL.out).mono ?_;rintro e w4 ⟨G4,hg4,a4,c4,X4,wa4,wc4,ca4,cc4,rfl,hs4,hb4⟩;have hY4:Below w2.heap.size w2 w4:=Below.trans (And.left (by assumption)) (hb4.mono (Below.size (And.left (by assumption))));clear hb4)
       | (go_at_call 23
          refine(X7 l P ac t _ _ L WL CL _ _ _ _ _ _ X _ HC.out.c HC.out.near (by have:=Ht2.out;omega) (HE.out _ (HIn.out _ (And.left (by assumption)))) (HP.out _ (HIn.out _ (And.left (by assumption)))) (HS.out _ (HIn.out _ (And.left (by assumption)))) (by have:=HL60.out;omega) HwL.out HcL.out).mono ?_;rintro e w5 ⟨G5,hg5,a5,c5,X5,wa5,wc5,ca5,cc5,rfl,hs5,hb5⟩;obtain rfl:=hg5.one hg4;have hs6:=hs4.below hb5;have hY5:Below w2.heap.size w2 w5:=Below.trans (And.left (by assumption)) (hb5.mono (Below.size (And.left (by assumption))));clear hb5)
       | (go_at_call 21
          refine(xC hs6 hs5).mono ?_;rintro e w7 ⟨rfl,hb7⟩;have hY7:Below w2.heap.size w2 w7:=Below.trans (And.left (by assumption)) (hb7.mono (Below.size (And.left (by assumption))));clear hb7)
       | (go_at_call 20
          refine(kN _).mono ?_;rintro e w8 ⟨rfl,hb8⟩;have hY8:Below w2.heap.size w2 w8:=Below.trans (And.left (by assumption)) (hb8.mono (Below.size (And.left (by assumption))));clear hb8));have HFin:=zb (Hb2.out.trans (hY8.mono Hb2.out.size));clear hY8;go_wp2;go_ret;exact⟨rfl,HFin.out⟩
end Go.Proofs.YtngippiilgdnoaaGreat
