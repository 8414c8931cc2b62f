/-
  The law on grants.
-/
import Derived.Test.YtngippiilgdnoaaGreatMhbt
set_option maxRecDepth 100000
set_option maxHeartbeats 25600000
namespace Go.Proofs.YtngippiilgdnoaaGreat
open Go.RowKit
theorem Kj (l:List Ev) (P:List Pd) (L:List Bu) (WL CL:List I5) (ea pa ba wa ca:Option Addr) (en pn ec pc bc wc cc:Nat) (X:List BuX) (ac:Int) (sb:Int) (nm:ByteArray) (t:Int) (ht1:-9223372036854775808<=t) (ht2:t<=9223372036854775807) (w:World) (he:vE w (.slice ea en ec) l) (hp:qu w (.slice pa pn pc) P) (hs:StIn w L WL CL ba bc X wa wc ca cc) (hk:∀b∈L,KeyB b) (hn:nm.size<=maxLen):
 Calls Tryz.prog 10 #[.agg #[.slice ea en ec,.slice pa pn pc,.slice ba X.length bc,.slice wa WL.length wc,.slice ca CL.length cc,.int .i64 ac],.agg #[.int .i64 sb,.string nm],.int .i64 t] w fun e w'=>e=.returned (.bool true)/\Below w.heap.size w w':=by
 obtain⟨W,hW,r0,r1,hw0,hz⟩:=vd w (Obj.cells #[.slice ea en ec,.slice pa pn pc,.slice ba X.length bc,.slice wa WL.length wc,.slice ca CL.length cc,.int .i64 ac] 47) (Obj.cells #[.int .i64 sb,.string nm] 78);have rW:=r0;have hzW:w.heap.size<W.heap.size:=(zu rW);have hzA:w.heap.size+1<W.heap.size:=(zu r1);have HM:=zb (show ∀w',Below W.heap.size W w'->w'.cell? ⟨w.heap.size,0,none⟩=some (.slice ea en ec)/\w'.cell? ⟨w.heap.size,1,none⟩=some (.slice pa pn pc)/\w'.cell? ⟨w.heap.size,2,none⟩=some (.slice ba X.length bc)/\w'.cell? ⟨w.heap.size,3,none⟩=some (.slice wa WL.length wc)/\w'.cell? ⟨w.heap.size,4,none⟩=some (.slice ca CL.length cc)/\w'.cell? ⟨w.heap.size,5,none⟩=some (.int .i64 ac)/\w'.cell? ⟨w.heap.size+1,0,none⟩=some (.int .i64 sb)/\w'.cell? ⟨w.heap.size+1,1,none⟩=some (.string nm)from fun w' hb=>by
  have q:=(hb.block _ hzW).trans rW;exact⟨cell_of_row w' _ 0 _ _ _ q,cell_of_row w' _ 1 _ _ _ q,cell_of_row w' _ 2 _ _ _ q,cell_of_row w' _ 3 _ _ _ q,cell_of_row w' _ 4 _ _ _ q,cell_of_row w' _ 5 _ _ _ q,cell_of_row w' _ 0 _ _ _ ((hb.block _ hzA).trans r1),cell_of_row w' _ 1 _ _ _ ((hb.block _ hzA).trans r1)⟩);have HW:=zb hW;have Hw0:=zb hw0;have HE:=zb (fun w' (hb:Below W.heap.size W w')=>he.below (hw0.trans (hb.mono hw0.size)));have HP:=zb (fun w' (hb:Below W.heap.size W w')=>hp.below (hw0.trans (hb.mono hw0.size)));have HS:=zb (fun w' (hb:Below W.heap.size W w')=>hs.below (hw0.trans (hb.mono hw0.size)));have Hk:=zb hk;have HLn:=zb hs.len;have hbn:X.length<=maxLen:=by obtain⟨_,_,e,q1,q2⟩:=zq hs.bu;cases e;omega
 have hwn:WL.length<=maxLen:=by obtain⟨_,_,e,q1,q2⟩:=zq hs.wal;cases e;omega
 have hcn:CL.length<=maxLen:=by obtain⟨_,_,e,q1,q2⟩:=zq hs.cnt;cases e;omega
 have HV:=zb (QV ea pa ba wa ca en pn X.length WL.length CL.length ec pc bc wc cc ac t l P W (HE.out W (Below.refl _ _)) (HP.out W (Below.refl _ _)) hbn hwn hcn ht1 ht2);have Hnm:=zb hn;obtain⟨m0,m1,m2,m3,m4,m5,m6,m7⟩:=HM.out W (Below.refl _ _);clear hW rW hw0 he hp hs hk r0 r1 hz hbn hwn hcn hn hzW hzA;go_enter Tryz.func10,Tryz.ntmps10;go_upto_region 1 with(fail);rw[<-HW.out];go_wp2_with fail;refine HV.out.mono ?_;rintro e w1 ⟨⟨b,rfl,hv⟩,hb1⟩;have HbW:=zb hb1;have Hb1:=zb (Hw0.out.trans (hb1.mono Hw0.out.size));have Hv:=zb hv;clear m0 m1 m2 m3 m4 m5 m6 m7 hb1 hv;cases b with
 |false=>go_wp2_with fail;refine(Zj w1).mono ?_;rintro e wA ⟨rfl,hbA⟩;have HbA:=zb (Hb1.out.trans (hbA.mono Hb1.out.size));clear hbA;go_wp2;go_ret;exact⟨rfl,HbA.out⟩
 |true=>
   have HC:=zb (Hv.out rfl);have Mk:=zb (show ∀w',Below w1.heap.size w1 w'->Below w1.heap.size w1 w'/\w'.cell? ⟨w.heap.size,0,none⟩=some (.slice ea en ec)/\w'.cell? ⟨w.heap.size,1,none⟩=some (.slice pa pn pc)/\w'.cell? ⟨w.heap.size,2,none⟩=some (.slice ba X.length bc)/\w'.cell? ⟨w.heap.size,3,none⟩=some (.slice wa WL.length wc)/\w'.cell? ⟨w.heap.size,4,none⟩=some (.slice ca CL.length cc)/\w'.cell? ⟨w.heap.size,5,none⟩=some (.int .i64 ac)/\w'.cell? ⟨w.heap.size+1,0,none⟩=some (.int .i64 sb)/\w'.cell? ⟨w.heap.size+1,1,none⟩=some (.string nm)from fun w' hb=>⟨hb,HM.out w' (HbW.out.trans (hb.mono HbW.out.size))⟩);have HIn:=zb (fun w' (hb:Below w1.heap.size w1 w')=>HbW.out.trans (hb.mono HbW.out.size));obtain⟨m0,m1,m2,m3,m4,m5,m6,m7⟩:=HM.out w1 HbW.out;go_upto_region 3 with(fail);go_region_held3 (fun w':World=>Below w1.heap.size w1 w'/\w'.cell? ⟨w.heap.size,0,none⟩=some (.slice ea en ec)/\w'.cell? ⟨w.heap.size,1,none⟩=some (.slice pa pn pc)/\w'.cell? ⟨w.heap.size,2,none⟩=some (.slice ba X.length bc)/\w'.cell? ⟨w.heap.size,3,none⟩=some (.slice wa WL.length wc)/\w'.cell? ⟨w.heap.size,4,none⟩=some (.slice ca CL.length cc)/\w'.cell? ⟨w.heap.size,5,none⟩=some (.int .i64 ac)/\w'.cell? ⟨w.heap.size+1,0,none⟩=some (.int .i64 sb)/\w'.cell? ⟨w.heap.size+1,1,none⟩=some (.string nm))
    (first
     |exact Mk.out _ (by assumption)
     |exact Mk.out _ (Below.drew (by assumption))
     |exact Mk.out _ (Below.refl _ _)
     |exact Mk.out _ (Below.drew (Below.refl _ _)))
    (first
     | (go_at_call 34
        refine(J4 _ _ l P sb nm t _ (HE.out _ (HIn.out _ (And.left (by assumption)))) (HP.out _ (HIn.out _ (And.left (by assumption)))) HC.out.c.r (by have:=HC.out.c.le;omega) HC.out.c.f Hnm.out).mono ?_;rintro e w4 ⟨a4,c4,X4,rfl,ho4,hp4,hr4,hb4⟩;have hq4:zi zr 12 w4 (.slice a4 X4.length c4) X4:=zi.own (fun _=>rfl) ho4;have hY4:Below w1.heap.size w1 w4:=Below.trans (And.left (by assumption)) (hb4.mono (Below.size (And.left (by assumption))));clear hb4 ho4)
     | (go_at_call 35
        refine(J1 _ _ l P sb nm t _ (HE.out _ (HIn.out _ (And.left (by assumption)))) (HP.out _ (HIn.out _ (And.left (by assumption)))) HC.out.c.r (by have:=HC.out.c.le;omega) HC.out.c.f Hnm.out).mono ?_;rintro e w5 ⟨a5,c5,X5,rfl,ho5,hp5,hr5,hb5⟩;have hq5:zi zr 12 w5 (.slice a5 X5.length c5) X5:=zi.own (fun _=>rfl) ho5;have hq6:=hq4.below hb5;have hr6:∀x∈X4,BuRd w5 x:=fun x hx=>(hr4 x hx).below hb5;have hY5:Below w1.heap.size w1 w5:=Below.trans (And.left (by assumption)) (hb5.mono (Below.size (And.left (by assumption))));clear hb5 ho5)
     | (go_at_call 33
        refine(JZ _ _ X4 X5 _ hq6 hq5 hr6 hr5 (hp5.trans hp4.symm)).mono ?_;rintro e w7 ⟨rfl,hb7⟩;have hY7:Below w1.heap.size w1 w7:=Below.trans (And.left (by assumption)) (hb7.mono (Below.size (And.left (by assumption))));clear hb7)
     | (go_at_call 20
        refine(Zj _).mono ?_;rintro e w8 ⟨rfl,hb8⟩;have hY8:Below w1.heap.size w1 w8:=Below.trans (And.left (by assumption)) (hb8.mono (Below.size (And.left (by assumption))));clear hb8));have HFin:=zb (Hb1.out.trans (hY8.mono Hb1.out.size));clear hY8;go_wp2;go_ret;exact⟨rfl,HFin.out⟩
end Go.Proofs.YtngippiilgdnoaaGreat
