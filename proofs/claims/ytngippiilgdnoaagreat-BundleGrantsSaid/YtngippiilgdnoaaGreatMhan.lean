/-
  The walks of the calendar: the number of a date's day, the beginning of a cycle, the cycle of a month.
-/
import Derived.Test.YtngippiilgdnoaaGreatMhal
import Derived.Test.YtngippiilgdnoaaGreatMhaf
import Derived.Deep.DeepCutAuto
import Derived.Deep.LoopGhost
import Derived.WalkMore
import Derived.IntWalk
set_option maxRecDepth 100000
set_option maxHeartbeats 25600000
namespace Go.Proofs.YtngippiilgdnoaaGreat
open Go.RowKit
theorem ER {a b:Int} {c:Bool} (h:(a==b)=c):(a != b)=!c:=by rw[bne,h]
theorem Qc (y:Int) (w:World) (h0:0<=y):Calls Tryz.prog 192 #[.int .i64 y] w fun e w'=>e=.returned (.bool (lpB y))/\w=w':=by
 have H:lpB y=((y % 4==0)&&(!(y % 100==0))||(y % 400==0)):=by rw[Bool.eq_iff_iff,Wd];simp;omega
 have H:=zb H;cases k1:(y % 4==0)<;>cases k2:(y % 100==0)<;>cases k3:(y % 400==0);all_goals
  have k4:=ER k2;simp only[Bool.not_true,Bool.not_false]at k4;rw[k1,k2,k3]at H;go_enter Tryz.func192,Tryz.ntmps192;go_wp2;go_ret;exact⟨zo H.out.symm,rfl⟩
theorem ZB (y m:Int) (w:World) (h0:0<=y) (h1:1<=m) (h2:m<=12):Calls Tryz.prog 177 #[.int .i64 y,.int .i64 m] w fun e w'=>e=.returned (.int .i64 (lenM y m))/\Below w.heap.size w w':=by
 obtain rfl|rfl|rfl|rfl|rfl|rfl|rfl|rfl|rfl|rfl|rfl|rfl:m=1\/m=2\/m=3\/m=4\/m=5\/m=6\/m=7\/m=8\/m=9\/m=10\/m=11\/m=12:=by omega
 case inr.inl=>
  cases hl:lpB y with
  |true=>have HL:=zb (Wb hl);have HC:=zb (Qc y · h0);rw[hl]at HC;clear hl;go_enter Tryz.func177,Tryz.ntmps177;go_wp2_with (go_at_call 192;refine(HC.out _).mono ?_;rintro e w' ⟨rfl,rfl⟩);go_ret;exact⟨zO (by unfold lenM;rw[HL.out];rfl),by go_grown⟩
  |false=>have HL:=zb (Wb hl);have HC:=zb (Qc y · h0);rw[hl]at HC;clear hl;go_enter Tryz.func177,Tryz.ntmps177;go_wp2_with (go_at_call 192;refine(HC.out _).mono ?_;rintro e w' ⟨rfl,rfl⟩);go_ret;exact⟨zO (by unfold lenM;rw[HL.out];rfl),by go_grown⟩
 all_goals
  go_enter Tryz.func177,Tryz.ntmps177;go_wp2;go_ret;exact⟨zO (by simp[lenM]),by go_grown⟩
theorem Kb (y m:Int) (w:World) (h0:2000<=y) (h3:y<=2399) (h1:1<=m) (h2:m<=12):Calls Tryz.prog 191 #[.int .i64 y,.int .i64 m] w fun e w'=>e=.returned (.int .i64 (lenM y m))/\Below w.heap.size w w':=by have HC:=zb (ZB y m · (by omega) h1 h2);go_enter Tryz.func191,Tryz.ntmps191;go_wp2_with (go_at_call 177;refine(HC.out _).mono ?_;rintro e w1 ⟨rfl,hb1⟩);go_ret;exact⟨rfl,hb1⟩
theorem Uc (m:Int) (w:World):Calls Tryz.prog 191 #[.int .i64 2400,.int .i64 m] w fun e w'=>e=.returned (.int .i64 0)/\Below w.heap.size w w':=by go_enter Tryz.func191,Tryz.ntmps191;go_wp2;go_ret;exact⟨rfl,Below.refl _ _⟩
theorem Yi (y:Int) (w:World) (h0:2000<=y) (h1:y<=2401):Calls Tryz.prog 176 #[.int .i64 y] w fun e w'=>e=.returned (.int .i64 (bef y))/\w=w':=by
 have HB:=zb (show bef y=365*(y-2000)+if y > 2000 then (y-2001) / 4-(y-2001) / 100+(y-2001) / 400+1 else 0 from rfl);by_cases hy:2000<y
 · have HE:RowKit.Hid (365*(y-2000)+((y-2000-1) / 4-(y-2000-1) / 100+(y-2000-1) / 400+1)=bef y):=zb (by rw[HB.out,if_pos hy];omega)
   have hy2:0<y-2000:=by omega
   go_enter Tryz.func176,Tryz.ntmps176;go_wp2;go_ret;exact⟨zO HE.out,rfl⟩
 obtain rfl:y=2000:=by omega
 go_enter Tryz.func176,Tryz.ntmps176;go_wp2;go_ret;exact⟨zO (by rw[HB.out];rfl),rfl⟩
theorem Gn (y m a:Int) (w:World) (h0:2000<=y) (h1:y<=2399) (h2:1<=m) (h3:m<=12) (h4:1<=a) (h5:a<=28):
 Calls Tryz.prog 175 #[.agg #[.int .i64 y,.int .i64 m,.int .i64 a]] w fun e w'=>e=.returned (.tuple #[.int .i64 (bef y+a-1+cum y m),.int .i64 0])/\Below w.heap.size w w':=by
 obtain⟨W,hW⟩:∃W,W=w.alloc (Obj.cells #[Value.int .i64 y,.int .i64 m,.int .i64 a] 201):=⟨_,rfl⟩;have hw0:Below w.heap.size w W:=by rw[hW];go_grown
 have r0:W.heap[w.heap.size]?=some (Obj.cells #[Value.int .i64 y,.int .i64 m,.int .i64 a] 201):=by rw[hW];exact heap_alloc_new _ _
 have hz:w.heap.size<W.heap.size:=by rw[hW];simp
 have HC:=zb (show ∀X,Below W.heap.size W X->X.cell? ⟨w.heap.size,0,none⟩=some (.int .i64 y)/\X.cell? ⟨w.heap.size,1,none⟩=some (.int .i64 m)/\X.cell? ⟨w.heap.size,2,none⟩=some (.int .i64 a)from fun X hb=>by
  have q:=(hb.block _ hz).trans r0;exact⟨cell_of_row X _ 0 _ _ _ q,cell_of_row X _ 1 _ _ _ q,cell_of_row X _ 2 _ _ _ q⟩);have HW:=zb hW;have Hw0:=zb hw0;have hln:=kZ y m;have HLen:=zb (Kb y m · h0 h1 h2 h3);have HBef:=zb (Yi y · h0 (by omega));have HDays:=zb (fun k w h h'=>ZB y k w (by omega) h h');have hbf:=XC y h0;have HCum:=zb (fun k=>EH y k);have HCs:=zb (fun k h h'=>Qt y k h h');have k1:decide (a<1)=false:=decide_eq_false (by omega);have k2:decide (lenM y m<a)=false:=decide_eq_false (by omega);generalize lenM y m=ln at *;generalize bef y=by0 at *;have f0:=fun p:ze W=>(HC.out p.w p.h).1;have f1:=fun p:ze W=>(HC.out p.w p.h).2.1;have f2:=fun p:ze W=>(HC.out p.w p.h).2.2;have hrr:=Below.refl W.heap.size W;clear hW r0 hw0 hz;go_enter Tryz.func175,Tryz.ntmps175;go_upto_region 1 with(fail);rw[<-HW.out];refine zl hrr (by kernel_rfl) (by kernel_rfl) ?_;repeat (go_big_quiet_step (first|(go_at_call 191;refine zE (HLen.out _) (fun e w' h=>h))))
 refine wpQuiet_nil ?_;intro V hw';have hWV:Below W.heap.size W V:=by obtain⟨pq,rfl⟩:=hw';exact pq.h
 clear hw' f0 f1 f2 hrr;have HWV:=zb hWV;have f0:=fun p:ze V=>(HC.out p.w (HWV.out.trans (p.h.mono HWV.out.size))).1;have f1:=fun p:ze V=>(HC.out p.w (HWV.out.trans (p.h.mono HWV.out.size))).2.1;have f2:=fun p:ze V=>(HC.out p.w (HWV.out.trans (p.h.mono HWV.out.size))).2.2;have hrr:=Below.refl V.heap.size V;clear hWV;go_upto_region 3 with(fail);refine zl hrr (by kernel_rfl) (by kernel_rfl) ?_;repeat (go_big_quiet_step (first|(go_at_call 176;refine zE (Q:=fun e w'=>e=.returned (.int .i64 by0)/\Below _ _ w') ((HBef.out _).mono fun e w' h=>⟨h.1,h.2▸Below.refl _ _⟩) (fun e w' h=>h))))
 refine wpQuiet_nil ?_;intro U hw';have hVU:Below V.heap.size V U:=by obtain⟨pq,rfl⟩:=hw';exact pq.h
 clear hw' f0 f1 f2 hrr;have HU:=zb (HWV.out.trans (hVU.mono HWV.out.size));clear hVU;have hw1:IntKind.i64.wrap (by0+a)=by0+a:=IntWalk.i64_in _ (by omega);have hw2:IntKind.i64.wrap (by0+a-1)=by0+a-1:=IntWalk.i64_in _ (by omega);go_wp2_with fail;go_loopw [4,5] (fun n k wr=>∃j:Int,1<=j/\j<=m/\k=.int .i64 j/\n=.int .i64 (by0+a-1+cum y j)/\Below W.heap.size W wr) (fun _ k _=>(12-intOf k).toNat);case atStart=>exact⟨1,by omega,by omega,rfl,by simp[cum],HU.out⟩
 case round=>
  obtain⟨j,hj1,hj2,rfl,rfl,hb⟩:=hrel;obtain⟨c0,c1,-⟩:=HC.out wr hb;have Hb:=zb hb;by_cases hlt:j<m
  · have hcb:=HCum.out j
    have HE:=zb (HCs.out j hj1 (by omega));have hln2:=kZ y j;have HD:=zb (HDays.out j wr hj1 (by omega));generalize lenM y j=l2 at *;go_wp2_with (go_at_call 177;refine HD.out.mono ?_;rintro e w1 ⟨rfl,hb1⟩);have hb2:=Hb.out.trans (hb1.mono Hb.out.size);refine⟨⟨j+1,by omega,by omega,by go_num,?_,hb2⟩,by simp[intOf];omega⟩;rw[HE.out];simp only[Value.int.injEq,true_and];omega
  obtain rfl:j=m:=by omega
  go_wp2;go_ret2;exact⟨rfl,Hw0.out.trans (Hb.out.mono Hw0.out.size)⟩
theorem EE (m a:Int) (w:World) (h4:1<=a):
 Calls Tryz.prog 175 #[.agg #[.int .i64 2400,.int .i64 m,.int .i64 a]] w fun e w'=>e=.returned (.tuple #[.int .i64 0,.int .i64 6])/\Below w.heap.size w w':=by
 obtain⟨W,hW⟩:∃W,W=w.alloc (Obj.cells #[Value.int .i64 2400,.int .i64 m,.int .i64 a] 201):=⟨_,rfl⟩;have hw0:Below w.heap.size w W:=by rw[hW];go_grown
 have r0:W.heap[w.heap.size]?=some (Obj.cells #[Value.int .i64 2400,.int .i64 m,.int .i64 a] 201):=by rw[hW];exact heap_alloc_new _ _
 have hz:w.heap.size<W.heap.size:=by rw[hW];simp
 have HC:=zb (show ∀X,Below W.heap.size W X->X.cell? ⟨w.heap.size,0,none⟩=some (.int .i64 2400)/\X.cell? ⟨w.heap.size,1,none⟩=some (.int .i64 m)/\X.cell? ⟨w.heap.size,2,none⟩=some (.int .i64 a)from fun X hb=>by
  have q:=(hb.block _ hz).trans r0;exact⟨cell_of_row X _ 0 _ _ _ q,cell_of_row X _ 1 _ _ _ q,cell_of_row X _ 2 _ _ _ q⟩);have HW:=zb hW;have Hw0:=zb hw0;have HLen:=zb (Uc m ·);have k1:decide (a<1)=false:=decide_eq_false (by omega);have k2:decide (0<a)=true:=decide_eq_true (by omega);have f0:=fun p:ze W=>(HC.out p.w p.h).1;have f1:=fun p:ze W=>(HC.out p.w p.h).2.1;have f2:=fun p:ze W=>(HC.out p.w p.h).2.2;have hrr:=Below.refl W.heap.size W;clear hW r0 hw0 hz;go_enter Tryz.func175,Tryz.ntmps175;go_upto_region 1 with(fail);rw[<-HW.out];refine zl hrr (by kernel_rfl) (by kernel_rfl) ?_;repeat (go_big_quiet_step (first|(go_at_call 191;refine zE (HLen.out _) (fun e w' h=>h))))
 refine wpQuiet_nil ?_;intro V hw';have hWV:Below W.heap.size W V:=by obtain⟨pq,rfl⟩:=hw';exact pq.h
 clear hw' f0 f1 f2 hrr;go_wp2;go_ret2;exact⟨rfl,Hw0.out.trans (hWV.mono Hw0.out.size)⟩
theorem Vh (a m:Int) (w:World) (h0:0<=m) (h1:m<=4800) (h4:1<=a) (h5:a<=28):
 Calls Tryz.prog 142 #[.int .i64 a,.int .i64 m] w fun e w'=>e=.returned (.int .i64 (beg a m))/\Below w.heap.size w w':=by
 by_cases hm:m<=4799
 · have HE:=zb (ju (a:=a) h0 hm)
   have HD:=zb (Gn (2000+m / 12) (m % 12+1) a · (by omega) (by omega) (by omega) (by omega) h4 h5);have hdm:=Wq h0 hm;have HQ:=zb (show bef (2000+m / 12)+a-1+cum (2000+m / 12) (m % 12+1)=dm m+a-1 by unfold dm;omega);rw[HQ.out]at HD;generalize dm m=d at *;clear HQ;go_enter Tryz.func142,Tryz.ntmps142;go_wp2_with (go_at_call 175;refine(HD.out _).mono ?_;rintro e w1 ⟨rfl,hb1⟩);go_ret;exact⟨zO HE.out.symm,hb1⟩
 obtain rfl:m=4800:=by omega
 have HE:=zb (j7 (a:=a) (m:=4800) (by omega));have HD:=zb (EE 1 a · h4);go_enter Tryz.func142,Tryz.ntmps142;go_wp2_with (go_at_call 175;refine(HD.out _).mono ?_;rintro e w1 ⟨rfl,hb1⟩);go_ret;exact⟨zO HE.out.symm,hb1⟩
theorem Vd (a m:Int) (w:World) (h0:-1<=m) (h1:m<=4799) (h4:1<=a) (h5:a<=28):
 Calls Tryz.prog 105 #[.int .i64 a,.int .i64 m] w fun e w'=>e=.returned (.agg #[.int .i64 (cyc a m).1,.int .i64 (cyc a m).2])/\Below w.heap.size w w':=by
 have H1:=zb (Vh a (m+1) · (by omega) (by omega) h4 h5);have HE:=zb (show cyc a m=(beg a m,beg a (m+1))from rfl);rw[HE.out];dsimp only;generalize beg a (m+1)=B1 at *;by_cases hm:0<=m
 · have H2:=zb (Vh a m · hm (by omega) h4 h5)
   generalize beg a m=B0 at *;clear HE;go_enter Tryz.func105,Tryz.ntmps105;go_wp2_with fail;refine(H1.out _).mono ?_;rintro e w1 ⟨rfl,hb1⟩;have hb1':Below w.heap.size w w1:=((Below.refl _ _).alloc (Nat.le_refl _) _).trans (hb1.mono (by simp));have hs1:=hb1.size;rw[World.size_alloc]at hs1;have q1:=(hb1.block w.heap.size (by simp)).trans (heap_alloc_new _ _);have Hq1:=zb q1;have Hb1:=zb hb1';clear q1 hb1 hb1';go_wp2_with fail;refine(H2.out _).mono ?_;rintro e w2 ⟨rfl,hb2⟩;have hb2':Below w.heap.size w w2:=(Hb1.out.alloc Hb1.out.size _).trans (hb2.mono (by have:=Hb1.out.size;simp;omega));have r2:=(hb2.block w1.heap.size (by simp)).trans (heap_alloc_new _ _);have q2:=(hb2.block w.heap.size (by simp;omega)).trans (((Below.refl w1.heap.size w1).alloc (Nat.le_refl _) _:Below _ w1 _).block w.heap.size (by omega) |>.trans Hq1.out);have x0:=cell_of_row w2 _ 0 _ _ _ r2;have x1:=cell_of_row w2 _ 1 _ _ _ r2;have x0f:=frozen_of_row w2 _ 0 _ _ r2;have y0:=cell_of_row w2 _ 0 _ _ _ q2;have y1:=cell_of_row w2 _ 1 _ _ _ q2;have y0f:=frozen_of_row w2 _ 0 _ _ q2;have y1f:=frozen_of_row w2 _ 1 _ _ q2;have hne:¬w1.heap.size=w.heap.size:=by omega
   have hne2:¬w.heap.size=w1.heap.size:=by omega
   have Hb2:=zb hb2';clear hb2 r2 q2 hb2';go_wp2;refine bodyPost_ret (v:=.agg #[.int .i64 B0,.int .i64 B1]) (by simp[results,Tryz.results105,go_sem,y0,y1]) rfl ⟨rfl,?_⟩;exact((Hb2.out.setCell (by simp;omega) _).setCell (by simp) _).setCell (by simp) _
 obtain rfl:m=-1:=by omega
 rw[uZ (by decide)];clear HE;go_enter Tryz.func105,Tryz.ntmps105;go_wp2_with fail;refine(H1.out _).mono ?_;rintro e w1 ⟨rfl,hb1⟩;have hb1':Below w.heap.size w w1:=((Below.refl _ _).alloc (Nat.le_refl _) _).trans (hb1.mono (by simp));have hs1:=hb1.size;rw[World.size_alloc]at hs1;have q1:=(hb1.block w.heap.size (by simp)).trans (heap_alloc_new _ _);obtain⟨X,hX⟩:∃X,X=w1.alloc (Obj.cells #[Value.int .i64 0,.int .i64 B1] 25):=⟨_,rfl⟩;have hbX:Below w1.heap.size w1 X:=by rw[hX];go_grown
 have q2:=(hbX.block w.heap.size (by omega)).trans q1;have r2:X.heap[w1.heap.size]?=some (Obj.cells #[Value.int .i64 0,.int .i64 B1] 25):=by rw[hX];exact heap_alloc_new _ _
 have x0:=cell_of_row X _ 0 _ _ _ r2;have x1:=cell_of_row X _ 1 _ _ _ r2;have y0:=cell_of_row X _ 0 _ _ _ q2;have y1:=cell_of_row X _ 1 _ _ _ q2;have y0f:=frozen_of_row X _ 0 _ _ q2;have y1f:=frozen_of_row X _ 1 _ _ q2;have hne:¬w1.heap.size=w.heap.size:=by omega
 have hne2:¬w.heap.size=w1.heap.size:=by omega
 have Hb1:=zb (hb1'.trans (hbX.mono hb1'.size));have HX:=zb hX;clear q1 hb1 hb1' hX q2 r2 hbX;go_upto_region 2 with(fail);rw[<-HX.out];go_wp2;refine bodyPost_ret (v:=.agg #[.int .i64 0,.int .i64 B1]) (by simp[results,Tryz.results105,go_sem,y0,y1]) rfl ⟨rfl,?_⟩;exact(Hb1.out.setCell (by simp) _).setCell (by simp) _
end Go.Proofs.YtngippiilgdnoaaGreat
