/-
  The reference's cycles of a period: the walk of CalR once more, with the row that they lie in.
-/
import Derived.Test.YtngippiilgdnoaaGreatMhan
import Derived.Test.YtngippiilgdnoaaGreatMhak
import Derived.Laws.Tables
set_option maxRecDepth 100000
set_option maxHeartbeats 25600000
namespace Go.Proofs.YtngippiilgdnoaaGreat
open Go.RowKit
theorem Y4 {w:World} {v:Value} {l:List (Int×Int)} (h:zi zh 2 w v l):yd w v l:=by obtain⟨av,cap,rfl,h1,h2,h3⟩:=h;refine⟨av,cap,rfl,h1,h2,fun hne=>?_⟩;obtain⟨b,o,rfl,hB,hx⟩:=h3 hne;exact⟨b,o,rfl,hB,fun i hi=>⟨hx i hi 0 (by decide),hx i hi 1 (by decide)⟩⟩
theorem KW {w:World} {v:Value} {l:List (Int×Int)} (h:yd w v l):zi zh 2 w v l:=by
 obtain⟨av,cap,rfl,h1,h2,h3⟩:=h;refine⟨av,cap,rfl,h1,h2,fun hne=>?_⟩;obtain⟨b,o,rfl,hB,hx⟩:=h3 hne;refine⟨b,o,rfl,hB,fun i hi j hj=>?_⟩;obtain⟨x0,x1⟩:=hx i hi
 match j,hj with
 |0,_=>exact x0
 |1,_=>exact x1
theorem zU {w:World} {g i:Nat} {cs:Array Value} {t:TypeId} {fr:Nat×Nat} (v:Value) (hg:w.heap[g]?=some (.cells cs t fr)):(w.setCell ⟨g,i,none⟩ v).heap[g]?=some (.cells (cs.setIfInBounds i v) t fr):=by rw[setCell_eq_setRow w g i cs t fr v hg];exact setRow_heap w g cs _ t fr hg
theorem zF {w:World} {g k i:Nat} {v:Value} {o:Obj} (hk:w.heap[k]?=some o) (h:k≠g):(w.setCell ⟨g,i,none⟩ v).heap[k]?=some o:=
 (Below.heap_setCell _ _ _ _ h).trans hk
def Ng (day:Int) (w:World) (e:Ending) (w':World):Prop:=∃mm:Int,0<=mm/\mm<=4799/\dm mm<=day/\day<dm (mm+1)/\e=.returned (.agg #[.int .i64 (2000+mm / 12),.int .i64 (mm % 12+1),.int .i64 (day-dm mm+1)])/\Below w.heap.size w w'
theorem date_to {day y m:Int} {w w':World} (hy0:2000<=y) (hy:y<=2399) (hm1:1<=m) (hm2:m<=12) (h0:0<=day-bef y-cum y m) (h1:day-bef y-cum y m<lenM y m) (hb:Below w.heap.size w w'):Ng day w (.returned (.agg #[.int .i64 y,.int .i64 m,.int .i64 (day-bef y-cum y m+1)])) w':=by
 have e1:(12*(y-2000)+m-1) / 12=y-2000:=by omega
 have e2:(12*(y-2000)+m-1) % 12=m-1:=by omega
 have hd:dm (12*(y-2000)+m-1)=bef y+cum y m:=by unfold dm;rw[e1,e2,show 2000+(y-2000)=y by omega,show m-1+1=m by omega]
 have hs:=Yb (12*(y-2000)+m-1) (by omega);rw[e1,e2,show 2000+(y-2000)=y by omega,show m-1+1=m by omega]at hs;refine⟨12*(y-2000)+m-1,by omega,by omega,by omega,by omega,?_,hb⟩;rw[e1,e2,hd,show 2000+(y-2000)=y by omega,show m-1+1=m by omega,show day-(bef y+cum y m)+1=day-bef y-cum y m+1 by omega]
theorem Xr (day:Int) (w:World) (h0:0<=day) (h1:day<146097):Calls Tryz.prog 143 #[.int .i64 day] w (Ng day w):=by
 have HB:=zb (fun y w h h'=>Yi y w h h');have HD:=zb (fun y m w h h1 h2=>ZB y m w h h1 h2);have HE:=zb (fun y m w w'=>@date_to day y m w w');have hg:=XC (2000+day / 366) (by omega);have hg2:bef (2000+day / 366)<=day:=by omega
 have HG:=zb hg2;have H24:=zb (show bef 2400=146097 by decide);obtain⟨A,hA⟩:∃A,A=w.alloc (Obj.cells #[Value.int .i64 0,.int .i64 0,.int .i64 0] 201):=⟨_,rfl⟩;have rA:A.heap[w.heap.size]?=some (Obj.cells #[Value.int .i64 0,.int .i64 0,.int .i64 0] 201):=by rw[hA];exact heap_alloc_new _ _
 have hzA:A.heap.size=w.heap.size+1:=by rw[hA];simp
 have hbA:Below w.heap.size w A:=by rw[hA];go_grown
 obtain⟨B,hB⟩:∃B,B=A.alloc (Obj.cells #[Value.int .i64 (2000+day / 366),.int .i64 1,.int .i64 0] 201):=⟨_,rfl⟩;have hbB:Below A.heap.size A B:=by rw[hB];go_grown
 have rB0:=(hbB.block w.heap.size (by omega)).trans rA;have hAw:w.heap.size<A.heap.size:=by omega
 have rB1:B.heap[A.heap.size]?=some (Obj.cells #[Value.int .i64 (2000+day / 366),.int .i64 1,.int .i64 0] 201):=by rw[hB];exact heap_alloc_new _ _
 have hwB:=hbA.trans (hbB.mono hbA.size);have HA:=zb hA;have HBw:=zb hB;have HR0:=zb rB0;have HR1:=zb rB1;have HwB:=zb hwB;clear hg hg2 hA rA hzA hbA hB hbB rB0 rB1 hwB;go_enter Tryz.func143,Tryz.ntmps143;go_upto_region 3 with(fail);rw[<-HA.out];go_wp2_with fail;rw[<-HBw.out];go_loopg [20] 399 (fun g _ wx=>∃y:Int,2000<=y/\y<=2399/\2399<=y+g/\bef y<=day/\wx.heap[w.heap.size]?=some (Obj.cells #[Value.int .i64 0,.int .i64 0,.int .i64 0] 201)/\wx.heap[A.heap.size]?=some (Obj.cells #[Value.int .i64 y,.int .i64 1,.int .i64 0] 201)/\Below w.heap.size w wx);case atStart=>exact⟨2000+day / 366,by omega,by omega,by omega,HG.out,HR0.out,HR1.out,HwB.out⟩
 case round=>
  obtain⟨wo,rfl⟩:∃wo:World,wo=wr:=⟨_,rfl⟩;obtain⟨y,hy0,hy1,hyg,hyb,hr,hd,hb⟩:=hrel;have HBy:=zb (HB.out (y+1) wo (by omega) (by omega));have hlt:A.heap.size<wo.heap.size:=(zu hd);have d0:=cell_of_row wo _ 0 _ _ _ hd;have d1:=cell_of_row wo _ 1 _ _ _ hd;have f0:=frozen_of_row wo _ 0 _ _ hd;have Hr:=zb hr;have Hd:=zb hd;have Hb:=zb hb;by_cases hc:bef (y+1)<=day
  · have hy2:y+1<=2399:=by
     refine Classical.byContradiction fun hn=>?_;rw[show y+1=2400 by omega,H24.out]at hc;omega
    cases gk with
    |zero=>omega
    |succ gk=>
      have Hhc:=zb hc;obtain⟨b1,hb1⟩:∃b1,b1=bef (y+1):=⟨_,rfl⟩;rw[<-hb1]at HBy hc;clear hr hd hb hyb hb1;go_wp2_with fail;refine HBy.out.mono ?_;rintro e w1 ⟨rfl,rfl⟩;go_wp2_with fail;go_roundg gk;case measure=>omega
      case rel=>exact⟨y+1,by omega,hy2,by omega,Hhc.out,zF Hr.out (by omega),zU _ Hd.out,Hb.out.setCell (Nat.le_of_lt hAw) _⟩
  have Hby:=zb (HB.out y wo (by omega) (by omega));have HS:=zb (UF y hy0);have hbb:=XC y hy0;have Hyb:=zb hyb;have Hc:=zb hc;have hlp:=Wc y;generalize bef (y+1)=b1 at *;obtain⟨b0,hb0⟩:∃b0,b0=bef y:=⟨_,rfl⟩;rw[<-hb0]at Hby HS hbb Hyb;have Hb0:=zb hb0;clear hr hd hb hyb hb0;have hyb:=Hyb.out;have k0:decide (b1<=day)=false:=decide_eq_false hc;go_wp2_with fail;refine HBy.out.mono ?_;rintro e w1 ⟨rfl,rfl⟩;go_wp2_with fail;refine Hby.out.mono ?_;rintro e w1 ⟨rfl,rfl⟩;go_wp2_with fail;go_loopg [0] 12 (fun g r wx=>∃m:Int,1<=m/\m<=12/\12<=m+g/\r=.int .i64 (day-b0-cum y m)/\0<=day-b0-cum y m/\wx.heap[w.heap.size]?=some (Obj.cells #[Value.int .i64 0,.int .i64 0,.int .i64 0] 201)/\wx.heap[A.heap.size]?=some (Obj.cells #[Value.int .i64 y,.int .i64 m,.int .i64 0] 201)/\Below w.heap.size w wx);case atStart=>exact⟨1,by omega,by omega,by omega,by simp[cum],by simp[cum];omega,Hr.out,Hd.out,Hb.out⟩
  case round=>
   obtain⟨wi,rfl⟩:∃wi:World,wi=wr:=⟨_,rfl⟩;obtain⟨m,hm1,hm2,hmg,rfl,hrest,hr,hd,hb⟩:=hrel;have HDm:=zb (HD.out y m · (by omega) hm1 hm2);have HCs:=zb (Qt y m hm1 hm2);have h13:=EI y;have hlt2:A.heap.size<wi.heap.size:=(zu hd);have hll:=kZ y m;have hcb:=EH y m;have hm12:m=12->day-b0-cum y m<lenM y m:=by rintro rfl;have hq:=HCs.out;rw[show(12:Int)+1=13 by rfl]at hq;have hS:=HS.out;omega
   have HE2:=zb (fun(w':World) hl=>HE.out y m w w' hy0 hy1 hm1 hm2 (by rw[<-Hb0.out];exact hrest) (by rw[<-Hb0.out];exact hl));rw[<-Hb0.out]at HE2;obtain⟨ln,hln⟩:∃ln,ln=lenM y m:=⟨_,rfl⟩;obtain⟨cu,hcu⟩:∃cu,cu=cum y m:=⟨_,rfl⟩;rw[<-hln]at HDm HCs hll hm12 HE2;rw[<-hcu]at HCs hrest hcb hm12 HE2;rw[<-hcu];have d0:=cell_of_row wi _ 0 _ _ _ hd;have d1:=cell_of_row wi _ 1 _ _ _ hd;have f1:=frozen_of_row wi _ 1 _ _ hd;have hlc:y=y:=rfl;clear hlc;have Hr:=zb hr;have Hd:=zb hd;have Hb:=zb hb;have Hcu:=zb hcu;have Hm12:=zb hm12;clear hr hb hln hcu h13 hm12 HS;by_cases hc:ln<=day-b0-cu
   · have hmlt:m<12:=by
      refine Classical.byContradiction fun hn=>?_;have:=Hm12.out (by omega);omega
     cases gk with
     |zero=>omega
     |succ gk=>
       clear hd;go_wp2_with fail;refine(HDm.out wi).mono ?_;rintro e w1 ⟨rfl,hb1⟩;have Hd1:=zb ((hb1.block _ hlt2).trans Hd.out);have Hr1:=zb ((hb1.block _ (by omega)).trans Hr.out);have Hbw:=zb (Hb.out.trans (hb1.mono Hb.out.size));have hlt3:A.heap.size<w1.heap.size:=by have:=hb1.size;omega
       have d0:=cell_of_row w1 _ 0 _ _ _ Hd1.out;have d1:=cell_of_row w1 _ 1 _ _ _ Hd1.out;clear hb1;go_wp2_with fail;refine(HDm.out w1).mono ?_;rintro e w2 ⟨rfl,hb1⟩;have Hd2:=zb ((hb1.block _ hlt3).trans Hd1.out);have Hr2:=zb ((hb1.block _ (by omega)).trans Hr1.out);have Hb2:=zb (Hbw.out.trans (hb1.mono Hbw.out.size));have d0:=cell_of_row w2 _ 0 _ _ _ Hd2.out;have d1:=cell_of_row w2 _ 1 _ _ _ Hd2.out;have f1:=frozen_of_row w2 _ 1 _ _ Hd2.out;clear hb1;go_wp2;go_roundg gk;case measure=>omega
       case rel=>exact⟨m+1,by omega,by omega,by omega,by rw[HCs.out];simp only[Value.int.injEq,true_and];omega,by rw[HCs.out];omega,zF Hr2.out (by omega),zU _ Hd2.out,Hb2.out.setCell (Nat.le_of_lt hAw) _⟩
   have HE3:=zb (fun w'=>HE2.out w' (by omega));clear hd HE2;go_wp2_with fail;refine(HDm.out wi).mono ?_;rintro e w1 ⟨rfl,hb1⟩;have Hd1:=zb ((hb1.block _ hlt2).trans Hd.out);have Hr1:=zb ((hb1.block _ (by omega)).trans Hr.out);have Hbw:=zb (Hb.out.trans (hb1.mono Hb.out.size));have hlt3:A.heap.size<w1.heap.size:=by have:=hb1.size;omega
   have d0:=cell_of_row w1 _ 0 _ _ _ Hd1.out;have d1:=cell_of_row w1 _ 1 _ _ _ Hd1.out;have d2:=cell_of_row w1 _ 2 _ _ _ Hd1.out;have f2:=frozen_of_row w1 _ 2 _ _ Hd1.out;have r0:=cell_of_row w1 _ 0 _ _ _ Hr1.out;have r1:=cell_of_row w1 _ 1 _ _ _ Hr1.out;have r2:=cell_of_row w1 _ 2 _ _ _ Hr1.out;have rf0:=frozen_of_row w1 _ 0 _ _ Hr1.out;have rf1:=frozen_of_row w1 _ 1 _ _ Hr1.out;have rf2:=frozen_of_row w1 _ 2 _ _ Hr1.out;have hne1:¬A.heap.size=w.heap.size:=by omega
   have hne2:¬w.heap.size=A.heap.size:=by omega
   clear hb1;go_wp2;refine bodyPost_ret (v:=.agg #[.int .i64 y,.int .i64 m,.int .i64 (day-b0-cu+1)]) (by simp[results,Tryz.results143,go_sem,r0,r1,r2]) rfl (HE3.out _ ?_);exact((((Hbw.out.setCell (Nat.le_of_lt hAw) _).setCell (by simp) _).setCell (by simp) _).setCell (by simp) _)
theorem mo_of {a t mm:Int} (ha:1<=a) (hb:a<=28) (h1:t<12622780800) (m0:0<=mm) (m1:mm<=4799) (d0:dm mm<=t / 86400) (d1:t / 86400<dm (mm+1)):
 (t / 86400-dm mm+1<a->IsMo a t (mm-1))/\(a<=t / 86400-dm mm+1->IsMo a t mm):=by
 constructor
 · intro h
   refine⟨by omega,by omega,?_,?_⟩
   · by_cases hz:mm=0
     · subst hz
       rw[uZ (by decide)];rw[dm_0]at d0;omega
     rw[ju (by omega) (by omega)];have h2:=Yb (mm-1) (by omega);have h3:=kZ (2000+(mm-1) / 12) ((mm-1) % 12+1);rw[show mm-1+1=mm by omega]at h2;omega
   rw[show mm-1+1=mm by omega,ju m0 m1];omega
 intro h;refine⟨by omega,m1,?_,?_⟩
 · rw[ju m0 m1]
   omega
 by_cases h4:mm=4799
 · subst h4
   rw[j7 (by decide)];exact h1
 rw[ju (by omega) (by omega)];omega
theorem uu (a t m:Int) (w:World) (ha:1<=a) (hb:a<=28) (h0:0<=t) (h1:t<12622780800) (hm:IsMo a t m):
 Calls Tryz.prog 106 #[.int .i64 a,.int .i64 t] w fun e w'=>e=.returned (.int .i64 m)/\Below w.heap.size w w':=by
 have HD:=zb (Xr (t / 86400) w (by omega) (by omega));have HM:=zb (fun k=>IsMo.one (k:=k) ha hb hm);have HO:=zb (fun k=>@mo_of a t k ha hb h1);clear hm;go_enter Tryz.func106,Tryz.ntmps106;go_wp2_with fail;refine HD.out.mono ?_;rintro e w1 ⟨mm,m0,m1,d0,d1,rfl,hb1⟩;have Hb1:=zb hb1;have Hq:=zb (HO.out mm m0 m1 d0 d1);have hdm:=Wq m0 m1;obtain⟨dd,hdd⟩:∃dd,dd=dm mm:=⟨_,rfl⟩;rw[<-hdd]at hdm Hq d0⊢;have hd0:0<=t / 86400:=by omega
 have hd1:t / 86400<=146097:=by omega
 clear hdd d1 hb1;by_cases hc:t / 86400-dd+1<a
 · have HE:=zb (HM.out _ (Hq.out.1 hc))
   go_wp2;go_ret;exact⟨zO (by rw[HE.out];omega),Hb1.out.alloc Hb1.out.size _⟩
 have HE:=zb (HM.out _ (Hq.out.2 (by omega)));go_wp2;go_ret;exact⟨zO (by rw[HE.out];omega),Hb1.out.alloc Hb1.out.size _⟩
theorem Xy (a t m:Int) (w:World) (ha:1<=a) (hb:a<=28) (h0:0<=t) (h1:t<12622780800) (hm:IsMo a t m):
 Calls Tryz.prog 67 #[.int .i64 a,.int .i64 t] w fun e w'=>e=.returned (.agg #[.int .i64 (cyc a m).1,.int .i64 (cyc a m).2])/\Below w.heap.size w w':=by
 have HM:=zb (uu a t m · ha hb h0 h1 hm);have HC:=zb (Vd a m · hm.1 hm.2.1 ha hb);clear hm;generalize cyc a m=c at *;obtain⟨c0,c1⟩:=c;dsimp only at HC⊢;go_enter Tryz.func67,Tryz.ntmps67;go_wp2_with fail;refine(HM.out _).mono ?_;rintro e w1 ⟨rfl,hb1⟩;go_wp2_with fail;refine(HC.out _).mono ?_;rintro e w2 ⟨rfl,hb2⟩;have hb3:=hb1.trans (hb2.mono hb1.size);have q:=(hb3.block w.heap.size (by simp)).trans (heap_alloc_new _ _);have r0:=cell_of_row w2 _ 0 _ _ _ q;have r1:=cell_of_row w2 _ 1 _ _ _ q;have rf0:=frozen_of_row w2 _ 0 _ _ q;have rf1:=frozen_of_row w2 _ 1 _ _ q;have Hb3:=zb (show Below w.heap.size w w2 from((Below.refl _ _).alloc (Nat.le_refl _) _).trans (hb3.mono (by simp)));clear hb1 hb2 hb3 q;go_wp2;refine bodyPost_ret (v:=.agg #[.int .i64 c0,.int .i64 c1]) (by simp[results,Tryz.results67,go_sem,r0,r1]) rfl ⟨rfl,?_⟩;exact(Hb3.out.setCell (by simp) _).setCell (by simp) _
theorem NB (p:Int×Int):∀u∈zh p,u.oneCell'=true:=by intro u hu;simp only[zh,List.mem_cons,List.not_mem_nil,or_false]at hu;rcases hu with rfl|rfl<;>rfl
theorem ZH {w:World} {ops:Array Oper} {rest:List Oper} {o:Oper} {a:Act} {Q:Exit->Act->World->Prop} (hgd:o.guard=none) (s x:Operand)
 (ho:o.op=.call { callee:=.builtin .append,args:=#[s,x],argTypes:=#[85,85] })
 (base:Nat) (hbase:base<=w.heap.size) (v vx:Value) (L X:List (Int×Int)) (hs:a.eval s=v) (hx:a.eval x=vx) (hown:w.ownsRow base 25 2 v L.length (L.flatMap zh)) (hX:zi zh 2 w vx X) (hlen:L.length+X.length<=1000000)
 (h:∀R:List (Int×Int),RowKit.Hid (R=L++X)->∀v' w',w'.ownsRow base 25 2 v' R.length (R.flatMap zh)->Below base w w'->wpList Tryz.prog ops Q rest (a.put o.dst v') w'):wpList Tryz.prog ops Q (o::rest) a w:=
 ZG (c:=zh) (sz:=2) (fun _=>rfl) NB 25 85 _ 16 Tryz.underlying85 Tryz.perInfo rfl (by decide) hgd s x ho base hbase v vx L X hs hx hown hX (by unfold maxLen;omega) (by omega) h
def xe (w:World) (L:List (Int×Int)) (e:Ending) (w':World):Prop:=∃v,e=.returned v/\w'.ownsRow w.heap.size 25 2 v L.length (L.flatMap zh)/\Below w.heap.size w w'
theorem Qs (a f t lo hi:Int) (w:World) (ha:1<=a) (hb:a<=28) (hv:ym f t=true) (hlo:IsMo a f lo) (hhi:IsMo a (t-1) hi):
 Calls Tryz.prog 92 #[.int .i64 a,.agg #[.int .i64 f,.int .i64 t]] w (xe w (cycL a lo hi)):=by
 obtain⟨v0,v1,v2⟩:=(zw f t).1 hv;obtain⟨W,hW⟩:∃W,W=w.alloc (Obj.cells #[Value.int .i64 f,.int .i64 t] 25):=⟨_,rfl⟩;have hw0:Below w.heap.size w W:=by rw[hW];go_grown
 have r0:W.heap[w.heap.size]?=some (Obj.cells #[Value.int .i64 f,.int .i64 t] 25):=by rw[hW];exact heap_alloc_new _ _
 have hz:w.heap.size<W.heap.size:=by rw[hW];simp
 have HC:=zb (show ∀X,Below W.heap.size W X->X.cell? ⟨w.heap.size,0,none⟩=some (.int .i64 f)/\X.cell? ⟨w.heap.size,1,none⟩=some (.int .i64 t)from fun X hb=>by
  have q:=(hb.block _ hz).trans r0;exact⟨cell_of_row X _ 0 _ _ _ q,cell_of_row X _ 1 _ _ _ q⟩);have HW:=zb hW;have Hw0:=zb hw0;obtain⟨l1,l2,-,-⟩:=id hlo;obtain⟨h1,h2,-,-⟩:=id hhi;have hle:=hlo.le ha hb hhi (by omega);have HLo:=zb (uu a f lo · ha hb v0 (by omega) hlo);have HHi:=zb (uu a (t-1) hi · ha hb (by omega) (by omega) hhi);have HCy:=zb (fun m w h h'=>Vd a m w h h' ha hb);have HS:=zb (fun h h'=>@JK a lo h h');have HN:=zb (fun h h'=>@Yc a lo h h');have HL:=zb (Yd a lo);have k1:decide (f<0)=false:=decide_eq_false (by omega);have k2:decide (t<=f)=false:=decide_eq_false (by omega);have k3:decide (12622780800<t)=false:=decide_eq_false (by omega);obtain⟨c0,c1⟩:=HC.out W (Below.refl _ _);clear hW r0 hw0 hlo hhi hv;go_enter Tryz.func92,Tryz.ntmps92;go_upto_region 1 with(fail);rw[<-HW.out];go_wp2_with fail;refine(HLo.out W).mono ?_;rintro e w1 ⟨rfl,hb1⟩;have Hb1:=zb hb1;clear hb1;go_wp2_with fail;go_loopg [5,6] (hi+1-lo).toNat (fun g vo k wx=>∃j:Int,lo<=j/\j<=hi+1/\hi+1-j<=g/\k=.int .i64 j/\wx.ownsRow W.heap.size 25 2 vo (cycL a lo (j-1)).length ((cycL a lo (j-1)).flatMap zh)/\Below W.heap.size W wx);case atStart=>exact⟨lo,by omega,by omega,by omega,rfl,by rw[HN.out _ (by omega)];exact World.ownsRow_nil _ _ _ _,Hb1.out⟩
 case round=>
  obtain⟨wo,rfl⟩:∃wo:World,wo=wr:=⟨_,rfl⟩;obtain⟨j,hj0,hj1,hjg,rfl,hown,hb⟩:=hrel;obtain⟨av,cp,rfl,hcp,hcm⟩:=zf hown;obtain⟨d0,d1⟩:=HC.out wo hb;have Hown:=zb hown;have Hb:=zb hb;have Hlen:=zb (HL.out (j-1));have HS1:=zb (HS.out (j-1) (by omega));obtain⟨L,hL⟩:∃L,L=cycL a lo (j-1):=⟨_,rfl⟩;rw[<-hL]at Hown Hlen HS1⊢;have HLe:=zb hL;clear hown hb hL c0 c1;have hsub:IntKind.i64.wrap (t-1)=t-1:=IntWalk.i64_in _ (by omega);go_wp2_with fail;refine(HHi.out wo).mono ?_;rintro e w2 ⟨rfl,hb2⟩;have Hown2:=zb (zd Hown.out hb2);have Hb2:=zb (Hb.out.trans (hb2.mono Hb.out.size));clear hb2 d0 d1;by_cases hc:j<=hi
  · cases gk with
    |zero=>omega
    |succ gk=>
      have HCj:=zb (HCy.out j · (by omega) (by omega));have hlenb:L.length<=10000:=by rw[Hlen.out];omega
      have HS2:=zb (show cycL a lo j=L++[cyc a j] by have h:=HS1.out;rwa[show j-1+1=j by omega]at h);obtain⟨c,hcc⟩:∃c,c=cyc a j:=⟨_,rfl⟩;rw[<-hcc]at HCj HS2;clear hcc;obtain⟨x0,x1⟩:=c;dsimp only at HCj;go_wp2_with fail;refine(HCj.out w2).mono ?_;rintro e w3 ⟨rfl,hb3⟩;have Hown3:=zb (zd Hown2.out hb3);have Hb3:=zb (Hb2.out.trans (hb3.mono Hb2.out.size));have hbs:=Hb3.out.size;have HX:=zb (zi.one (c:=zh) (sz:=2) w3 (x0,x1) 25 #[.int .i64 x0,.int .i64 x1] rfl);clear hb3;go_wp2_with (at_builtin;refine ZH rfl _ _ rfl W.heap.size ?hs1 _ _ L [(x0,x1)] rfl rfl (Hown3.out.alloc _) HX.out ?hl1 ?_);case hs1=>simp;omega
      case hl1=>simp;omega
      intro R hR v4 w4 own4 hb4;have Hb4:=zb ((Hb3.out.alloc hbs (Obj.cells #[.int .i64 x0,.int .i64 x1] 25)).trans hb4);have Own4:=zb own4;have HR:=zb (hR.out.trans HS2.out.symm);clear own4 hb4 hR;go_wp2;go_roundg gk;case measure=>omega
      case rel=>exact⟨j+1,by omega,by omega,by omega,by go_num,by rw[show j+1-1=j by omega,<-HR.out];exact Own4.out,Hb4.out⟩
  obtain rfl:j=hi+1:=by omega
  have HE:=zb (show L=cycL a lo hi by rw[HLe.out];congr 1;omega);go_wp2;go_ret;exact⟨_,rfl,zx (by rw[<-HE.out];exact Hown2.out) Hw0.out.size,Hw0.out.trans (Hb2.out.mono Hw0.out.size)⟩
theorem Kp (a f t lo hi:Int) (w:World) (ha:1<=a) (hb:a<=28) (hv:ym f t=true) (hlo:IsMo a f lo) (hhi:IsMo a (t-1) hi):
 Calls Tryz.prog 92 #[.int .i64 a,.agg #[.int .i64 f,.int .i64 t]] w (jF w (cycL a lo hi)):=
 (Qs a f t lo hi w ha hb hv hlo hhi).mono fun _ _ ⟨v,h1,h2,h3⟩=>⟨v,h1,Y4 (zi.own (fun _=>rfl) h2),h3⟩
theorem Jb (f t:Int) (w:World):Calls Tryz.prog 102 #[.agg #[.int .i64 f,.int .i64 t]] w fun e w'=>e=.returned (.bool (ym f t))/\Below w.heap.size w w':=by
 by_cases h1:0<=f
 · have k1:decide (0<=f)=true:=decide_eq_true h1
   by_cases h2:f<t
   · have k2:decide (f<t)=true:=decide_eq_true h2
     by_cases h3:t<=12622780800
     · have k3:decide (t<=12622780800)=true:=decide_eq_true h3
       have H:=zb (Vw (zw f t) ⟨h1,h2,h3⟩);go_enter Tryz.func102,Tryz.ntmps102;go_wp2;go_ret;exact⟨zo H.out,by go_grown⟩
     have k3:decide (t<=12622780800)=false:=decide_eq_false h3;have H:=zb (qj (zw f t) (fun h=>h3 h.2.2));go_enter Tryz.func102,Tryz.ntmps102;go_wp2;go_ret;exact⟨zo H.out,by go_grown⟩
   have k2:decide (f<t)=false:=decide_eq_false h2;have H:=zb (qj (zw f t) (fun h=>h2 h.2.1));go_enter Tryz.func102,Tryz.ntmps102;go_wp2;go_ret;exact⟨zo H.out,by go_grown⟩
 have k1:decide (0<=f)=false:=decide_eq_false h1;have H:=zb (qj (zw f t) (fun h=>h1 h.1));go_enter Tryz.func102,Tryz.ntmps102;go_wp2;go_ret;exact⟨zo H.out,by go_grown⟩
theorem YZ (y:Int) (w:World) (h0:0<=y):Calls Tryz.prog 139 #[.int .i64 y] w fun e w'=>e=.returned (.bool (lpB y))/\w=w':=by
 have H:lpB y=((y % 4==0)&&((!(y % 100==0))||(y % 400==0))):=by rw[Bool.eq_iff_iff,Wd];simp
 have H:=zb H;cases k1:(y % 4==0)<;>cases k2:(y % 100==0)<;>cases k3:(y % 400==0);all_goals
  have k4:=ER k2;simp only[Bool.not_true,Bool.not_false]at k4;rw[k1,k2,k3]at H;go_enter Tryz.func139,Tryz.ntmps139;go_wp2;go_ret;exact⟨zo H.out.symm,rfl⟩
theorem Q6 (y m:Int) (w:World) (h0:2000<=y) (h3:y<=2399) (h1:1<=m) (h2:m<=12):Calls Tryz.prog 103 #[.int .i64 y,.int .i64 m] w fun e w'=>e=.returned (.int .i64 (lenM y m))/\w=w':=by
 obtain rfl|rfl|rfl|rfl|rfl|rfl|rfl|rfl|rfl|rfl|rfl|rfl:m=1\/m=2\/m=3\/m=4\/m=5\/m=6\/m=7\/m=8\/m=9\/m=10\/m=11\/m=12:=by omega
 case inr.inl=>
  cases hl:lpB y with
  |true=>have HL:=zb (Wb hl);have HC:=zb (YZ y · (by omega));rw[hl]at HC;clear hl;go_enter Tryz.func103,Tryz.ntmps103;go_wp2_with (go_at_call 139;refine(HC.out _).mono ?_;rintro e w' ⟨rfl,rfl⟩);go_ret;exact⟨zO (by unfold lenM;rw[HL.out];rfl),rfl⟩
  |false=>have HL:=zb (Wb hl);have HC:=zb (YZ y · (by omega));rw[hl]at HC;clear hl;go_enter Tryz.func103,Tryz.ntmps103;go_wp2_with (go_at_call 139;refine(HC.out _).mono ?_;rintro e w' ⟨rfl,rfl⟩);go_ret;exact⟨zO (by unfold lenM;rw[HL.out];rfl),rfl⟩
 all_goals
  go_enter Tryz.func103,Tryz.ntmps103;go_wp2;go_ret;exact⟨zO (by simp[lenM]),rfl⟩
theorem meets_iff {a f t lo hi m:Int} (ha:1<=a) (hb:a<=28) (h0:0<=f) (hlo:IsMo a f lo) (hhi:IsMo a (t-1) hi):
 (lo<=m-1/\m-1<=hi->beg a m > beg a (m-1))/\(lo<=m-1↔f<beg a m)/\(m-1<=hi↔beg a (m-1)<t):=by
 obtain⟨l0,l1,l2,l3⟩:=hlo;obtain⟨g0,g1,g2,g3⟩:=hhi;refine⟨fun⟨h1,h2⟩=>?_,⟨fun h=>?_,fun h=>?_⟩,⟨fun h=>?_,fun h=>?_⟩⟩
 · by_cases hk:0<=m-1
   · have:=XB ha hb hk (by omega)
     rwa[show m-1+1=m by omega]at this
   obtain rfl:m=0:=by omega
   obtain rfl:lo=-1:=by omega
   rw[uZ (show(0:Int)-1<0 by decide)];rw[show(-1:Int)+1=0 by rfl]at l3;omega
 · have:=vN ha hb (show lo+1<=m by omega)
   omega
 · refine Classical.byContradiction fun hn=>?_
   have:=vN ha hb (show m<=lo by omega);omega
 · have:=vN ha hb h
   omega
 refine Classical.byContradiction fun hn=>?_;have:=vN ha hb (show hi+1<=m-1 by omega);omega
theorem cycL_step {a f t lo hi m:Int} (ha:1<=a) (hb:a<=28) (h0:0<=f) (hft:f<t) (hlo:IsMo a f lo) (hhi:IsMo a (t-1) hi):
 cycL a lo (min hi (m-1))=if beg a m > beg a (m-1)/\beg a (m-1)<t/\f<beg a m then cycL a lo (min hi (m-2))++[(beg a (m-1),beg a m)] else cycL a lo (min hi (m-2)):=by
 obtain⟨m1,m2,m3⟩:=@meets_iff a f t lo hi m ha hb h0 hlo hhi;have hle:=hlo.le ha hb hhi (by omega);by_cases h:lo<=m-1/\m-1<=hi
 · rw[if_pos ⟨m1 h,m3.1 h.2,m2.1 h.1⟩]
   rw[show min hi (m-1)=m-1 by omega,show min hi (m-2)=m-2 by omega];have:=JK (a:=a) (lo:=lo) (hi:=m-2) (by omega);rw[show m-2+1=m-1 by omega]at this;rw[this];unfold cyc;rw[show m-1+1=m by omega]
 rw[if_neg (fun hh=>h ⟨m2.2 hh.2.2,m3.2 hh.2.1⟩)];by_cases h2:lo<=m-1;· rw[show min hi (m-1)=hi by omega,show min hi (m-2)=hi by omega]
 rw[Yc (by omega),Yc (by omega)]
theorem Q8 (a f t lo hi:Int) (w:World) (ha:1<=a) (hb:a<=28) (hv:ym f t=true) (hlo:IsMo a f lo) (hhi:IsMo a (t-1) hi):
 Calls Tryz.prog 63 #[.int .i64 a,.agg #[.int .i64 f,.int .i64 t]] w (jF w (cycL a lo hi)):=by
 obtain⟨v0,v1,v2⟩:=(zw f t).1 hv;obtain⟨W,hW⟩:∃W,W=w.alloc (Obj.cells #[Value.int .i64 f,.int .i64 t] 25):=⟨_,rfl⟩;have hw0:Below w.heap.size w W:=by rw[hW];go_grown
 have r0:W.heap[w.heap.size]?=some (Obj.cells #[Value.int .i64 f,.int .i64 t] 25):=by rw[hW];exact heap_alloc_new _ _
 have hz:w.heap.size<W.heap.size:=by rw[hW];simp
 have HC:=zb (show ∀X,Below W.heap.size W X->X.cell? ⟨w.heap.size,0,none⟩=some (.int .i64 f)/\X.cell? ⟨w.heap.size,1,none⟩=some (.int .i64 t)from fun X hb=>by
  have q:=(hb.block _ hz).trans r0;exact⟨cell_of_row X _ 0 _ _ _ q,cell_of_row X _ 1 _ _ _ q⟩);have HW:=zb hW;have Hw0:=zb hw0;have HV:=zb (Jb f t W);rw[hv]at HV;have HLn:=zb (fun y m w h h' h1 h2=>Q6 y m w h h' h1 h2);have HSt:=zb (fun m=>@cycL_step a f t lo hi m ha hb v0 v1 hlo hhi);have HL:=zb (Yd a lo);have HD:=zb (fun m h=>Yb m h);have HDb:=zb (fun m h h'=>@Wq m h h');have HBm:=zb (fun m h h'=>@ju a m h h');have HBh:=zb (fun m h=>@j7 a m h);have HBb:=zb (fun m=>@QA a m ha hb);have HN:=zb (show cycL a lo (min hi (0-2))=[] from Yc (by have:=hlo.1;omega));have HEnd:=zb (show cycL a lo (min hi (4801-2))=cycL a lo hi by rw[show min hi (4801-2)=hi by have:=hhi.2.1;omega]);have hl1:=hlo.1;have h2:=hhi.2.1;clear hW r0 hw0 hlo hhi hv;obtain⟨c0,c1⟩:=HC.out W (Below.refl _ _);go_enter Tryz.func63,Tryz.ntmps63;go_upto_region 1 with(fail);rw[<-HW.out];go_wp2_with fail;refine HV.out.mono ?_;rintro e w1 ⟨rfl,hb1⟩;have Hb1:=zb hb1;clear hb1 c0 c1;go_wp2_with fail;go_loopg [5,6,7,8,9] 4801 (fun g vo fr dy k _ wx=>∃j:Int,0<=j/\j<=4801/\4801<=j+g/\k=.int .i64 j/\fr=.int .i64 (beg a (j-1))/\(j<=4800->dy=.int .i64 (dm j))/\wx.ownsRow W.heap.size 25 2 vo (cycL a lo (min hi (j-2))).length ((cycL a lo (min hi (j-2))).flatMap zh)/\Below W.heap.size W wx);case atStart=>exact⟨0,by omega,by omega,by omega,rfl,rfl,fun _=>rfl,by rw[HN.out];exact World.ownsRow_nil _ _ _ _,Hb1.out⟩
 case round=>
  obtain⟨wo,rfl⟩:∃wo:World,wo=wr:=⟨_,rfl⟩;obtain⟨j,hj0,hj1,hjg,rfl,rfl,hdy,hown,hb⟩:=hrel;obtain⟨av,cp,rfl,hcp,hcm⟩:=zf hown;obtain⟨d0,d1⟩:=HC.out wo hb;have Hown:=zb hown;have Hb:=zb hb;have Hlen:=zb (HL.out (min hi (j-2)));have HS1:=zb (HSt.out j);have hbp:=HBb.out (j-1);have HBpj:=zb (show beg a (j+1-1)=beg a j by rw[show j+1-1=j by omega]);obtain⟨L,hL⟩:∃L,L=cycL a lo (min hi (j-2)):=⟨_,rfl⟩;rw[<-hL]at Hown Hlen HS1⊢;obtain⟨bp,hbpe⟩:∃bp,bp=beg a (j-1):=⟨_,rfl⟩;rw[<-hbpe]at hbp HS1⊢;have HLe:=zb hL;have hlenb:L.length<=10000:=by rw[Hlen.out];omega
  clear hown hb hL hbpe;by_cases h48:j<=4800
  · cases gk with
    |zero=>omega
    |succ gk=>
      obtain rfl:=hdy h48;by_cases h47:j<=4799
      · have HBj:=zb (HBm.out j hj0 h47)
        have HDj:=zb (HD.out j hj0);have hdb:=HDb.out j hj0 h47;have HLj:=zb (HLn.out (2000+j / 12) (j % 12+1) wo (by omega) (by omega) (by omega) (by omega));have hll:=kZ (2000+j / 12) (j % 12+1);obtain⟨d,hd⟩:∃d,d=dm j:=⟨_,rfl⟩;obtain⟨ln,hln⟩:∃ln,ln=lenM (2000+j / 12) (j % 12+1):=⟨_,rfl⟩;rw[<-hd]at HBj HDj hdb⊢;rw[<-hln]at HDj HLj hll;clear hd hln h48 hdy;rw[HBj.out]at HS1;have hd1:0<=(d+a-1)*86400:=by omega
        have hd2:(d+a-1)*86400<=12622780800:=by omega
        go_wp2_with fail;refine HLj.out.mono ?_;rintro e w2 ⟨rfl,rfl⟩;go_upto_region 12 with(fail);by_cases hall:(d+a-1)*86400 > bp/\bp<t/\f<(d+a-1)*86400
        · have HS2:=zb (HS1.out.trans (if_pos hall))
          obtain⟨g1,g2,g3⟩:=hall;have k1:decide (bp<(d+a-1)*86400)=true:=decide_eq_true g1;have k2:decide (bp<t)=true:=decide_eq_true g2;have k3:decide (f<(d+a-1)*86400)=true:=decide_eq_true g3;have hbs:=Hb.out.size;have HX:=zb (zi.one (c:=zh) (sz:=2) wo (bp,(d+a-1)*86400) 25 #[.int .i64 bp,.int .i64 ((d+a-1)*86400)] rfl);go_wp2_with (at_builtin;refine ZH rfl _ _ rfl W.heap.size ?hs1 _ _ L [(bp,(d+a-1)*86400)] rfl rfl (Hown.out.alloc _) HX.out ?hl1 ?_);case hs1=>simp;omega
          case hl1=>simp;omega
          intro R hR v4 w4 own4 hb4;have Hb4:=zb ((Hb.out.alloc hbs (Obj.cells #[.int .i64 bp,.int .i64 ((d+a-1)*86400)] 25)).trans hb4);have Own4:=zb own4;have HR:=zb (hR.out.trans HS2.out.symm);clear own4 hb4 hR;go_wp2;go_roundg gk;case measure=>omega
          case rel=>exact⟨j+1,by omega,by omega,by omega,by go_num,by rw[show(j:Int)+1-1=j by omega,HBj.out],fun _=>by rw[HDj.out],by rw[show(j:Int)+1-2=j-1 by omega,<-HR.out];exact Own4.out,Hb4.out⟩
        have HS2:=zb (HS1.out.trans (if_neg hall));have Own4:=Hown;have Hb4:=Hb;have HR:=zb HS2.out.symm;have hor:(¬bp<(d+a-1)*86400)\/(bp<(d+a-1)*86400/\¬bp<t)\/(bp<(d+a-1)*86400/\bp<t/\¬f<(d+a-1)*86400):=by
         by_cases q1:bp<(d+a-1)*86400
         · by_cases q2:bp<t
           · by_cases q3:f<(d+a-1)*86400
             · exact absurd ⟨q1,q2,q3⟩ hall
             exact Or.inr (Or.inr ⟨q1,q2,q3⟩)
           exact Or.inr (Or.inl ⟨q1,q2⟩)
         exact Or.inl q1
        clear hall;rcases hor with q1|⟨q1,q2⟩|⟨q1,q2,q3⟩
        · have k1:decide (bp<(d+a-1)*86400)=false:=decide_eq_false q1
          go_wp2;go_roundg gk;case measure=>omega
          case rel=>exact⟨j+1,by omega,by omega,by omega,by go_num,by rw[show(j:Int)+1-1=j by omega,HBj.out],fun _=>by rw[HDj.out],by rw[show(j:Int)+1-2=j-1 by omega,<-HR.out];exact Own4.out,Hb4.out⟩
        · have k1:decide (bp<(d+a-1)*86400)=true:=decide_eq_true q1
          have k2:decide (bp<t)=false:=decide_eq_false q2;go_wp2;go_roundg gk;case measure=>omega
          case rel=>exact⟨j+1,by omega,by omega,by omega,by go_num,by rw[show(j:Int)+1-1=j by omega,HBj.out],fun _=>by rw[HDj.out],by rw[show(j:Int)+1-2=j-1 by omega,<-HR.out];exact Own4.out,Hb4.out⟩
        have k1:decide (bp<(d+a-1)*86400)=true:=decide_eq_true q1;have k2:decide (bp<t)=true:=decide_eq_true q2;have k3:decide (f<(d+a-1)*86400)=false:=decide_eq_false q3;go_wp2;go_roundg gk;case measure=>omega
        case rel=>exact⟨j+1,by omega,by omega,by omega,by go_num,by rw[show(j:Int)+1-1=j by omega,HBj.out],fun _=>by rw[HDj.out],by rw[show(j:Int)+1-2=j-1 by omega,<-HR.out];exact Own4.out,Hb4.out⟩
      obtain rfl:j=4800:=by omega
      rw[HBh.out 4800 (by decide)]at HS1;have HBj:=zb (HBh.out 4800 (by decide));clear h48 hdy h47;obtain⟨d,hd⟩:∃d,d=dm 4800:=⟨_,rfl⟩;rw[<-hd];clear hd;go_upto_region 12 with(fail);by_cases hall:12622780800 > bp/\bp<t/\f<12622780800
      · have HS2:=zb (HS1.out.trans (if_pos hall))
        obtain⟨g1,g2,g3⟩:=hall;have k1:decide (bp<12622780800)=true:=decide_eq_true g1;have k2:decide (bp<t)=true:=decide_eq_true g2;have k3:decide (f<12622780800)=true:=decide_eq_true g3;have hbs:=Hb.out.size;have HX:=zb (zi.one (c:=zh) (sz:=2) wo (bp,12622780800) 25 #[.int .i64 bp,.int .i64 (12622780800)] rfl);go_wp2_with (at_builtin;refine ZH rfl _ _ rfl W.heap.size ?hs1 _ _ L [(bp,12622780800)] rfl rfl (Hown.out.alloc _) HX.out ?hl1 ?_);case hs1=>simp;omega
        case hl1=>simp;omega
        intro R hR v4 w4 own4 hb4;have Hb4:=zb ((Hb.out.alloc hbs (Obj.cells #[.int .i64 bp,.int .i64 (12622780800)] 25)).trans hb4);have Own4:=zb own4;have HR:=zb (hR.out.trans HS2.out.symm);clear own4 hb4 hR;go_wp2;go_roundg gk;case measure=>omega
        case rel=>exact⟨4800+1,by omega,by omega,by omega,by go_num,by rw[show(4800:Int)+1-1=4800 by omega,HBj.out],fun h=>absurd h (by decide),by rw[show(4800:Int)+1-2=4800-1 by omega,<-HR.out];exact Own4.out,Hb4.out⟩
      have HS2:=zb (HS1.out.trans (if_neg hall));have Own4:=Hown;have Hb4:=Hb;have HR:=zb HS2.out.symm;have hor:(¬bp<12622780800)\/(bp<12622780800/\¬bp<t)\/(bp<12622780800/\bp<t/\¬f<12622780800):=by
       by_cases q1:bp<12622780800
       · by_cases q2:bp<t
         · by_cases q3:f<12622780800
           · exact absurd ⟨q1,q2,q3⟩ hall
           exact Or.inr (Or.inr ⟨q1,q2,q3⟩)
         exact Or.inr (Or.inl ⟨q1,q2⟩)
       exact Or.inl q1
      clear hall;rcases hor with q1|⟨q1,q2⟩|⟨q1,q2,q3⟩
      · have k1:decide (bp<12622780800)=false:=decide_eq_false q1
        go_wp2;go_roundg gk;case measure=>omega
        case rel=>exact⟨4800+1,by omega,by omega,by omega,by go_num,by rw[show(4800:Int)+1-1=4800 by omega,HBj.out],fun h=>absurd h (by decide),by rw[show(4800:Int)+1-2=4800-1 by omega,<-HR.out];exact Own4.out,Hb4.out⟩
      · have k1:decide (bp<12622780800)=true:=decide_eq_true q1
        have k2:decide (bp<t)=false:=decide_eq_false q2;go_wp2;go_roundg gk;case measure=>omega
        case rel=>exact⟨4800+1,by omega,by omega,by omega,by go_num,by rw[show(4800:Int)+1-1=4800 by omega,HBj.out],fun h=>absurd h (by decide),by rw[show(4800:Int)+1-2=4800-1 by omega,<-HR.out];exact Own4.out,Hb4.out⟩
      exact absurd (show f<12622780800 by omega) q3
  obtain rfl:j=4801:=by omega
  have HE:=zb (show L=cycL a lo hi by rw[HLe.out,HEnd.out]);clear h48 hdy;go_wp2;go_ret;exact⟨_,rfl,Y4 (zi.own (fun _=>rfl) (by rw[<-HE.out];exact Hown.out)),Hw0.out.trans (Hb.out.mono Hw0.out.size)⟩
theorem J2 (a t m:Int) (w:World) (ha:1<=a) (hb:a<=28) (h0:0<=t) (h1:t<12622780800) (hm:IsMo a t m):
 Calls Tryz.prog 29 #[.int .i64 a,.int .i64 t] w fun e w'=>e=.returned (.agg #[.int .i64 (cyc a m).1,.int .i64 (cyc a m).2])/\Below w.heap.size w w':=by
 have HC:=zb (fun w=>Q8 a t (t+1) m m w ha hb ((zw _ _).2 ⟨by omega,by omega,by omega⟩) hm (by rw[show t+1-1=t by omega];exact hm));have HL:=zb (show cycL a m m=[cyc a m] by
  have h:=JK (a:=a) (lo:=m) (hi:=m-1) (by omega);have h0:=Yc (a:=a) (lo:=m) (hi:=m-1) (by omega);rw[show m-1+1=m by omega,h0]at h;exact h);rw[HL.out]at HC;generalize cyc a m=c at *;obtain⟨x0,x1⟩:=c;dsimp only;clear hm HL;go_enter Tryz.func29,Tryz.ntmps29;go_wp2_with fail;refine(HC.out _).mono ?_;rintro e w1 ⟨v1,rfl,hp,hb1⟩;obtain⟨a1,cp1,rfl,-,-,hx⟩:=hp;obtain⟨g,o,rfl,hg,hx⟩:=hx (by simp);obtain⟨y0,y1⟩:=hx 0 (by simp);simp only[List.getElem_cons_zero,Nat.zero_mul,Nat.add_zero]at y0 y1;have hb1':Below w.heap.size w w1:=((Below.refl _ _).alloc (Nat.le_refl _) _).trans (hb1.mono (by simp));have q1:=(hb1.block w.heap.size (by simp)).trans (heap_alloc_new _ _);have r0:=cell_of_row w1 _ 0 _ _ _ q1;have r1:=cell_of_row w1 _ 1 _ _ _ q1;have f0:=frozen_of_row w1 _ 0 _ _ q1;have f1:=frozen_of_row w1 _ 1 _ _ q1;have Hb1:=zb hb1';clear hx q1 hb1 hb1';go_wp2;refine bodyPost_ret (v:=.agg #[.int .i64 x0,.int .i64 x1]) (by simp[results,Tryz.results29,go_sem,r0,r1]) rfl ⟨rfl,?_⟩;exact(Hb1.out.setCell (by simp) _).setCell (by simp) _
end Go.Proofs.YtngippiilgdnoaaGreat
namespace Go.Proofs.YtngippiilgdnoaaGreat
open Go.RowKit
end Go.Proofs.YtngippiilgdnoaaGreat
