/-
  The walks of lists of texts with one more, and without one.
-/
import Derived.Test.YtngippiilgdnoaaGreatMhav
import Derived.Test.YtngippiilgdnoaaGreatMhaf
set_option maxRecDepth 100000
set_option maxHeartbeats 25600000
namespace Go.Proofs.YtngippiilgdnoaaGreat
open Go.RowKit
def E7 (w:World) (e:Ending) (w':World):Prop:=∃b,e=.returned (.bool b)/\Below w.heap.size w w'
theorem XT {w w':World} (b:Bool) (h:Below w.heap.size w w'):E7 w (.returned (.bool b)) w':=⟨b,rfl,h⟩
theorem KO (va vs ve:Value) (X:List SbX) (b:Bk) (s:ByteArray) (w:World) (h:BkAt w va vs ve X b):
 Calls Tryz.prog 155 #[.agg #[va,vs,ve],.string s] w (E7 w):=by
 have hA:=h.s;have hR:=h.r;obtain⟨aa,an,rfl,-,-⟩:=zq h.a;obtain⟨sa,sn,rfl,hla,hma⟩:=zq h.s;obtain⟨ea,en,rfl,-,-⟩:=zq h.e;obtain⟨W,hW⟩:∃W,W=w.alloc (Obj.cells #[.slice aa b.accs.length an,.slice sa X.length sn,.slice ea b.ended.length en] 142):=⟨_,rfl⟩;have hw0:Below w.heap.size w W:=by rw[hW];go_grown
 have r0:W.heap[w.heap.size]?=some (Obj.cells #[.slice aa b.accs.length an,.slice sa X.length sn,.slice ea b.ended.length en] 142):=by rw[hW];exact heap_alloc_new _ _
 have c0:=cell_of_row W _ 1 _ _ _ r0;have HA:=zb (hA.below hw0);have HR:=zb (fun x hx=>(hR x hx).below hw0);unfold maxLen at hma;have HW:=zb hW;have Hw0:=zb hw0;clear hW hw0 r0 h hA hR;go_enter Tryz.func155,Tryz.ntmps155;go_upto_region 1 with(fail);rw[<-HW.out];go_wp2_with fail;go_loop [5] (fun i=>∃k:Nat,k<=X.length/\i=.int .i64 k) (fun i=>X.length-(intOf i).toNat);case atStart=>exact⟨0,Nat.zero_le _,rfl⟩
 case round=>
  obtain⟨k,hk,rfl⟩:=hrel;by_cases hlt:k<X.length
  · have hk1:(k:Int)<(X.length:Int):=by omega
    have hk0:(0:Int)<=(k:Int):=Int.natCast_nonneg _;obtain⟨a2,n2,e2,-,-,hx⟩:=HA.out;cases e2;obtain⟨bb,o,rfl,hB,hx⟩:=hx (by rintro rfl;cases hlt);have x4:=hx k hlt 4 (by decide);have Hr:=zb (HR.out X[k] (List.getElem_mem hlt)).1;clear hx;generalize X[k]=x at *;obtain⟨⟨i1,i2,i3,i4,nus,prs,i5,i6⟩,na,nn,nc,pa,pn,pc⟩:=x;unfold zK at x4;dsimp only at x4 Hr;have x4:W.cell? ⟨bb,o+k*8+4,none⟩=some (.slice na nn nc):=x4;go_wp2_with (go_at_call 110;refine(Yz _ _ _ _ Hr.out).mono ?_;rintro e w2 ⟨rfl,rfl⟩)
    all_goals first
     |(go_ret;exact XT _ Hw0.out)
     |exact⟨⟨k+1,by omega,by go_num⟩,by simp[intOf];omega⟩
  go_wp2;go_ret;exact XT _ Hw0.out
theorem Xz (va vs ve:Value) (X:List SbX) (b:Bk) (n:Int) (w:World) (h:BkAt w va vs ve X b):
 Calls Tryz.prog 153 #[.agg #[va,vs,ve],.int .i64 n] w (E7 w):=by
 have hh:=h;have hA:=h.s;obtain⟨aa,an,rfl,-,-⟩:=zq h.a;obtain⟨sa,sn,rfl,hla,hma⟩:=zq h.s;obtain⟨ea,en,rfl,-,-⟩:=zq h.e;obtain⟨W,hW⟩:∃W,W=w.alloc (Obj.cells #[.slice aa b.accs.length an,.slice sa X.length sn,.slice ea b.ended.length en] 142):=⟨_,rfl⟩;have hw0:Below w.heap.size w W:=by rw[hW];go_grown
 have r0:W.heap[w.heap.size]?=some (Obj.cells #[.slice aa b.accs.length an,.slice sa X.length sn,.slice ea b.ended.length en] 142):=by rw[hW];exact heap_alloc_new _ _
 have hz:w.heap.size<W.heap.size:=by rw[hW];simp
 have HC:=zb (show ∀Y,Below W.heap.size W Y->Y.cell? ⟨w.heap.size,0,none⟩=some (.slice aa b.accs.length an)/\Y.cell? ⟨w.heap.size,1,none⟩=some (.slice sa X.length sn)/\Y.cell? ⟨w.heap.size,2,none⟩=some (.slice ea b.ended.length en)from fun Y hb=>by
  have q:=(hb.block _ hz).trans r0;exact⟨cell_of_row Y _ 0 _ _ _ q,cell_of_row Y _ 1 _ _ _ q,cell_of_row Y _ 2 _ _ _ q⟩);have HA:=zb (hA.below hw0);have HE:=zb (fun i (Y:World) (hb:Below W.heap.size W Y)=>kp _ _ _ X b i Y (hh.below (hw0.trans (hb.mono hw0.size))));unfold maxLen at hma;have HW:=zb hW;have Hw0:=zb hw0;clear hW hw0 r0 h hA hh hz;go_enter Tryz.func153,Tryz.ntmps153;go_upto_region 1 with(fail);rw[<-HW.out];go_wp2_with fail;go_loopw [5] (fun i wr=>∃k:Nat,k<=X.length/\i=.int .i64 k/\Below W.heap.size W wr) (fun i _=>X.length-(intOf i).toNat);case atStart=>exact⟨0,Nat.zero_le _,rfl,Below.refl _ _⟩
 case round=>
  obtain⟨wo,rfl⟩:∃wo:World,wo=wr:=⟨_,rfl⟩;obtain⟨k,hk,rfl,hb⟩:=hrel;obtain⟨c0,c1,c2⟩:=HC.out wo hb;have Hb:=zb hb;by_cases hlt:k<X.length
  · have hk1:(k:Int)<(X.length:Int):=by omega
    have hk0:(0:Int)<=(k:Int):=Int.natCast_nonneg _;obtain⟨a2,n2,e2,-,-,hx⟩:=HA.out.below hb;cases e2;obtain⟨bb,o,rfl,hB,hx⟩:=hx (by rintro rfl;cases hlt);have x0:=hx k hlt 0 (by decide);have x1:=hx k hlt 1 (by decide);clear hx;generalize X[k]=x at *;obtain⟨⟨i1,i2,i3,i4,nus,prs,i5,i6⟩,na,nn,nc,pa,pn,pc⟩:=x;unfold zK at x0 x1;dsimp only at x0 x1;have x0:wo.cell? ⟨bb,o+k*8,none⟩=some (.int .i64 i1):=x0;have x1:wo.cell? ⟨bb,o+k*8+1,none⟩=some (.int .i64 i2):=x1;have f0:=fun p:ze wo=>ze.cell (a:=⟨bb,_,none⟩) hB x0 p;have f1:=fun p:ze wo=>ze.cell (a:=⟨bb,_,none⟩) hB x1 p;have g0:=fun p:ze wo=>(HC.out p.w (Hb.out.trans (p.h.mono Hb.out.size))).1;have g1:=fun p:ze wo=>(HC.out p.w (Hb.out.trans (p.h.mono Hb.out.size))).2.1;have g2:=fun p:ze wo=>(HC.out p.w (Hb.out.trans (p.h.mono Hb.out.size))).2.2;have hrr:=Below.refl wo.heap.size wo;have HEi:=zb (fun p:ze wo=>HE.out i1 p.w (Hb.out.trans (p.h.mono Hb.out.size)));generalize vk b i1=en0 at *;clear hb;cases hq:(i2==n)<;>cases en0;all_goals
     go_upto_region 4 with(fail);refine zl hrr (by kernel_rfl) (by kernel_rfl) ?_;repeat (go_big_quiet_step (first|(go_at_call 154;refine zE (HEi.out _) (fun e w' h=>h))))
     refine wpQuiet_nil ?_;intro wa hw';have hYa:Below wo.heap.size wo wa:=by obtain⟨pq,rfl⟩:=hw';exact pq.h
     clear hw' f0 f1 g0 g1 g2 hrr;have Hba:=zb (Hb.out.trans (hYa.mono Hb.out.size));clear hYa;go_wp2
     first
      |(go_ret;exact XT _ (Hw0.out.trans (Hba.out.mono Hw0.out.size)))
      |exact⟨⟨k+1,by omega,by go_num,Hba.out⟩,by simp[intOf];omega⟩
  go_wp2;go_ret;exact XT _ (Hw0.out.trans (Hb.out.mono Hw0.out.size))
theorem kw (w:World) (o1 o2:Obj):((w.alloc o1).alloc o2).heap[w.heap.size]?=some o1/\((w.alloc o1).alloc o2).heap[w.heap.size+1]?=some o2/\Below w.heap.size w ((w.alloc o1).alloc o2)/\w.heap.size+1<((w.alloc o1).alloc o2).heap.size:=by have h1:=heap_alloc_new (w.alloc o1) o2;rw[World.size_alloc]at h1;have h2:Below (w.alloc o1).heap.size (w.alloc o1) ((w.alloc o1).alloc o2):=(Below.refl _ _).alloc (Nat.le_refl _) _;exact⟨(h2.block w.heap.size (by simp)).trans (heap_alloc_new w o1),h1,((Below.refl _ _).alloc (Nat.le_refl _) _).alloc (by simp) _,by simp⟩
structure WD (b:Bk) (ev:Ev):Prop where
 o:ev.kd=1->qm b ev.ac<0
 a:ev.kd≠1->∃k,∃h:k<b.accs.length,qm b ev.ac=k/\(b.accs[k]).clo=false
 s:ev.kd=3->zT b ev.sb<0
def Nn (b:Bk) (ev:Ev) (w:World) (e:Ending) (w':World):Prop:=∃r,e=.returned (.int .i64 r)/\(r=0->WD b ev)/\Below w.heap.size w w'
theorem acc_no {b:Bk} {ev:Ev} {w w':World} {r:Int} (h:r≠0) (hb:Below w.heap.size w w'):Nn b ev w (.returned (.int .i64 r)) w':=⟨r,rfl,fun e=>absurd e h,hb⟩
theorem acc_yes {b:Bk} {ev:Ev} {w w':World} (h:WD b ev) (hb:Below w.heap.size w w'):Nn b ev w (.returned (.int .i64 0)) w':=⟨0,rfl,fun _=>h,hb⟩
theorem K5 (va vs ve:Value) (X:List SbX) (b:Bk) (ev:Ev) (w:World) (h:BkAt w va vs ve X b):
 Calls Tryz.prog 114 #[.agg #[va,vs,ve],yU ev] w (Nn b ev w):=by
 have HN:=zb (fun r w'=>@acc_no b ev w w' r);have HY:=zb (fun w'=>@acc_yes b ev w w');have HOk:=zb (fun o a s=>(⟨o,a,s⟩:WD b ev));have HIx:=zb (jk (fun a=>decide (a.id=ev.ac)) b.accs);have HAx:=zb (show qm b ev.ac=ixOf (fun a=>decide (a.id=ev.ac)) b.accs from rfl);obtain⟨tm,kd,ac,sb,nu,nm,vl⟩:=ev;unfold yU;dsimp only at HIx HAx HOk⊢;have hh:=h;obtain⟨aa,an,rfl,hla,hma⟩:=zq h.a;obtain⟨sa,sn,rfl,hls,hms⟩:=zq h.s;obtain⟨ea,en,rfl,-,-⟩:=zq h.e;obtain⟨W,hW⟩:∃W,W=(w.alloc (Obj.cells #[.slice aa b.accs.length an,.slice sa X.length sn,.slice ea b.ended.length en] 142)).alloc (Obj.cells #[.int .i64 tm,.int .i64 kd,.int .i64 ac,.int .i64 sb,.string nu,.string nm,.int .i64 vl] 55):=⟨_,rfl⟩;obtain⟨r0,r1,hw0,hz⟩:=kw w (Obj.cells #[.slice aa b.accs.length an,.slice sa X.length sn,.slice ea b.ended.length en] 142) (Obj.cells #[.int .i64 tm,.int .i64 kd,.int .i64 ac,.int .i64 sb,.string nu,.string nm,.int .i64 vl] 55);rw[<-hW]at r0 r1 hw0 hz;have HC:=zb (show ∀Y,Below W.heap.size W Y->Y.cell? ⟨w.heap.size,0,none⟩=some (.slice aa b.accs.length an)/\Y.cell? ⟨w.heap.size,1,none⟩=some (.slice sa X.length sn)/\Y.cell? ⟨w.heap.size,2,none⟩=some (.slice ea b.ended.length en)/\
  Y.cell? ⟨w.heap.size+1,0,none⟩=some (.int .i64 tm)/\Y.cell? ⟨w.heap.size+1,1,none⟩=some (.int .i64 kd)/\Y.cell? ⟨w.heap.size+1,2,none⟩=some (.int .i64 ac)/\Y.cell? ⟨w.heap.size+1,3,none⟩=some (.int .i64 sb)/\Y.cell? ⟨w.heap.size+1,4,none⟩=some (.string nu)/\Y.cell? ⟨w.heap.size+1,5,none⟩=some (.string nm)/\Y.cell? ⟨w.heap.size+1,6,none⟩=some (.int .i64 vl)from fun Y hb=>by
  have q:=(hb.block _ (by omega)).trans r0;have p:=(hb.block _ hz).trans r1;exact⟨cell_of_row Y _ 0 _ _ _ q,cell_of_row Y _ 1 _ _ _ q,cell_of_row Y _ 2 _ _ _ q,cell_of_row Y _ 0 _ _ _ p,cell_of_row Y _ 1 _ _ _ p,cell_of_row Y _ 2 _ _ _ p,cell_of_row Y _ 3 _ _ _ p,cell_of_row Y _ 4 _ _ _ p,cell_of_row Y _ 5 _ _ _ p,cell_of_row Y _ 6 _ _ _ p⟩);have HBk:=zb (show ∀Y,Below W.heap.size W Y->BkAt Y (.slice aa b.accs.length an) (.slice sa X.length sn) (.slice ea b.ended.length en) X b from fun Y hb=>hh.below (hw0.trans (hb.mono hw0.size)));have HW:=zb hW;have Hw0:=zb hw0;unfold maxLen at hma hms;have HAc:=zb (Zl _ _ _ X b ac W (HBk.out W (Below.refl _ _)));have HSb:=zb (fun Y hb=>kx _ _ _ X b sb Y (HBk.out Y hb));have HBu:=zb (fun Y hb=>Xz _ _ _ X b ac Y (HBk.out Y hb));obtain⟨c0,c1,c2,d0,d1,d2,d3,d4,d5,d6⟩:=HC.out W (Below.refl _ _);clear hW hw0 r0 r1 h hh hz;go_enter Tryz.func114,Tryz.ntmps114;go_upto_region 1 with(fail);rw[<-HW.out];go_wp2_with fail;refine HAc.out.mono ?_;rintro e w1 ⟨rfl,hb1⟩;have Hb1:=zb hb1;have Hw1:=zb (Hw0.out.trans (hb1.mono Hw0.out.size));clear c0 c1 c2 d0 d1 d2 d3 d4 d5 d6;obtain⟨c0,c1,c2,d0,d1,d2,d3,d4,d5,d6⟩:=HC.out w1 hb1;by_cases hk1:kd=1
 · have Hk1:=zb hk1
   have hkb:(kd==1)=true:=beq_iff_eq.2 hk1;clear hk1 hb1;by_cases hi:qm b ac<0
   · have Hi:=zb hi
     generalize qm b ac=ix at *;go_wp2;go_ret;exact HY.out _ (HOk.out (fun _=>Hi.out) (fun h=>absurd Hk1.out h) (fun h=>absurd (Hk1.out.symm.trans h) (by decide))) Hw1.out
   have hi2:0<=qm b ac:=by omega
   clear hi;generalize qm b ac=ix at *;go_wp2;go_ret;exact HN.out _ _ (by decide) Hw1.out
 have Hk1:=zb hk1;have hkb:(kd==1)=false:=beq_eq_false_iff_ne.2 hk1;clear hk1;rcases HIx.out with⟨hx,-⟩|⟨k,hk,hx,-,-⟩
 · rw[HAx.out,hx]
   clear hx hb1;go_wp2;go_ret;exact HN.out _ _ (by decide) Hw1.out
 rw[HAx.out,hx];have Hxx:=zb (HAx.out.trans hx);have hkl:(k:Int)<(b.accs.length:Int):=by omega
 have hk0:(0:Int)<=(k:Int):=Int.natCast_nonneg _;obtain⟨a2,n2,e2,-,-,hy⟩:=(HBk.out w1 hb1).a;cases e2;obtain⟨bb,o,rfl,hB,hy⟩:=hy (by intro e;rw[e]at hk;cases hk);have y3:=hy k hk 3 (by decide);have y4:=hy k hk 4 (by decide);have Hclo:=zb (fun(hc:(b.accs[k]).clo=false)=>HOk.out (fun h=>absurd h Hk1.out) (fun _=>⟨k,hk,Hxx.out,hc⟩));clear hx hy;generalize b.accs[k]=a at *;obtain⟨a1,a2,a3,pre,clo⟩:=a;unfold vS at y3 y4;dsimp only at y3 y4 Hclo;have y3:w1.cell? ⟨bb,o+k*6+3,none⟩=some (.bool pre):=y3;have y4:w1.cell? ⟨bb,o+k*6+4,none⟩=some (.bool clo):=y4;cases clo with
 |true=>clear hb1;go_wp2;go_ret;exact HN.out _ _ (by decide) Hw1.out
 |false=>
   have Hc:=zb (Hclo.out rfl);by_cases hk3:kd=3
   · subst hk3
     have HS1:=zb (HSb.out w1 hb1);by_cases hs:zT b sb<0
     · have Hs:=zb hs
       generalize zT b sb=six at *;clear hb1;go_wp2_with fail;refine HS1.out.mono ?_;rintro e w2 ⟨rfl,hb2⟩;have e1:=(HC.out w2 (Hb1.out.trans (hb2.mono Hb1.out.size))).2.2.2.2.1;go_wp2;go_ret;exact HY.out _ (Hc.out (fun _=>Hs.out)) (Hw1.out.trans (hb2.mono Hw1.out.size))
     have hs2:0<=zT b sb:=by omega
     clear hs;generalize zT b sb=six at *;clear hb1;go_wp2_with (go_at_call 117;refine HS1.out.mono ?_;rintro e w2 ⟨rfl,hb2⟩);go_ret;exact HN.out _ _ (by decide) (Hw1.out.trans (hb2.mono Hw1.out.size))
   have Hc2:=zb (Hc.out (fun h=>absurd h hk3));have hk3b:(kd==3)=false:=beq_eq_false_iff_ne.2 hk3;clear hk3;by_cases hk2:kd=2
   · subst hk2
     have HB1:=zb (HBu.out w1 hb1);clear hb1;go_wp2_with fail;refine HB1.out.mono ?_;rintro e w2 ⟨bz,rfl,hb2⟩;have Hw2:=zb (Hw1.out.trans (hb2.mono Hw1.out.size));have e1:=(HC.out w2 (Hb1.out.trans (hb2.mono Hb1.out.size))).2.2.2.2.1;clear hb2;cases bz with
     |true=>go_wp2;go_ret;exact HN.out _ _ (by decide) Hw2.out
     |false=>go_wp2;go_ret;exact HY.out _ Hc2.out Hw2.out
   have hk2b:(kd==2)=false:=beq_eq_false_iff_ne.2 hk2;clear hk2 hb1;go_wp2
   all_goals first
    |(go_ret;exact HN.out _ _ (by decide) Hw1.out)
    |(go_ret;exact HY.out _ Hc2.out Hw1.out)
def E6 (b:Bk) (ev:Ev) (w:World) (e:Ending) (w':World):Prop:=∃r,e=.returned (.int .i64 r)/\(r=0->0<=zT b ev.sb/\vk b ev.sb=false)/\Below w.heap.size w w'
theorem sub_no {b:Bk} {ev:Ev} {w w':World} {r:Int} (h:r≠0) (hb:Below w.heap.size w w'):E6 b ev w (.returned (.int .i64 r)) w':=⟨r,rfl,fun e=>absurd e h,hb⟩
theorem sub_yes {b:Bk} {ev:Ev} {w w':World} {r:Int} (h1:0<=zT b ev.sb) (h2:vk b ev.sb=false) (hb:Below w.heap.size w w'):E6 b ev w (.returned (.int .i64 r)) w':=⟨r,rfl,fun _=>⟨h1,h2⟩,hb⟩
theorem K4 (va vs ve:Value) (X:List SbX) (b:Bk) (ev:Ev) (w:World) (h:BkAt w va vs ve X b):
 Calls Tryz.prog 115 #[.agg #[va,vs,ve],yU ev] w (E6 b ev w):=by
 have HN:=zb (fun r w'=>@sub_no b ev w w' r);have HY:=zb (fun r w'=>@sub_yes b ev w w' r);have HIx:=zb (jk (fun a=>decide (a.id=ev.sb)) b.subs);have HAx:=zb (show zT b ev.sb=ixOf (fun a=>decide (a.id=ev.sb)) b.subs from rfl);obtain⟨tm,kd,ac,sb,nu,nm,vl⟩:=ev;unfold yU;dsimp only at HIx HAx HY⊢;have hh:=h;obtain⟨aa,an,rfl,hla,hma⟩:=zq h.a;obtain⟨sa,sn,rfl,hls,hms⟩:=zq h.s;obtain⟨ea,en,rfl,-,-⟩:=zq h.e;obtain⟨W,hW⟩:∃W,W=(w.alloc (Obj.cells #[.slice aa b.accs.length an,.slice sa X.length sn,.slice ea b.ended.length en] 142)).alloc (Obj.cells #[.int .i64 tm,.int .i64 kd,.int .i64 ac,.int .i64 sb,.string nu,.string nm,.int .i64 vl] 55):=⟨_,rfl⟩;obtain⟨r0,r1,hw0,hz⟩:=kw w (Obj.cells #[.slice aa b.accs.length an,.slice sa X.length sn,.slice ea b.ended.length en] 142) (Obj.cells #[.int .i64 tm,.int .i64 kd,.int .i64 ac,.int .i64 sb,.string nu,.string nm,.int .i64 vl] 55);rw[<-hW]at r0 r1 hw0 hz;have HC:=zb (show ∀Y,Below W.heap.size W Y->Y.cell? ⟨w.heap.size,0,none⟩=some (.slice aa b.accs.length an)/\Y.cell? ⟨w.heap.size,1,none⟩=some (.slice sa X.length sn)/\Y.cell? ⟨w.heap.size,2,none⟩=some (.slice ea b.ended.length en)/\
  Y.cell? ⟨w.heap.size+1,0,none⟩=some (.int .i64 tm)/\Y.cell? ⟨w.heap.size+1,1,none⟩=some (.int .i64 kd)/\Y.cell? ⟨w.heap.size+1,2,none⟩=some (.int .i64 ac)/\Y.cell? ⟨w.heap.size+1,3,none⟩=some (.int .i64 sb)/\Y.cell? ⟨w.heap.size+1,4,none⟩=some (.string nu)/\Y.cell? ⟨w.heap.size+1,5,none⟩=some (.string nm)/\Y.cell? ⟨w.heap.size+1,6,none⟩=some (.int .i64 vl)from fun Y hb=>by
  have q:=(hb.block _ (by omega)).trans r0;have p:=(hb.block _ hz).trans r1;exact⟨cell_of_row Y _ 0 _ _ _ q,cell_of_row Y _ 1 _ _ _ q,cell_of_row Y _ 2 _ _ _ q,cell_of_row Y _ 0 _ _ _ p,cell_of_row Y _ 1 _ _ _ p,cell_of_row Y _ 2 _ _ _ p,cell_of_row Y _ 3 _ _ _ p,cell_of_row Y _ 4 _ _ _ p,cell_of_row Y _ 5 _ _ _ p,cell_of_row Y _ 6 _ _ _ p⟩);have HBk:=zb (show ∀Y,Below W.heap.size W Y->BkAt Y (.slice aa b.accs.length an) (.slice sa X.length sn) (.slice ea b.ended.length en) X b from fun Y hb=>hh.below (hw0.trans (hb.mono hw0.size)));have HW:=zb hW;have Hw0:=zb hw0;unfold maxLen at hma hms;have HSb:=zb (kx _ _ _ X b sb W (HBk.out W (Below.refl _ _)));have HEn:=zb (fun Y hb=>kp _ _ _ X b sb Y (HBk.out Y hb));have HTk:=zb (fun Y hb=>KO _ _ _ X b nu Y (HBk.out Y hb));have HXl:=zb h.len;obtain⟨c0,c1,c2,d0,d1,d2,d3,d4,d5,d6⟩:=HC.out W (Below.refl _ _);clear hW hw0 r0 r1 h hh hz;go_enter Tryz.func115,Tryz.ntmps115;go_upto_region 1 with(fail);rw[<-HW.out];go_wp2_with fail;refine HSb.out.mono ?_;rintro e w1 ⟨rfl,hb1⟩;have Hb1:=zb hb1;have Hw1:=zb (Hw0.out.trans (hb1.mono Hw0.out.size));clear c0 c1 c2 d0 d1 d2 d3 d4 d5 d6;obtain⟨c0,c1,c2,d0,d1,d2,d3,d4,d5,d6⟩:=HC.out w1 hb1;rcases HIx.out with⟨hx,-⟩|⟨k,hk,hx,-,-⟩
 · rw[HAx.out,hx]
   clear hx hb1;go_wp2;go_ret;exact HN.out _ _ (by decide) Hw1.out
 rw[HAx.out,hx];have HY:=zb (fun r w'=>HY.out r w' (by rw[HAx.out,hx];exact Int.natCast_nonneg _));have HE1:=zb (HEn.out w1 hb1);clear hx hb1;go_wp2_with fail;refine HE1.out.mono ?_;rintro e w2 ⟨rfl,hb2⟩;have Hb2:=zb (Hb1.out.trans (hb2.mono Hb1.out.size));have Hw2:=zb (Hw1.out.trans (hb2.mono Hw1.out.size));clear c0 c1 c2 d0 d1 d2 d3 d4 d5 d6;cases hen:vk b sb with
 |true=>clear hb2 hen;go_wp2;go_ret;exact HN.out _ _ (by decide) Hw2.out
 |false=>
   have HY2:=zb (fun r w'=>HY.out r w' hen);clear hen HY;have hkX:k<X.length:=by have:=HXl.out;omega
   have hkl:(k:Int)<(X.length:Int):=by omega
   have hk0:(0:Int)<=(k:Int):=Int.natCast_nonneg _;have hbk:=HBk.out w2 Hb2.out;obtain⟨a2,n2,e2,-,-,hy⟩:=hbk.s;cases e2;obtain⟨bb,o,rfl,hB,hy⟩:=hy (by intro e;rw[e]at hkX;cases hkX);have y:=hy k hkX;have hrd:=hbk.r X[k] (List.getElem_mem hkX);clear hy hbk;generalize X[k]=x at *;obtain⟨⟨i1,i2,i3,i4,nus,prs,i5,i6⟩,na,nn,nc,pa,pn,pc⟩:=x;unfold zK at y;have hr1:zR w2 (.slice na nn nc) nus:=hrd.1;have hr2:zR w2 (.slice pa pn pc) prs:=hrd.2.1;have y0:w2.cell? ⟨bb,o+k*8,none⟩=some (.int .i64 i1):=y 0 (by decide);have y1:w2.cell? ⟨bb,o+k*8+1,none⟩=some (.int .i64 i2):=y 1 (by decide);have y2:w2.cell? ⟨bb,o+k*8+2,none⟩=some (.int .i64 i3):=y 2 (by decide);have y3:w2.cell? ⟨bb,o+k*8+3,none⟩=some (.string i4):=y 3 (by decide);have y4:w2.cell? ⟨bb,o+k*8+4,none⟩=some (.slice na nn nc):=y 4 (by decide);have y5:w2.cell? ⟨bb,o+k*8+5,none⟩=some (.slice pa pn pc):=y 5 (by decide);have y6:w2.cell? ⟨bb,o+k*8+6,none⟩=some (.bool i5):=y 6 (by decide);have y7:w2.cell? ⟨bb,o+k*8+7,none⟩=some (.bool i6):=y 7 (by decide);clear y;obtain⟨c0,c1,c2,d0,d1,d2,d3,d4,d5,d6⟩:=HC.out w2 Hb2.out;obtain⟨Z,hZ⟩:∃Z,Z=w2.alloc (Obj.cells #[.int .i64 i1,.int .i64 i2,.int .i64 i3,.string i4,.slice na nn nc,.slice pa pn pc,.bool i5,.bool i6] 181):=⟨_,rfl⟩;have hbZ:Below w2.heap.size w2 Z:=by rw[hZ];go_grown
   have rZ:Z.heap[w2.heap.size]?=some (Obj.cells #[.int .i64 i1,.int .i64 i2,.int .i64 i3,.string i4,.slice na nn nc,.slice pa pn pc,.bool i5,.bool i6] 181):=by rw[hZ];exact heap_alloc_new _ _
   have HwZ:=zb (Hw2.out.trans (hbZ.mono Hw2.out.size));have HbZ:=zb (Hb2.out.trans (hbZ.mono Hb2.out.size));have HH1:=zb (fun s=>Yz _ _ s Z (hr1.below hbZ));have HH2:=zb (fun s=>Yz _ _ s Z (hr2.below hbZ));have HTZ:=zb (HTk.out Z HbZ.out);have HZ:=zb hZ;have HrZ:=zb rZ;go_upto_region 7 with(fail);rw[<-HZ.out];clear c0 c1 c2 d0 d1 d2 d3 d4 d5 d6 hB hrd hr1 hr2 y0 y1 y2 y3 y4 y5 y6 y7 hb2;obtain⟨c0,c1,c2,d0,d1,d2,d3,d4,d5,d6⟩:=HC.out Z HbZ.out;have tQ:=fun j=>cell_of_row Z _ j _ _ _ HrZ.out;have z4:=tQ 4;have z5:=tQ 5;have z6:=tQ 6;have z7:=tQ 7;clear tQ hZ rZ hbZ;go_wp2_with (first
    |(go_at_call 155;refine HTZ.out.mono ?_;rintro e w3 ⟨bt,rfl,hb3⟩)
    |(go_at_call 110;with_reducible refine(HH1.out _).mono ?_;rintro e w3 ⟨rfl,rfl⟩)
    |(go_at_call 110;with_reducible refine(HH2.out _).mono ?_;rintro e w3 ⟨rfl,rfl⟩))
   all_goals first
    |(go_ret;exact HY2.out _ _ HwZ.out)
    |(go_ret;exact HY2.out _ _ (HwZ.out.trans (hb3.mono HwZ.out.size)))
def WA (b:Bk) (last:Int) (ev:Ev) (w:World) (e:Ending) (w':World):Prop:=∃r,e=.returned (.int .i64 r)/\(r=0->OkEv b last ev)/\Below w.heap.size w w'
theorem fault_no {b:Bk} {last:Int} {ev:Ev} {w w':World} {r:Int} (h:r≠0) (hb:Below w.heap.size w w'):WA b last ev w (.returned (.int .i64 r)) w':=⟨r,rfl,fun e=>absurd e h,hb⟩
theorem usV_0 (k:Int):∃a b c d:Bool,usV k=#[.bool (vB k),.bool a,.bool b,.bool c,.bool d]:=by
 unfold usV vB
 repeat' split
 all_goals first
  |(subst_vars;exact⟨_,_,_,_,rfl⟩)
  |(rename_i h;rcases h with rfl|rfl|rfl<;>exact⟨_,_,_,_,rfl⟩)
  |(rename_i h;rcases h with rfl|rfl<;>exact⟨_,_,_,_,rfl⟩)
  |(refine⟨true,false,false,false,?_⟩;rw[show(decide (k=1)||decide (k=2)||decide (k=3)||decide (k=14)||decide (k=15))=false by simp;omega])
theorem Ji (va vs ve:Value) (X:List SbX) (b:Bk) (ev:Ev) (last:Int) (w:World) (h:BkAt w va vs ve X b) (hn:ev.nu.size<=maxLen) (hm:ev.nm.size<=maxLen):
 Calls Tryz.prog 71 #[.agg #[va,vs,ve],yU ev,.int .i64 last] w (WA b last ev w):=by
 have HF:=zb (fun w=>Xo ev last w hn hm);have HOA:=zb (fun Y va vs ve (h:BkAt Y va vs ve X b)=>K5 va vs ve X b ev Y h);have HOS:=zb (fun Y va vs ve (h:BkAt Y va vs ve X b)=>K4 va vs ve X b ev Y h);have HUs:=zb (fun Y h1 h2=>VH ev.kd Y h1 h2);have HOk:=zb (fun(f:XM last ev) (ha:vB ev.kd=true->WD b ev) (hs:vB ev.kd=false->0<=zT b ev.sb/\vk b ev.sb=false)=>(⟨f.k1,f.k2,f.t0,f.t1,f.t2,f.a1,f.a0,f.s1,f.s0,f.v1,fun h=>(ha (by rw[h];rfl)).o h,fun h1 h2=>(ha h1).a h2,fun h=>(ha (by rw[h];rfl)).s h,hs⟩:OkEv b last ev));have HK:=zb (fun(f:XM last ev)=>And.intro f.k1 f.k2);have HUA:=zb (usV_0 ev.kd);have HT:=zb (fun r w'=>@fault_no b last ev w w' r);obtain⟨tm,kd,ac,sb,nu,nm,vl⟩:=ev;unfold yU at HF HOA HOS⊢;dsimp only at HF HOA HOS HUs HOk HK HUA⊢;have hh:=h;obtain⟨aa,an,rfl,hla,hma⟩:=zq h.a;obtain⟨sa,sn,rfl,hls,hms⟩:=zq h.s;obtain⟨ea,en,rfl,-,-⟩:=zq h.e;obtain⟨W,hW⟩:∃W,W=(w.alloc (Obj.cells #[.slice aa b.accs.length an,.slice sa X.length sn,.slice ea b.ended.length en] 142)).alloc (Obj.cells #[.int .i64 tm,.int .i64 kd,.int .i64 ac,.int .i64 sb,.string nu,.string nm,.int .i64 vl] 55):=⟨_,rfl⟩;obtain⟨r0,r1,hw0,hz⟩:=kw w (Obj.cells #[.slice aa b.accs.length an,.slice sa X.length sn,.slice ea b.ended.length en] 142) (Obj.cells #[.int .i64 tm,.int .i64 kd,.int .i64 ac,.int .i64 sb,.string nu,.string nm,.int .i64 vl] 55);rw[<-hW]at r0 r1 hw0 hz;have HC:=zb (show ∀Y,Below W.heap.size W Y->Y.cell? ⟨w.heap.size,0,none⟩=some (.slice aa b.accs.length an)/\Y.cell? ⟨w.heap.size,1,none⟩=some (.slice sa X.length sn)/\Y.cell? ⟨w.heap.size,2,none⟩=some (.slice ea b.ended.length en)/\
  Y.cell? ⟨w.heap.size+1,0,none⟩=some (.int .i64 tm)/\Y.cell? ⟨w.heap.size+1,1,none⟩=some (.int .i64 kd)/\Y.cell? ⟨w.heap.size+1,2,none⟩=some (.int .i64 ac)/\Y.cell? ⟨w.heap.size+1,3,none⟩=some (.int .i64 sb)/\Y.cell? ⟨w.heap.size+1,4,none⟩=some (.string nu)/\Y.cell? ⟨w.heap.size+1,5,none⟩=some (.string nm)/\Y.cell? ⟨w.heap.size+1,6,none⟩=some (.int .i64 vl)from fun Y hb=>by
  have q:=(hb.block _ (by omega)).trans r0;have p:=(hb.block _ hz).trans r1;exact⟨cell_of_row Y _ 0 _ _ _ q,cell_of_row Y _ 1 _ _ _ q,cell_of_row Y _ 2 _ _ _ q,cell_of_row Y _ 0 _ _ _ p,cell_of_row Y _ 1 _ _ _ p,cell_of_row Y _ 2 _ _ _ p,cell_of_row Y _ 3 _ _ _ p,cell_of_row Y _ 4 _ _ _ p,cell_of_row Y _ 5 _ _ _ p,cell_of_row Y _ 6 _ _ _ p⟩);have HBk:=zb (show ∀Y,Below W.heap.size W Y->BkAt Y (.slice aa b.accs.length an) (.slice sa X.length sn) (.slice ea b.ended.length en) X b from fun Y hb=>hh.below (hw0.trans (hb.mono hw0.size)));have HW:=zb hW;have Hw0:=zb hw0;unfold maxLen at hma hms;clear hW hw0 r0 r1 h hh hz hn hm;obtain⟨c0,c1,c2,d0,d1,d2,d3,d4,d5,d6⟩:=HC.out W (Below.refl _ _);go_enter Tryz.func71,Tryz.ntmps71;go_upto_region 1 with(fail);rw[<-HW.out];go_wp2_with fail;refine(HF.out W).mono ?_;rintro e w1 ⟨r,rfl,hform,hb1⟩;have Hform:=zb hform;have Hb1:=zb hb1;have Hw1:=zb (Hw0.out.trans (hb1.mono Hw0.out.size));clear c0 c1 c2 d0 d1 d2 d3 d4 d5 d6 hform;obtain⟨c0,c1,c2,d0,d1,d2,d3,d4,d5,d6⟩:=HC.out w1 hb1;by_cases hr:r=0
 · subst hr
   have Hf:=zb (Hform.out rfl);obtain⟨hk1,hk2⟩:=HK.out Hf.out;have HUs1:=zb (HUs.out w1 hk1 hk2);obtain⟨q1,q2,q3,q4,hq⟩:=HUA.out;rw[hq]at HUs1;obtain⟨ua,hua⟩:∃ua,ua=vB kd:=⟨_,rfl⟩;rw[<-hua]at HUs1;have Hua:=zb hua;clear hb1 hq hua Hform;go_wp2_with fail;refine HUs1.out.mono ?_;rintro e w2 ⟨rfl,hb2⟩;have Hb2:=zb (Hb1.out.trans (hb2.mono Hb1.out.size));have Hw2:=zb (Hw1.out.trans (hb2.mono Hw1.out.size));clear c0 c1 c2 d0 d1 d2 d3 d4 d5 d6 hb2;obtain⟨c0,c1,c2,d0,d1,d2,d3,d4,d5,d6⟩:=HC.out w2 Hb2.out;have HA2:=zb (HOA.out w2 _ _ _ (HBk.out w2 Hb2.out));have HS2:=zb (HOS.out w2 _ _ _ (HBk.out w2 Hb2.out));have i0:∀(q0:Bool) (w:World),(Instr.index 174 (.agg #[.bool q0,.bool q1,.bool q2,.bool q3,.bool q4]) (.int .i64 0)).run Tryz.prog w=.ok (.bool q0) w:=fun _ _=>by kernel_rfl
   cases ua with
   |true=>go_wp2_with fail;refine HA2.out.mono ?_;rintro e w3 ⟨r3,rfl,h3,hb3⟩;have H3:=zb h3;clear h3;go_wp2;go_ret;exact⟨r3,rfl,fun h=>HOk.out Hf.out (fun _=>H3.out h) (fun hh=>by rw[<-Hua.out]at hh;cases hh),Hw2.out.trans (hb3.mono Hw2.out.size)⟩
   |false=>go_wp2_with fail;refine HS2.out.mono ?_;rintro e w3 ⟨r3,rfl,h3,hb3⟩;have H3:=zb h3;clear h3;go_wp2;go_ret;exact⟨r3,rfl,fun h=>HOk.out Hf.out (fun hh=>by rw[<-Hua.out]at hh;cases hh) (fun _=>H3.out h),Hw2.out.trans (hb3.mono Hw2.out.size)⟩
 have hrb:(r != 0)=true:=bne_iff_ne.2 hr;have Hr:=zb hr;clear hr hb1;go_wp2;go_ret;exact HT.out _ _ Hr.out Hw1.out
theorem Vz (g o j:Nat):(⟨g,o,none⟩:Addr).add j=⟨g,o+j,none⟩:=by unfold Addr.add;split<;>simp_all
def zm (s:ByteArray):List Value:=[.string s]
theorem JV (s:ByteArray):∀u∈zm s,u.oneCell'=true:=by intro u hu;simp only[zm,List.mem_cons,List.not_mem_nil,or_false]at hu;rw[hu];rfl
theorem Tryz.strInfo:(Tryz.prog.info? 9).map (fun i=>(i.zero,i.size,i.bytes))=some (some (.string ⟨#[]⟩),1,16):=by kernel_rfl
theorem ke {w:World} {v:Value} {l:List ByteArray} (h:zi zm 1 w v l) (hs:∀s∈l,s.size<=maxLen):zR w v l:=by obtain⟨av,cap,rfl,h1,h2,h3⟩:=h;refine⟨av,cap,rfl,h1,h2,fun hne=>?_⟩;obtain⟨b,o,rfl,hB,hx⟩:=h3 hne;exact⟨b,o,rfl,hB,fun i hi=>⟨hx i hi 0 (by decide),hs _ (List.getElem_mem hi)⟩⟩
theorem qw {w:World} {v:Value} {l:List ByteArray} (h:zR w v l):zi zm 1 w v l:=by
 obtain⟨av,cap,rfl,h1,h2,h3⟩:=h;refine⟨av,cap,rfl,h1,h2,fun hne=>?_⟩;obtain⟨b,o,rfl,hB,hx⟩:=h3 hne;refine⟨b,o,rfl,hB,fun i hi j hj=>?_⟩;obtain rfl:j=0:=by omega
 exact(hx i hi).1
theorem Zn {w:World} {v:Value} {l:List ByteArray} (h:zR w v l):∀s∈l,s.size<=maxLen:=by intro s hs;obtain⟨av,cap,rfl,-,-,hx⟩:=h;obtain⟨i,hi,rfl⟩:=List.mem_iff_getElem.1 hs;obtain⟨b,o,rfl,-,hx⟩:=hx (by rintro rfl;cases hi);exact(hx i hi).2
theorem zS {w:World} {ops:Array Oper} {rest:List Oper} {o:Oper} {a:Act} {Q:Exit->Act->World->Prop} (hgd:o.guard=none) (s x:Operand)
 (ho:o.op=.call { callee:=.builtin .append,args:=#[s,x],argTypes:=#[58,58] })
 (base:Nat) (hbase:base<=w.heap.size) (v vx:Value) (L X:List ByteArray) (hs:a.eval s=v) (hx:a.eval x=vx) (hown:w.ownsRow base 9 1 v L.length (L.flatMap zm)) (hX:zi zm 1 w vx X) (hlen:L.length+X.length<=1000000)
 (h:∀R:List ByteArray,RowKit.Hid (R=L++X)->∀v' w',w'.ownsRow base 9 1 v' R.length (R.flatMap zm)->Below base w w'->wpList Tryz.prog ops Q rest (a.put o.dst v') w'):wpList Tryz.prog ops Q (o::rest) a w:=
 ZG (c:=zm) (sz:=1) (fun _=>rfl) JV 9 58 _ 16 Tryz.underlying58 Tryz.strInfo rfl (by decide) hgd s x ho base hbase v vx L X hs hx hown hX (by unfold maxLen;omega) (by omega) h
def jd (B:Nat) (a:Option Addr):Prop:=∀ad,a=some ad->ad.spot=none/\B<=ad.block
theorem jd.plain {B:Nat} {a:Option Addr} (h:jd B a):qF a:=fun ad e=>(h ad e).1
theorem Jw {w:World} {base:Nat} {e:TypeId} {sz n:Nat} {a:Option Addr} {m c:Nat} {xs:List Value} (h:w.ownsRow base e sz (.slice a m c) n xs):jd base a:=by
 rcases h.2 with⟨h,-⟩|⟨g,cap,cur,hv,hg,-⟩;· cases h;exact fun _ h=>by cases h
 cases hv;exact fun _ h=>by cases h;exact⟨rfl,hg⟩
def XI (N:List ByteArray) (w:World) (e:Ending) (w':World):Prop:=∃(a:Option Addr) (n c:Nat),e=.returned (.slice a n c)/\zR w' (.slice a n c) N/\jd w.heap.size a/\Below w.heap.size w w'
theorem Yo {N R:List ByteArray} {w w':World} {a:Option Addr} {c:Nat} (h:w'.ownsRow w.heap.size 9 1 (.slice a R.length c) R.length (R.flatMap zm)) (hR:R=N) (hs:∀s∈N,s.size<=maxLen) (hb:Below w.heap.size w w'):XI N w (.returned (.slice a R.length c)) w':=by subst hR;exact⟨a,_,c,rfl,ke (zi.own (fun _=>rfl) h) hs,Jw h,hb⟩
theorem vW {w w':World} {a:Option Addr} {n c base:Nat} {l:List ByteArray} (h:zR w (.slice a n c) l) (hf:jd base a) (hk:∀k,base<=k->k<w.heap.size->w'.heap[k]?=w.heap[k]?) (hs:w.heap.size<=w'.heap.size):zR w' (.slice a n c) l:=by obtain⟨av,cap,e,h1,h2,h3⟩:=h;cases e;refine⟨a,c,rfl,h1,h2,fun hne=>?_⟩;obtain⟨b,o,rfl,hB,hx⟩:=h3 hne;have hb:=hk b (hf _ rfl).2 hB;refine⟨b,o,rfl,by omega,fun i hi=>?_⟩;obtain⟨x1,x2⟩:=hx i hi;exact⟨(World.cell?_of_block (a:=⟨b,_,none⟩) hb).trans x1,x2⟩
theorem YM {L:List ByteArray} {s:ByteArray} (h:∀x∈L,x.size<=maxLen) (hs:s.size<=maxLen):∀x∈vq L s,x.size<=maxLen:=by
 intro x hx;unfold vq at hx;rw[List.mem_append,List.mem_append,List.mem_singleton]at hx;rcases hx with(hx|rfl)|hx;· exact h x (List.mem_of_mem_take hx)
 · exact hs
 exact h x (List.mem_of_mem_drop hx)
theorem VD (v:Value) (L:List ByteArray) (s:ByteArray) (w:World) (h:zR w v L) (hp:∀a n c,v=.slice a n c->qF a) (hs:s.size<=maxLen) (hl:L.length<=10000):
 Calls Tryz.prog 156 #[v,.string s] w (XI (vq L s) w):=by
 have HA:=zb h;have HR:=zb (qw h);have HSz:=zb (YM (Zn h) hs);obtain⟨aa,an,rfl,hla,hma,hxx⟩:=h;have hma1:=hma.1;unfold maxLen at hma1;cases aa with
 |none=>
   obtain rfl:=hma.2 rfl;obtain rfl:L=[]:=List.length_eq_zero_iff.1 (by omega);have HK:=zb (show kW [] s=0 from rfl);have hk:0<=([]:List ByteArray).length:=Nat.le_refl _;obtain⟨L,hL⟩:∃L:List ByteArray,L=[]:=⟨_,rfl⟩;have HL:=zb hL;clear hma hxx hp;go_enter Tryz.func156,Tryz.ntmps156;go_wp2_with fail;go_loop [5] (fun i=>i=.int .i64 0) (fun _=>0);case atStart=>exact rfl
   case round=>
    obtain rfl:=hrel;go_upto_region 4 with(fail);obtain⟨Y,hY⟩:∃Y,Y=w.alloc (Obj.cells #[] 9):=⟨_,rfl⟩;have hbY:Below w.heap.size w Y:=by rw[hY];go_grown
    have hown0:Y.ownsRow w.heap.size 9 1 (.slice (some ⟨w.heap.size,0,none⟩) 0 0) 0 []:=by rw[hY];exact vu w _
    have HY:=zb hY;have Hown0:=zb hown0;have HbY:=zb hbY;have hbs:=hbY.size;have HT:=zb (zi.below (yD HR.out 0 hk:zi zm 1 w _ _) hbY);have HD:=zb (yE HR.out 0 hk:zi zm 1 w _ _);have HWt:=zb (show([]:List ByteArray).take 0++[s]++([]:List ByteArray).drop 0=vq [] s by unfold vq;rw[HK.out]);obtain⟨T,hT⟩:∃T,T=([]:List ByteArray).take 0:=⟨_,rfl⟩;obtain⟨D,hD⟩:∃D,D=([]:List ByteArray).drop 0:=⟨_,rfl⟩;have hTb:T.length<=10000:=by rw[hT,List.length_take];omega
    have hDb:D.length<=10000:=by rw[hD,List.length_drop];omega
    rw[<-hT]at HT HWt;rw[<-hD]at HD HWt;clear hT hD hY hbY hown0;go_wp2_with (at_builtin;rw[<-HY.out];refine zS rfl _ _ rfl w.heap.size hbs _ _ [] T rfl rfl Hown0.out ?hX1 ?hl1 ?_);case hX1=>exact HT.out
    case hl1=>first|omega|(simp;omega)
    intro P5 hP5 v5 w5 own5 hb5;obtain rfl:T=P5:=hP5.out.symm;clear hP5;have Hb5:=zb (HbY.out.trans hb5);have Own5:=zb own5;have hbs5:=Hb5.out.size;obtain⟨a5,c5,rfl,-,-⟩:=zf own5;clear own5 hb5;have HX2:=zb (zi.one (c:=zm) (sz:=1) w5 s 9 #[.string s] rfl);go_wp2_with (at_builtin;refine zS rfl _ _ rfl w.heap.size ?hs2 _ _ T [s] rfl rfl (Own5.out.alloc _) HX2.out ?hl2 ?_);case hs2=>simp;omega
    case hl2=>simp;omega
    intro R6 hR6 v6 w6 own6 hb6;have Hb6:=zb ((Hb5.out.alloc hbs5 (Obj.cells #[.string s] 9)).trans hb6);have HR6:=zb hR6.out;have hR6l:R6.length<=10001:=by rw[hR6.out,List.length_append,List.length_singleton];omega
    have hbs6:=Hb6.out.size;obtain⟨a6,c6,rfl,-,-⟩:=zf own6;have Own6:=zb own6;clear own6 hb6 hR6;have HD:=zb (zi.below HD.out Hb6.out);have HF:=zb (fun(R:List ByteArray) (h:R=R6++D)=>(h.trans (by rw[HR6.out,HWt.out]):R=vq [] s));go_wp2_with (at_builtin;refine zS rfl _ _ rfl w.heap.size ?hs3 _ _ R6 D rfl rfl Own6.out ?hX3 ?hl3 ?_);case hs3=>exact hbs6
    case hX3=>exact HD.out
    case hl3=>omega
    intro R hR v7 w7 own7 hb7;have Hb7:=zb (Hb6.out.trans hb7);have HRe:=zb (HF.out R hR.out);obtain⟨a7,c7,rfl,-,-⟩:=zf own7;have Own7:=zb own7;clear own7 hb7 hR;go_wp2;go_ret;exact Yo Own7.out HRe.out HSz.out Hb7.out
 |some ad=>
   obtain⟨ab,ao,asp⟩:=ad;obtain rfl:asp=none:=hp _ _ _ rfl _ rfl;clear hma hxx hp;go_enter Tryz.func156,Tryz.ntmps156;go_wp2_with fail;go_loop [5] (fun i=>∃k:Nat,k<=L.length/\i=.int .i64 k/\∀j (hj:j<L.length),j<k->Op.bytesLess L[j].toList s.toList=true) (fun i=>L.length-(intOf i).toNat);case atStart=>exact⟨0,Nat.zero_le _,rfl,fun j _ h=>by omega⟩
   case round=>
    obtain⟨k,hk,rfl,hno⟩:=hrel;have Hno:=zb hno;clear hno;have hk0:(0:Int)<=(k:Int):=Int.natCast_nonneg _;by_cases hlt:k<L.length
    · have hk1:(k:Int)<(L.length:Int):=by omega
      obtain⟨a2,n2,e2,-,-,hx⟩:=HA.out;cases e2;obtain⟨bb,o,e3,hB,hx⟩:=hx (by rintro rfl;cases hlt);cases e3;obtain⟨x0,-⟩:=hx k hlt;rw[Nat.mul_one]at x0;clear hx;cases hb:Op.bytesLess L[k].toList s.toList with
      |true=>
        have HNx:=zb (show ∀j (hj:j<L.length),j<k+1->Op.bytesLess L[j].toList s.toList=true from fun j hj hjk=>by
         by_cases h:j=k;· subst h;exact hb
         exact Hno.out j hj (by omega));generalize L[k]=a at *;go_wp2;exact⟨⟨k+1,by omega,by go_num,HNx.out⟩,by simp[intOf];omega⟩
      |false=>
        have HK:=zb (xm hlt (fun j hj=>Hno.out j (by omega) hj) hb);have Hlt:=zb hlt;generalize L[k]=a at *;go_upto_region 4 with(fail);obtain⟨Y,hY⟩:∃Y,Y=w.alloc (Obj.cells #[] 9):=⟨_,rfl⟩;have hbY:Below w.heap.size w Y:=by rw[hY];go_grown
        have hown0:Y.ownsRow w.heap.size 9 1 (.slice (some ⟨w.heap.size,0,none⟩) 0 0) 0 []:=by rw[hY];exact vu w _
        have HY:=zb hY;have Hown0:=zb hown0;have HbY:=zb hbY;have hbs:=hbY.size;have HT:=zb (zi.below (yD HR.out k hk:zi zm 1 w _ _) hbY);have HD:=zb (yE HR.out k hk:zi zm 1 w _ _);have HWt:=zb (show L.take k++[s]++L.drop k=vq L s by unfold vq;rw[HK.out]);obtain⟨T,hT⟩:∃T,T=L.take k:=⟨_,rfl⟩;obtain⟨D,hD⟩:∃D,D=L.drop k:=⟨_,rfl⟩;have hTb:T.length<=10000:=by rw[hT,List.length_take];omega
        have hDb:D.length<=10000:=by rw[hD,List.length_drop];omega
        rw[<-hT]at HT HWt;rw[<-hD]at HD HWt;clear hT hD hY hbY hown0;go_wp2_with (at_builtin;rw[<-HY.out];refine zS rfl _ _ rfl w.heap.size hbs _ _ [] T rfl rfl Hown0.out ?hX1 ?hl1 ?_);case hX1=>exact HT.out
        case hl1=>first|omega|(simp;omega)
        intro P5 hP5 v5 w5 own5 hb5;obtain rfl:T=P5:=hP5.out.symm;clear hP5;have Hb5:=zb (HbY.out.trans hb5);have Own5:=zb own5;have hbs5:=Hb5.out.size;obtain⟨a5,c5,rfl,-,-⟩:=zf own5;clear own5 hb5;have HX2:=zb (zi.one (c:=zm) (sz:=1) w5 s 9 #[.string s] rfl);go_wp2_with (at_builtin;refine zS rfl _ _ rfl w.heap.size ?hs2 _ _ T [s] rfl rfl (Own5.out.alloc _) HX2.out ?hl2 ?_);case hs2=>simp;omega
        case hl2=>simp;omega
        intro R6 hR6 v6 w6 own6 hb6;have Hb6:=zb ((Hb5.out.alloc hbs5 (Obj.cells #[.string s] 9)).trans hb6);have HR6:=zb hR6.out;have hR6l:R6.length<=10001:=by rw[hR6.out,List.length_append,List.length_singleton];omega
        have hbs6:=Hb6.out.size;obtain⟨a6,c6,rfl,-,-⟩:=zf own6;have Own6:=zb own6;clear own6 hb6 hR6;have HD:=zb (zi.below HD.out Hb6.out);have HF:=zb (fun(R:List ByteArray) (h:R=R6++D)=>(h.trans (by rw[HR6.out,HWt.out]):R=vq L s));by_cases hco:an=k
        · have HD:=zb (show zi zm 1 w6 (.slice (some ⟨ab,ao,none⟩) (L.length-k) 0) D by
           have h:=HD.out;rw[if_pos hco,hco,Nat.sub_self]at h;exact h)
          go_wp2_with (at_builtin;refine zS rfl _ _ rfl w.heap.size ?hs3 _ _ R6 D rfl rfl Own6.out ?hX3 ?hl3 ?_);case hs3=>exact hbs6
          case hX3=>exact HD.out
          case hl3=>omega
          intro R hR v7 w7 own7 hb7;have Hb7:=zb (Hb6.out.trans hb7);have HRe:=zb (HF.out R hR.out);obtain⟨a7,c7,rfl,-,-⟩:=zf own7;have Own7:=zb own7;clear own7 hb7 hR;go_wp2;go_ret;exact Yo Own7.out HRe.out HSz.out Hb7.out
        have HD:=zb (show zi zm 1 w6 (.slice (some ⟨ab,ao+k,none⟩) (L.length-k) (an-k)) D by
         have h:=HD.out;rw[if_neg hco,Option.map_some,Vz,Nat.mul_one]at h;exact h);go_wp2_with (at_builtin;refine zS rfl _ _ rfl w.heap.size ?hs3 _ _ R6 D rfl rfl Own6.out ?hX3 ?hl3 ?_);case hs3=>exact hbs6
        case hX3=>exact HD.out
        case hl3=>omega
        intro R hR v7 w7 own7 hb7;have Hb7:=zb (Hb6.out.trans hb7);have HRe:=zb (HF.out R hR.out);obtain⟨a7,c7,rfl,-,-⟩:=zf own7;have Own7:=zb own7;clear own7 hb7 hR;go_wp2;go_ret;exact Yo Own7.out HRe.out HSz.out Hb7.out
    have HK:=zb (show kW L s=k by rw[Ee (s:=s) (fun j hj=>Hno.out j hj (by omega))];omega);have hkL:k=L.length:=by omega
    have hnlt:¬(k:Int)<(L.length:Int):=by omega
    clear hkL;go_upto_region 4 with(fail);obtain⟨Y,hY⟩:∃Y,Y=w.alloc (Obj.cells #[] 9):=⟨_,rfl⟩;have hbY:Below w.heap.size w Y:=by rw[hY];go_grown
    have hown0:Y.ownsRow w.heap.size 9 1 (.slice (some ⟨w.heap.size,0,none⟩) 0 0) 0 []:=by rw[hY];exact vu w _
    have HY:=zb hY;have Hown0:=zb hown0;have HbY:=zb hbY;have hbs:=hbY.size;have HT:=zb (zi.below (yD HR.out k hk:zi zm 1 w _ _) hbY);have HD:=zb (yE HR.out k hk:zi zm 1 w _ _);have HWt:=zb (show L.take k++[s]++L.drop k=vq L s by unfold vq;rw[HK.out]);obtain⟨T,hT⟩:∃T,T=L.take k:=⟨_,rfl⟩;obtain⟨D,hD⟩:∃D,D=L.drop k:=⟨_,rfl⟩;have hTb:T.length<=10000:=by rw[hT,List.length_take];omega
    have hDb:D.length<=10000:=by rw[hD,List.length_drop];omega
    rw[<-hT]at HT HWt;rw[<-hD]at HD HWt;clear hT hD hY hbY hown0;go_wp2_with (at_builtin;rw[<-HY.out];refine zS rfl _ _ rfl w.heap.size hbs _ _ [] T rfl rfl Hown0.out ?hX1 ?hl1 ?_);case hX1=>exact HT.out
    case hl1=>first|omega|(simp;omega)
    intro P5 hP5 v5 w5 own5 hb5;obtain rfl:T=P5:=hP5.out.symm;clear hP5;have Hb5:=zb (HbY.out.trans hb5);have Own5:=zb own5;have hbs5:=Hb5.out.size;obtain⟨a5,c5,rfl,-,-⟩:=zf own5;clear own5 hb5;have HX2:=zb (zi.one (c:=zm) (sz:=1) w5 s 9 #[.string s] rfl);go_wp2_with (at_builtin;refine zS rfl _ _ rfl w.heap.size ?hs2 _ _ T [s] rfl rfl (Own5.out.alloc _) HX2.out ?hl2 ?_);case hs2=>simp;omega
    case hl2=>simp;omega
    intro R6 hR6 v6 w6 own6 hb6;have Hb6:=zb ((Hb5.out.alloc hbs5 (Obj.cells #[.string s] 9)).trans hb6);have HR6:=zb hR6.out;have hR6l:R6.length<=10001:=by rw[hR6.out,List.length_append,List.length_singleton];omega
    have hbs6:=Hb6.out.size;obtain⟨a6,c6,rfl,-,-⟩:=zf own6;have Own6:=zb own6;clear own6 hb6 hR6;have HD:=zb (zi.below HD.out Hb6.out);have HF:=zb (fun(R:List ByteArray) (h:R=R6++D)=>(h.trans (by rw[HR6.out,HWt.out]):R=vq L s));by_cases hco:an=k
    · have HD:=zb (show zi zm 1 w6 (.slice (some ⟨ab,ao,none⟩) (L.length-k) 0) D by
       have h:=HD.out;rw[if_pos hco,hco,Nat.sub_self]at h;exact h)
      go_wp2_with (at_builtin;refine zS rfl _ _ rfl w.heap.size ?hs3 _ _ R6 D rfl rfl Own6.out ?hX3 ?hl3 ?_);case hs3=>exact hbs6
      case hX3=>exact HD.out
      case hl3=>omega
      intro R hR v7 w7 own7 hb7;have Hb7:=zb (Hb6.out.trans hb7);have HRe:=zb (HF.out R hR.out);obtain⟨a7,c7,rfl,-,-⟩:=zf own7;have Own7:=zb own7;clear own7 hb7 hR;go_wp2;go_ret;exact Yo Own7.out HRe.out HSz.out Hb7.out
    have HD:=zb (show zi zm 1 w6 (.slice (some ⟨ab,ao+k,none⟩) (L.length-k) (an-k)) D by
     have h:=HD.out;rw[if_neg hco,Option.map_some,Vz,Nat.mul_one]at h;exact h);go_wp2_with (at_builtin;refine zS rfl _ _ rfl w.heap.size ?hs3 _ _ R6 D rfl rfl Own6.out ?hX3 ?hl3 ?_);case hs3=>exact hbs6
    case hX3=>exact HD.out
    case hl3=>omega
    intro R hR v7 w7 own7 hb7;have Hb7:=zb (Hb6.out.trans hb7);have HRe:=zb (HF.out R hR.out);obtain⟨a7,c7,rfl,-,-⟩:=zf own7;have Own7:=zb own7;clear own7 hb7 hR;go_wp2;go_ret;exact Yo Own7.out HRe.out HSz.out Hb7.out
end Go.Proofs.YtngippiilgdnoaaGreat
