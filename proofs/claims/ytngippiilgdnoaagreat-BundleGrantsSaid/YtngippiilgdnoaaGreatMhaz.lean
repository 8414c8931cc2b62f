/-
  The periods in which a subscription has a product: the walks of SubJ and SubA once more, with the row that they lie in.
-/
import Derived.Test.YtngippiilgdnoaaGreatMhay
set_option maxRecDepth 100000
set_option maxHeartbeats 25600000
namespace Go.Proofs.YtngippiilgdnoaaGreat
open Go.RowKit
theorem jR {a b:Sb} (h:¬view a=view b):vG a b=false:=by
 cases hq:vG a b with
 |false=>rfl
 |true=>exact absurd ((ZK _ _).1 hq) h
theorem XF {a b:Sb} (h1:a.id=b.id) (h2:a.plan=b.plan) (h3:a.su=b.su) (h4:a.fa=b.fa) (h5:a.prs=b.prs):vG a b=true:=by unfold vG;rw[h1,h2,h3,h4,h5,decide_eq_true rfl,(zI _ _).2 rfl,(jC _ _).2 rfl];simp
theorem YO {α:Type} {a b:List α} {k:Nat} (hl:a.length=b.length) (hk:a.length<=k) (h:a.take k=b.take k):a=b:=by rwa[List.take_of_length_le hk,List.take_of_length_le (by omega)]at h
theorem YQ {α:Type} {a b:List α} {k:Nat} (ha:k<a.length) (hb:k<b.length) (h:a.take k=b.take k) (e:a[k]=b[k]):a.take (k+1)=b.take (k+1):=by rw[List.take_succ_eq_append_getElem ha,List.take_succ_eq_append_getElem hb,h,e]
theorem xA {α:Type} {a b:List α} {k:Nat} (ha:k<a.length) (hb:k<b.length) (h:¬a[k]=b[k]):a≠b:=by rintro rfl;exact h rfl
theorem vd (w:World) (o1 o2:Obj):∃W,W=(w.alloc o1).alloc o2/\W.heap[w.heap.size]?=some o1/\W.heap[w.heap.size+1]?=some o2/\Below w.heap.size w W/\w.heap.size+1<W.heap.size:=by obtain⟨h1,h2,h3,h4⟩:=kw w o1 o2;exact⟨_,rfl,h1,h2,h3,by simp⟩
theorem Us (x y:SbX) (w:World) (hx:zR w (.slice x.pa x.pn x.pc) x.s.prs) (hy:zR w (.slice y.pa y.pn y.pc) y.s.prs):
 Calls Tryz.prog 181 #[jb x,jb y] w fun e w'=>e=.returned (.bool (vG x.s y.s))/\Below w.heap.size w w':=by
 obtain⟨⟨i1,i2,i3,i4,nus,prs,su,fa⟩,na,nn,nc,pa,pn,pc⟩:=x;obtain⟨⟨j1,j2,j3,j4,mus,qrs,tu,ga⟩,ma,mn,mc,qa,qn,qc⟩:=y;dsimp only at hx hy;obtain⟨W,hW,r0,r1,hw0,hz⟩:=vd w (Obj.cells #[.int .i64 i1,.int .i64 i2,.int .i64 i3,.string i4,.slice na nn nc,.slice pa pn pc,.bool su,.bool fa] 181) (Obj.cells #[.int .i64 j1,.int .i64 j2,.int .i64 j3,.string j4,.slice ma mn mc,.slice qa qn qc,.bool tu,.bool ga] 181);have HX:=zb (hx.below hw0);have HY:=zb (hy.below hw0);obtain⟨a1,c1,e1,hl1,hm1,-⟩:=hx;cases e1;obtain⟨a2,c2,e2,hl2,hm2,-⟩:=hy;cases e2;have hm1:=hm1.1;have hm2:=hm2.1;unfold maxLen at hm1 hm2;unfold jb;dsimp only;have HW:=zb hW;have Hb:=zb hw0;have x0:=cell_of_row W _ 0 _ _ _ r0;have y0:=cell_of_row W _ 0 _ _ _ r1;have x3:=cell_of_row W _ 3 _ _ _ r0;have y3:=cell_of_row W _ 3 _ _ _ r1;have x5:=cell_of_row W _ 5 _ _ _ r0;have y5:=cell_of_row W _ 5 _ _ _ r1;have x6:=cell_of_row W _ 6 _ _ _ r0;have y6:=cell_of_row W _ 6 _ _ _ r1;have x7:=cell_of_row W _ 7 _ _ _ r0;have y7:=cell_of_row W _ 7 _ _ _ r1;clear hW r0 r1 hw0 hz;by_cases e1:i1=j1
 · have p1:(i1==j1)=true:=beq_iff_eq.2 e1
   have q1:(i1 != j1)=false:=by rw[bne,p1];rfl
   have E1:=zb e1;clear e1;by_cases e2:i4=j4
   · have p2:(i4.toList==j4.toList)=true:=(zI i4 j4).2 e2
     have q2:(i4.toList != j4.toList)=false:=by rw[bne,p2];rfl
     have E2:=zb e2;clear e2;by_cases e3:su=tu
     · have p3:(su==tu)=true:=beq_iff_eq.2 e3
       have q3:(su != tu)=false:=by rw[bne,p3];rfl
       have E3:=zb e3;clear e3;by_cases e4:fa=ga
       · have p4:(fa==ga)=true:=beq_iff_eq.2 e4
         have q4:(fa != ga)=false:=by rw[bne,p4];rfl
         have E4:=zb e4;clear e4;by_cases e5:prs.length=qrs.length
         · have p5:((prs.length:Int)==(qrs.length:Int))=true:=beq_iff_eq.2 (by omega)
           have q5:((prs.length:Int) != (qrs.length:Int))=false:=by rw[bne,p5];rfl
           have Hl:=zb e5;have hll:(prs.length:Int)<=(qrs.length:Int):=by omega
           have hll2:(qrs.length:Int)<=(prs.length:Int):=by omega
           clear e5;go_enter Tryz.func181,Tryz.ntmps181;go_upto_region 1 with(fail);rw[<-HW.out];go_wp2_with fail;go_loop [45] (fun i=>∃k:Nat,k<=prs.length/\i=.int .i64 k/\prs.take k=qrs.take k) (fun i=>prs.length-(intOf i).toNat);case atStart=>exact⟨0,Nat.zero_le _,rfl,rfl⟩
           case round=>
            obtain⟨k,hk,rfl,hn⟩:=hrel;have Hn:=zb hn;clear hn;by_cases hlt:k<prs.length
            · have hlt2:k<qrs.length:=by omega
              obtain⟨av2,cap2,ee,-,-,hxx⟩:=HX.out;cases ee;obtain⟨b1,o1,rfl,hB1,hxx⟩:=hxx (by rintro rfl;cases hlt);obtain⟨u0,-⟩:=hxx k hlt;obtain⟨av3,cap3,ee,-,-,hyy⟩:=HY.out;cases ee;obtain⟨b2,o2,rfl,hB2,hyy⟩:=hyy (by rintro rfl;cases hlt2);obtain⟨v0,-⟩:=hyy k hlt2;rw[Nat.mul_one]at u0 v0;have hk0:(0:Int)<=(k:Int):=Int.natCast_nonneg _;have hk1:(k:Int)<(prs.length:Int):=by omega
              have hk2:(k:Int)<(qrs.length:Int):=by omega
              have HS:=zb (fun h=>YQ hlt hlt2 Hn.out h);have HN:=zb (fun h=>@xA _ prs qrs k hlt hlt2 h);clear hxx hyy;generalize prs[k]=p at *;generalize qrs[k]=q at *;by_cases hpq:p=q
              · have HE:=zb (HS.out hpq)
                have hq1:(p.toList==q.toList)=true:=(zI p q).2 hpq;have hq2:(p.toList != q.toList)=false:=by rw[bne,hq1];rfl
                clear HS HN hpq;go_wp2;exact⟨⟨k+1,by omega,by go_num,HE.out⟩,by simp[intOf];omega⟩
              have HE:=zb (show vG ⟨i1,i2,i3,i4,nus,prs,su,fa⟩ ⟨j1,j2,j3,j4,mus,qrs,tu,ga⟩=false from jR (fun h=>HN.out hpq (congrArg (·.prs) h)));have hq1:(p.toList==q.toList)=false:=by
               cases hq:(p.toList==q.toList)with
               |false=>rfl
               |true=>exact absurd ((zI p q).1 hq) hpq
              have hq2:(p.toList != q.toList)=true:=by rw[bne,hq1];rfl
              clear HS HN hpq;go_wp2;go_ret;exact⟨zo HE.out.symm,Hb.out⟩
            have HE:=zb (show vG ⟨i1,i2,i3,i4,nus,prs,su,fa⟩ ⟨j1,j2,j3,j4,mus,qrs,tu,ga⟩=true from XF E1.out E2.out E3.out E4.out (YO Hl.out (Nat.le_of_not_lt hlt) Hn.out));go_wp2;go_ret;exact⟨zo HE.out.symm,Hb.out⟩
         have p5:((prs.length:Int)==(qrs.length:Int))=false:=beq_eq_false_iff_ne.2 (by omega);have q5:((prs.length:Int) != (qrs.length:Int))=true:=by rw[bne,p5];rfl
         have HE:=zb (show vG ⟨i1,i2,i3,i4,nus,prs,su,fa⟩ ⟨j1,j2,j3,j4,mus,qrs,tu,ga⟩=false from jR (fun h=>e5 (by rw[show prs=qrs from congrArg (·.prs) h])));clear e5;go_enter Tryz.func181,Tryz.ntmps181;go_upto_region 1 with(fail);rw[<-HW.out];go_wp2;go_ret;exact⟨zo HE.out.symm,Hb.out⟩
       have p4:(fa==ga)=false:=beq_eq_false_iff_ne.2 e4;have q4:(fa != ga)=true:=by rw[bne,p4];rfl
       have HE:=zb (show vG ⟨i1,i2,i3,i4,nus,prs,su,fa⟩ ⟨j1,j2,j3,j4,mus,qrs,tu,ga⟩=false from jR (fun h=>e4 (congrArg (·.fa) h)));clear e4;go_enter Tryz.func181,Tryz.ntmps181;go_upto_region 1 with(fail);rw[<-HW.out];go_wp2;go_ret;exact⟨zo HE.out.symm,Hb.out⟩
     have p3:(su==tu)=false:=beq_eq_false_iff_ne.2 e3;have q3:(su != tu)=true:=by rw[bne,p3];rfl
     have HE:=zb (show vG ⟨i1,i2,i3,i4,nus,prs,su,fa⟩ ⟨j1,j2,j3,j4,mus,qrs,tu,ga⟩=false from jR (fun h=>e3 (congrArg (·.su) h)));clear e3;go_enter Tryz.func181,Tryz.ntmps181;go_upto_region 1 with(fail);rw[<-HW.out];go_wp2;go_ret;exact⟨zo HE.out.symm,Hb.out⟩
   have p2:(i4.toList==j4.toList)=false:=(by cases hq:(i4.toList==j4.toList)with|false=>rfl|true=>exact absurd ((zI i4 j4).1 hq) e2);have q2:(i4.toList != j4.toList)=true:=by rw[bne,p2];rfl
   have HE:=zb (show vG ⟨i1,i2,i3,i4,nus,prs,su,fa⟩ ⟨j1,j2,j3,j4,mus,qrs,tu,ga⟩=false from jR (fun h=>e2 (congrArg (·.plan) h)));clear e2;go_enter Tryz.func181,Tryz.ntmps181;go_upto_region 1 with(fail);rw[<-HW.out];go_wp2;go_ret;exact⟨zo HE.out.symm,Hb.out⟩
 have p1:(i1==j1)=false:=beq_eq_false_iff_ne.2 e1;have q1:(i1 != j1)=true:=by rw[bne,p1];rfl
 have HE:=zb (show vG ⟨i1,i2,i3,i4,nus,prs,su,fa⟩ ⟨j1,j2,j3,j4,mus,qrs,tu,ga⟩=false from jR (fun h=>e1 (congrArg (·.id) h)));clear e1;go_enter Tryz.func181,Tryz.ntmps181;go_upto_region 1 with(fail);rw[<-HW.out];go_wp2;go_ret;exact⟨zo HE.out.symm,Hb.out⟩
theorem QY (p q:Int×SbX) (base:Nat) (w:World) (hp:SbO base w p.2) (hq:SbO base w q.2):
 Calls Tryz.prog 180 #[jV p,jV q] w fun e w'=>e=.returned (.bool (vG p.2.s q.2.s))/\Below w.heap.size w w':=by
 have HE:=zb (fun w1 (hb:Below w.heap.size w w1)=>Us p.2 q.2 w1 (hp.strs.below hb) (hq.strs.below hb));obtain⟨t,⟨⟨i1,i2,i3,i4,nus,prs,su,fa⟩,na,nn,nc,pa,pn,pc⟩⟩:=p;obtain⟨u,⟨⟨j1,j2,j3,j4,mus,qrs,tu,ga⟩,ma,mn,mc,qa,qn,qc⟩⟩:=q;dsimp only at HE;unfold jV ye;dsimp only[zK];clear hp hq;go_enter Tryz.func180,Tryz.ntmps180;go_wp2_with (go_at_call 181;refine(HE.out _ (by go_grown)).mono ?_;rintro e w1 ⟨rfl,hb1⟩);go_ret;refine⟨rfl,Below.trans ?_ (hb1.mono ?_)⟩;· go_grown
 simp;omega
theorem QX (p q:Int×SbX) (w:World):
 Calls Tryz.prog 182 #[jV p,jV q] w fun e w'=>e=.returned (jV p)/\Below w.heap.size w w':=by
 obtain⟨t,⟨⟨i1,i2,i3,i4,nus,prs,su,fa⟩,na,nn,nc,pa,pn,pc⟩⟩:=p;obtain⟨u,⟨⟨j1,j2,j3,j4,mus,qrs,tu,ga⟩,ma,mn,mc,qa,qn,qc⟩⟩:=q;unfold jV ye;dsimp only[zK];obtain⟨W,hW,r0,-,r2,hw0,hz⟩:=qf w (Obj.cells #[.int .i64 t,.int .i64 i1,.int .i64 i2,.int .i64 i3,.string i4,.slice na nn nc,.slice pa pn pc,.bool su,.bool fa] 239) (Obj.cells #[.int .i64 u,.int .i64 j1,.int .i64 j2,.int .i64 j3,.string j4,.slice ma mn mc,.slice qa qn qc,.bool tu,.bool ga] 239) (Obj.cells #[.int .i64 0,.int .i64 0,.int .i64 0,.int .i64 0,.string ⟨#[]⟩,.slice none 0 0,.slice none 0 0,.bool false,.bool false] 239);have tQ:=fun j=>cell_of_row W _ j _ _ _ r0;have x0:=tQ 0;have x1:=tQ 1;have x2:=tQ 2;have x3:=tQ 3;have x4:=tQ 4;have x5:=tQ 5;have x6:=tQ 6;have x7:=tQ 7;have x8:=tQ 8;clear tQ;have HbF:=zb (zj hw0 (show w.heap.size<=w.heap.size+1+1 by omega) #[.int .i64 t,.int .i64 i1,.int .i64 i2,.int .i64 i3,.string i4,.slice na nn nc,.slice pa pn pc,.bool su,.bool fa]);have tQ:=fun j=>cell_setRow_same W (w.heap.size+1+1) j _ #[.int .i64 t,.int .i64 i1,.int .i64 i2,.int .i64 i3,.string i4,.slice na nn nc,.slice pa pn pc,.bool su,.bool fa] _ _ r2;have t0:=tQ 0;have t1:=tQ 1;have t2:=tQ 2;have t3:=tQ 3;have t4:=tQ 4;have t5:=tQ 5;have t6:=tQ 6;have t7:=tQ 7;have t8:=tQ 8;clear tQ;have HW:=zb hW;have R2:=zb r2;clear hW r0 r2 hw0 hz;go_enter Tryz.func182,Tryz.ntmps182;go_upto_region 1 with(fail);rw[<-HW.out];repeat (first|refine wpList_store_row rfl _ _ _ rfl (w.heap.size+1+1) #[.int .i64 t,.int .i64 i1,.int .i64 i2,.int .i64 i3,.string i4,.slice na nn nc,.slice pa pn pc,.bool su,.bool fa] rfl rfl 239 _ R2.out (by kernel_rfl) rfl (by simp[Value.oneCell']) ?_|go_step)
 exact bodyPost_ret (v:=.agg #[.int .i64 t,.int .i64 i1,.int .i64 i2,.int .i64 i3,.string i4,.slice na nn nc,.slice pa pn pc,.bool su,.bool fa]) (by simp[results,Tryz.results182,go_sem,t0,t1,t2,t3,t4,t5,t6,t7,t8]) rfl ⟨rfl,HbF.out⟩
theorem qO (p:Int×Int):∀u∈zh p,u.oneCell'=true:=by intro u hu;unfold zh at hu;simp only[List.mem_cons,List.not_mem_nil,or_false]at hu;rcases hu with rfl|rfl<;>rfl
theorem Zi (a b c d:Int) (w:World):Calls Tryz.prog 146 #[.agg #[.int .i64 a,.int .i64 b],.agg #[.int .i64 c,.int .i64 d]] w fun e w'=>e=.returned (.bool (decide (b=c)))/\Below w.heap.size w w':=by
 by_cases h:b=c
 · have e1:(b==c)=true:=beq_iff_eq.2 h
   have HE:=zb (show decide (b=c)=true from decide_eq_true h);clear h;go_enter Tryz.func146,Tryz.ntmps146;go_wp2;go_ret;exact⟨zo HE.out.symm,by go_grown⟩
 have e1:(b==c)=false:=beq_eq_false_iff_ne.2 h;have HE:=zb (show decide (b=c)=false from decide_eq_false h);clear h;go_enter Tryz.func146,Tryz.ntmps146;go_wp2;go_ret;exact⟨zo HE.out.symm,by go_grown⟩
theorem Zh (a b c d:Int) (w:World):Calls Tryz.prog 147 #[.agg #[.int .i64 a,.int .i64 b],.agg #[.int .i64 c,.int .i64 d]] w fun e w'=>e=.returned (.agg #[.int .i64 a,.int .i64 d])/\Below w.heap.size w w':=by go_enter Tryz.func147,Tryz.ntmps147;go_wp2;refine bodyPost_ret (v:=.agg #[.int .i64 a,.int .i64 d]) (by simp[results,Tryz.results147,go_sem]) rfl ⟨rfl,?_⟩;go_grown
theorem Je  (v:Value) (L:List (Int×Int)) (w:World) (h:zi zh 2 w v L) (hl:L.length<=10000):
 Calls Tryz.prog 145 #[v,.func (.func 146) #[] #[],.func (.func 147) #[] #[]] w (jF w (vn L)):=by
 have HA:=zb h;obtain⟨av,cap,rfl,hcl,hcm⟩:=zq h;unfold maxLen at hcm;clear h;go_enter Tryz.func145,Tryz.ntmps145;go_wp2_with fail;go_loopw [7,13] (fun vo i wr=>∃(k:Nat) (O:List (Int×Int)),k<=L.length/\i=.int .i64 k/\RowKit.Hid (O=vn (L.take k))/\wr.ownsRow w.heap.size 25 2 vo O.length (O.flatMap zh)/\Below w.heap.size w wr) (fun _ i _=>L.length-(intOf i).toNat);case atStart=>exact⟨0,[],Nat.zero_le _,rfl,zb (rfl),World.ownsRow_nil _ _ _ _,Below.refl _ _⟩
 case round=>
  obtain⟨wo,rfl⟩:∃wo:World,wo=wr:=⟨_,rfl⟩;obtain⟨k,O,hk,rfl,HP,hown,hb⟩:=hrel;obtain⟨a,cp,rfl,hc1,hc2⟩:=zf hown;unfold maxLen at hc2;have Hown:=zb hown;have Hb:=zb hb;have hOl:O.length<=k:=by rw[HP.out];exact Yy L k hk
  by_cases hlt:k<L.length
  · have hk1:(k:Int)<(L.length:Int):=by omega
    have hk0:(0:Int)<=(k:Int):=Int.natCast_nonneg _;have HTk:=zb (jj L k hlt);obtain⟨a2,c2,e2,-,-,hx⟩:=(HA.out.below hb);cases e2;obtain⟨bb,o,rfl,hB,hx⟩:=hx (by rintro rfl;cases hlt);have hx:=hx k hlt;have x0:wo.cell? ⟨bb,o+k*2,none⟩=some (.int .i64 (L[k]).1):=hx 0 (by decide);have x1c:wo.cell? ⟨bb,o+k*2+1,none⟩=some (.int .i64 (L[k]).2):=hx 1 (by decide);clear hx hB hown hb;generalize L[k]=x at *;obtain⟨x1,x2⟩:=x;dsimp only at x0 x1c HTk;obtain⟨Y,hY⟩:∃Y,Y=wo.alloc (Obj.cells #[.int .i64 x1,.int .i64 x2] 25):=⟨_,rfl⟩;have hbY:Below wo.heap.size wo Y:=by rw[hY];go_grown
    have HYr:=zb (show Y.heap[wo.heap.size]?=some (Obj.cells #[.int .i64 x1,.int .i64 x2] 25) by rw[hY];exact heap_alloc_new _ _);have HbY:=zb (Hb.out.trans (hbY.mono Hb.out.size));have HownY:=zb (zd Hown.out hbY);have HY:=zb hY;have hwY:wo.heap.size<Y.heap.size:=(zu HYr.out);clear hbY hY;go_upto_region 6 with(fail);rw[<-HY.out];by_cases hO:O=[]
    · subst hO
      have hj0:decide ((0:Int)<0)=false:=by decide
      go_big_quiet (fail);obtain⟨w2,hV⟩:∃w2,w2=Y.drewN nq:=⟨_,rfl⟩;have hY2:Below Y.heap.size Y w2:=by rw[hV];exact zH (Below.refl _ _) _
      rw[<-hV];clear hV x0 x1c;have HbA:=zb (HbY.out.trans (hY2.mono HbY.out.size));have HownA:=zb (zd HownY.out hY2);have rA:=(hY2.block _ hwY).trans HYr.out;have c0:=cell_of_row w2 _ 0 _ _ _ rA;have c1:=cell_of_row w2 _ 1 _ _ _ rA;have hbs:=HbA.out.size;have HX:=zb (zi.one (c:=zh) (sz:=2) w2 (x1,x2) 25 #[.int .i64 x1,.int .i64 x2] rfl);clear rA hY2;go_upto_region 8 with(fail);go_wp2_with (at_builtin;refine zX (c:=zh) (sz:=2) (fun _=>rfl) qO 25 85 _ 16 Tryz.underlying85 Tryz.perInfo rfl (by decide) rfl _ _ rfl w.heap.size ?hs _ _ [] [(x1,x2)] rfl rfl (HownA.out.alloc _) HX.out ?hl ?hb ?_);case hs=>simp<;>omega
      case hl=>unfold maxLen;simp<;>omega
      case hb=>simp<;>omega
      intro R hR v5 w5 own5 hg5;have HRe:=zb (show R=[]++[(x1,x2)] by rw[hR.out];first|rfl|simp);have Own5:=zb own5;have Hb5:=zb ((HbA.out.alloc hbs _).grown hg5 (by simp<;>omega) (fun g hg=>(zg HownA.out g hg).1));clear own5 hg5 hR hbs;go_wp2;exact⟨⟨k+1,R,by omega,by go_num,zb (by rw[HRe.out,HTk.out,<-HP.out];exact rfl),Own5.out,Hb5.out⟩,by simp[intOf];omega⟩
    obtain⟨M,q,rfl⟩:∃M q,O=M++[q]:=⟨_,_,(List.dropLast_concat_getLast hO).symm⟩;clear hO;obtain⟨g0,rfl,hln,hgB,hgl,hownM,hcell⟩:=kz (c:=zh) (sz:=2) (fun _=>rfl) HownY.out;have HownM:=zb hownM;have z0:Y.cell? ⟨g0,M.length*2,none⟩=some (.int .i64 q.1):=hcell 0 (by decide);have z1:Y.cell? ⟨g0,M.length*2+1,none⟩=some (.int .i64 q.2):=hcell 1 (by decide);rw[hln]at hc1 hOl⊢;have hj1:IntKind.i64.wrap ((M.length:Int)+1-1)=(M.length:Int):=by rw[Int.add_sub_cancel];exact IntWalk.i64_in _ (by omega)
    have hj2:(0:Int)<(M.length:Int)+1:=by omega
    have hj3:((M.length:Int)+1).toNat=M.length+1:=by omega
    have hj4:IntKind.i64.wrap (M.length:Int)=(M.length:Int):=IntWalk.i64_in _ (by omega);have hj5:(0:Int)<=(M.length:Int):=Int.natCast_nonneg _;have hj6:(M.length:Int)<(M.length:Int)+1:=by omega
    have J:=zb (And.intro hj1 (And.intro hj2 (And.intro hj3 (And.intro hj4 (And.intro hj5 hj6)))));clear hownM hcell;obtain⟨q1,q2⟩:=q;dsimp only at z0 z1;have HownL:=zb (show Y.ownsRow w.heap.size 25 2 (.slice (some ⟨g0,0,none⟩) (M.length+1) cp) (M++[(q1,q2)]).length ((M++[(q1,q2)]).flatMap zh) by rw[show(M++[(q1,q2)]).length=M.length+1 by simp];exact HownM.out);have Hyc:=zb (show ∀p:ze Y,p.w.cell? ⟨wo.heap.size,0,none⟩=some (.int .i64 x1)/\p.w.cell? ⟨wo.heap.size,1,none⟩=some (.int .i64 x2)from fun p=>by
     have r:=(p.h.block _ hwY).trans HYr.out;exact⟨cell_of_row p.w _ 0 _ _ _ r,cell_of_row p.w _ 1 _ _ _ r⟩);have Hzc:=zb (show ∀p:ze Y,p.w.cell? ⟨g0,M.length*2,none⟩=some (.int .i64 q1)/\p.w.cell? ⟨g0,M.length*2+1,none⟩=some (.int .i64 q2)from fun p=>⟨ze.cell (a:=⟨g0,M.length*2,none⟩) hgl z0 p,ze.cell (a:=⟨g0,M.length*2+1,none⟩) hgl z1 p⟩);have HT1:=zb (show ∀W,Below Y.heap.size Y W->Calls Tryz.prog 146 #[.agg #[.int .i64 q1,.int .i64 q2],.agg #[.int .i64 x1,.int .i64 x2]] W fun e w'=>e=.returned (.bool (decide (q2=x1)))/\Below W.heap.size W w' from fun W hW=>Zi q1 q2 x1 x2 W);have hrr:=Below.refl Y.heap.size Y;have y0:=fun p:ze Y=>(Hyc.out p).1;have y1:=fun p:ze Y=>(Hyc.out p).2;have u0:=fun p:ze Y=>(Hzc.out p).1;have u1:=fun p:ze Y=>(Hzc.out p).2;clear x0 x1c z0 z1;cases htg:decide (q2=x1)with
    |true=>
      rw[htg]at HT1;have Htg:=zb htg;clear htg;refine zl hrr (by kernel_rfl) (by kernel_rfl) ?_;repeat (go_big_quiet_step (first|(go_at_call 146;refine zE (HT1.out _ (ze.h _)) (fun e w' h=>h))))
      refine wpQuiet_nil ?_;intro w2 hw2;have hY2:Below Y.heap.size Y w2:=by obtain⟨pq,rfl⟩:=hw2;exact pq.h
      clear hw2 y0 y1 u0 u1 hrr;have HY2:=zb hY2;have Hown2:=zb (zd HownM.out hY2);have HT2:=zb (show ∀W,Below w2.heap.size w2 W->Calls Tryz.prog 147 #[.agg #[.int .i64 q1,.int .i64 q2],.agg #[.int .i64 x1,.int .i64 x2]] W fun e w'=>e=.returned (.agg #[.int .i64 q1,.int .i64 x2])/\Below W.heap.size W w' from fun W hW=>Zh q1 q2 x1 x2 W);have HC2:=zb (show ∀W,Below w2.heap.size w2 W->(W.cell? ⟨wo.heap.size,0,none⟩=some (.int .i64 x1)/\W.cell? ⟨wo.heap.size,1,none⟩=some (.int .i64 x2))/\(W.cell? ⟨g0,M.length*2,none⟩=some (.int .i64 q1)/\W.cell? ⟨g0,M.length*2+1,none⟩=some (.int .i64 q2))from fun W hW=>by
       have hh:=HY2.out.trans (hW.mono HY2.out.size);exact⟨Hyc.out ⟨W,hh⟩,Hzc.out ⟨W,hh⟩⟩);have HG:=zb (show ∀W,Below w2.heap.size w2 W->W.ownsRow w.heap.size 25 2 (.slice (some ⟨g0,0,none⟩) (M.length+1) cp) (M.length+1) ((M++[(q1,q2)]).flatMap zh)from fun W hW=>zd Hown2.out hW);clear hY2 HT1;go_upto_region 7 with(fail);refine yq (fun W=>Below w2.heap.size w2 W) (fun i v _=>v=(match i with|0=>.slice (some ⟨g0,0,none⟩) (M.length+1) cp|1=>.int .i64 ((M.length:Int)+1)|2=>.int .i64 (M.length:Int)|3=>.func (.func 147) #[] #[]|4=>.slice (some ⟨g0,0,none⟩) (M.length+1) cp|5=>.int .i64 ((M.length:Int)+1)|6=>.int .i64 (M.length:Int)|7=>.pointer (some ⟨g0,M.length*2,none⟩)|8=>.agg #[.int .i64 q1,.int .i64 q2]|9=>.agg #[.int .i64 x1,.int .i64 x2]|10=>.agg #[.int .i64 q1,.int .i64 x2]|11=>.pointer (some ⟨g0,M.length*2,none⟩)|_=>v)) (by kernel_rfl) (by decide) (by kernel_rfl) (Below.refl _ _).drew ?_;generalize hfr:(fun v:Nat->Value=>_)=fr;simp only[List.map_cons,List.map_nil,zC,List.setIfInBounds_toArray,List.set_cons_succ,List.set_cons_zero,Nat.zero_add,Nat.reduceAdd]at hfr;simp only[yY];refine⟨?_,?_,?_,?_,?_,?_,?_,?_,?_,?_,?_,?_,?_⟩;iterate 2
       · intro v w3 hC hd K hK
         rw[<-hfr]at hK⊢;go_simp;exact hK _ _ hC (fun _ _ h=>h) rfl
      · intro v w3 hC hd K hK
        obtain⟨(e1:v 1=_),-⟩:=hd;obtain⟨hj1,hj2,hj3,hj4,hj5,hj6⟩:=J.out;rw[<-hfr]at hK⊢;simp only[e1]at hK⊢;go_simp;exact hK _ _ hC (fun _ _ h=>h) rfl
      iterate 3
       · intro v w3 hC hd K hK
         rw[<-hfr]at hK⊢;go_simp;exact hK _ _ hC (fun _ _ h=>h) rfl
      · intro v w3 hC hd K hK
        obtain⟨(e5:v 5=_),-⟩:=hd;obtain⟨hj1,hj2,hj3,hj4,hj5,hj6⟩:=J.out;rw[<-hfr]at hK⊢;simp only[e5]at hK⊢;go_simp;exact hK _ _ hC (fun _ _ h=>h) rfl
      · intro v w3 hC hd K hK
        obtain⟨(e4:v 4=_),(e6:v 6=_),-⟩:=hd;obtain⟨hj1,hj2,hj3,hj4,hj5,hj6⟩:=J.out;rw[<-hfr]at hK⊢;simp only[e4,e6]at hK⊢;go_simp;exact hK _ _ hC (fun _ _ h=>h) rfl
      · intro v w3 hC hd K hK
        obtain⟨(e7:v 7=_),-⟩:=hd;obtain⟨-,c0,c1⟩:=HC2.out w3 hC;rw[<-hfr]at hK⊢;simp only[e7]at hK⊢;go_simp;exact hK _ _ hC (fun _ _ h=>h) rfl
      · intro v w3 hC hd K hK
        obtain⟨⟨c0,c1⟩,-⟩:=HC2.out w3 hC;rw[<-hfr]at hK⊢;go_simp;exact hK _ _ hC (fun _ _ h=>h) rfl
      · intro v w3 hC hd K hK
        obtain⟨(e3:v 3=_),(e8:v 8=_),(e9:v 9=_),-⟩:=hd;rw[<-hfr]at hK⊢;simp only[e3,e8,e9]at hK⊢;go_simp;refine(HT2.out w3 hC).mono ?_;rintro e w4 ⟨rfl,hb4⟩;exact hK _ _ (hC.trans (hb4.mono hC.size)) (fun _ _ h=>h) rfl
      · intro v w3 hC hd K hK
        obtain⟨(e0:v 0=_),(e2:v 2=_),-⟩:=hd;obtain⟨hj1,hj2,hj3,hj4,hj5,hj6⟩:=J.out;rw[<-hfr]at hK⊢;simp only[e0,e2]at hK⊢;go_simp;exact hK _ _ hC (fun _ _ h=>h) rfl
      intro v w3 hC hall;obtain⟨-,e10,e11⟩:_/\v 10=_/\v 11=_:=⟨trivial,hall.1.2,hall.2⟩;have hownG:=HG.out w3 hC;obtain⟨so,sg⟩:=qI (zh (q1,x2)) _ (M.length*2) _ hownG;rw[show M.length*2=M.length*2+0 from rfl,js (c:=zh) (sz:=2) (fun _=>rfl) M (q1,q2) (q1,x2) 0 (zh (q1,x2)) rfl rfl]at so;refine wp_store_mid _ _ _ rfl g0 (M.length*2) (zh (q1,x2)).toArray (by rw[<-hfr];exact e11) (by rw[<-hfr];exact e10) (kS hownG (M.length*2) 2 (by omega)) (by kernel_rfl) (by simp[zh,Value.oneCell']) ?_;have SO:=zb (show(w3.setCells g0 (M.length*2) (zh (q1,x2)).toArray.toList).ownsRow w.heap.size 25 2 (.slice (some ⟨g0,0,none⟩) (M.length+1) cp) (M++[(q1,x2)]).length ((M++[(q1,x2)]).flatMap zh) by rw[List.length_append,List.length_singleton];exact so);have SB:=zb (show Below w.heap.size w (w3.setCells g0 (M.length*2) (zh (q1,x2)).toArray.toList)from((HbY.out.trans (HY2.out.mono HbY.out.size)).trans (hC.mono (by have:=HY2.out.size;have:=HbY.out.size;omega))).grown sg (by have:=HY2.out.size;have:=HbY.out.size;have:=hC.size;omega) (fun g hg=>by cases hg;exact hgB));rw[<-hfr];generalize (w3.setCells g0 (M.length*2) (zh (q1,x2)).toArray.toList)=w4 at *;clear so sg hownG;generalize v 0=y0,v 1=y1,v 2=y2,v 3=y3,v 4=y4,v 5=y5,v 6=y6,v 7=y7,v 8=y8,v 9=y9,v 10=y10,v 11=y11;clear hfr hall hC e10 e11;have HE:=zb (q8 M (q1,q2) x1 x2 (of_decide_eq_true Htg.out));obtain⟨hj1,hj2,hj3,hj4,hj5,hj6⟩:=J.out;go_wp2;exact⟨⟨k+1,M++[(q1,x2)],by omega,by go_num,zb (by rw[HTk.out,<-HP.out];exact HE.out.symm),SO.out,SB.out⟩,by simp[intOf];omega⟩
    |false=>
      rw[htg]at HT1;have Htg:=zb htg;clear htg;refine zl hrr (by kernel_rfl) (by kernel_rfl) ?_;repeat (go_big_quiet_step (first|(go_at_call 146;refine zE (HT1.out _ (ze.h _)) (fun e w' h=>h))))
      refine wpQuiet_nil ?_;intro w2 hw2;have hY2:Below Y.heap.size Y w2:=by obtain⟨pq,rfl⟩:=hw2;exact pq.h
      clear hw2 y0 y1 u0 u1 hrr hj1 hj2 hj3 hj4 hj5 hj6;have HbA:=zb (HbY.out.trans (hY2.mono HbY.out.size));have HownA:=zb (zd HownL.out hY2);have rA:=(hY2.block _ hwY).trans HYr.out;have c0:=cell_of_row w2 _ 0 _ _ _ rA;have c1:=cell_of_row w2 _ 1 _ _ _ rA;have hbs:=HbA.out.size;have HX:=zb (zi.one (c:=zh) (sz:=2) w2 (x1,x2) 25 #[.int .i64 x1,.int .i64 x2] rfl);clear rA hY2;go_upto_region 8 with(fail);go_wp2_with (at_builtin;refine zX (c:=zh) (sz:=2) (fun _=>rfl) qO 25 85 _ 16 Tryz.underlying85 Tryz.perInfo rfl (by decide) rfl _ _ rfl w.heap.size ?hs _ _ (M++[(q1,q2)]) [(x1,x2)] rfl rfl (HownA.out.alloc _) HX.out ?hl ?hb ?_);case hs=>simp<;>omega
      case hl=>unfold maxLen;simp<;>omega
      case hb=>simp<;>omega
      intro R hR v5 w5 own5 hg5;have HRe:=zb (show R=(M++[(q1,q2)])++[(x1,x2)] by rw[hR.out];first|rfl|simp);have Own5:=zb own5;have Hb5:=zb ((HbA.out.alloc hbs _).grown hg5 (by simp<;>omega) (fun g hg=>(zg HownA.out g hg).1));clear own5 hg5 hR hbs;go_wp2;exact⟨⟨k+1,R,by omega,by go_num,zb (by rw[HRe.out,HTk.out,<-HP.out];exact(q7 M (q1,q2) x1 x2 (of_decide_eq_false Htg.out)).symm),Own5.out,Hb5.out⟩,by simp[intOf];omega⟩
  have HE:=zb (show O=vn L by rw[HP.out,List.take_of_length_le (by omega)]);go_wp2;go_ret;exact⟨_,rfl,by rw[<-HE.out];exact yd.own Hown.out,Hb.out⟩
def MmJ (L:List (Int×SbX)) (w:World) (e:Ending) (w':World):Prop:=∃(a:Option Addr) (c:Nat) (X:List (Int×SbX)),e=.returned (.slice a X.length c)/\w'.ownsRow w.heap.size 239 9 (.slice a X.length c) X.length (X.flatMap ye)/\zY X=jmL (zY L)/\(∀p∈X,p∈L)/\Below w.heap.size w w'
theorem Ke (L:List (Int×SbX)) (k:Nat) (h:k<L.length):jmL ((zY L).take (k+1))=jE (jmL ((zY L).take k)) ((L[k]).1,(L[k]).2.s):=by rw[ZY (zY L) k (by rw[yS];exact h)];unfold zY;rw[List.getElem_map]
theorem Jf (base:Nat) (v:Value) (L:List (Int×SbX)) (w:World) (h:zi ye 9 w v L) (hl:L.length<=10000) (hok:QK base w L):
 Calls Tryz.prog 178 #[v,.func (.func 180) #[] #[],.func (.func 182) #[] #[]] w (MmJ L w):=by
 have HA:=zb h;have HOk:=zb hok;obtain⟨av,cap,rfl,hcl,hcm⟩:=zq h;unfold maxLen at hcm;clear h hok;go_enter Tryz.func178,Tryz.ntmps178;go_wp2_with fail;go_loopw [7,13] (fun vo i wr=>∃(k:Nat) (O:List (Int×SbX)),k<=L.length/\i=.int .i64 k/\RowKit.Hid (zY O=jmL ((zY L).take k)/\∀p∈O,p∈L)/\wr.ownsRow w.heap.size 239 9 vo O.length (O.flatMap ye)/\Below w.heap.size w wr) (fun _ i _=>L.length-(intOf i).toNat);case atStart=>exact⟨0,[],Nat.zero_le _,rfl,zb (⟨rfl,fun p hp=>by cases hp⟩),World.ownsRow_nil _ _ _ _,Below.refl _ _⟩
 case round=>
  obtain⟨wo,rfl⟩:∃wo:World,wo=wr:=⟨_,rfl⟩;obtain⟨k,O,hk,rfl,HP,hown,hb⟩:=hrel;obtain⟨a,cp,rfl,hc1,hc2⟩:=zf hown;unfold maxLen at hc2;have Hown:=zb hown;have Hb:=zb hb;have hOl:O.length<=k:=by rw[<-yS O,HP.out.1];exact Kg _ k (by rw[yS];exact hk)
  by_cases hlt:k<L.length
  · have hk1:(k:Int)<(L.length:Int):=by omega
    have hk0:(0:Int)<=(k:Int):=Int.natCast_nonneg _;have HTk:=zb (Ke L k hlt);have HMem:=zb (List.getElem_mem hlt:L[k]∈L);obtain⟨a2,c2,e2,-,-,hx⟩:=(HA.out.below hb);cases e2;obtain⟨bb,o,rfl,hB,hx⟩:=hx (by rintro rfl;cases hlt);have hx:=hx k hlt;have x0:wo.cell? ⟨bb,o+k*9,none⟩=some (.int .i64 (L[k]).1):=hx 0 (by decide);have x1:wo.cell? ⟨bb,o+k*9+1,none⟩=some (.int .i64 (L[k]).2.s.id):=hx 1 (by decide);have x2:wo.cell? ⟨bb,o+k*9+2,none⟩=some (.int .i64 (L[k]).2.s.ac):=hx 2 (by decide);have x3:wo.cell? ⟨bb,o+k*9+3,none⟩=some (.int .i64 (L[k]).2.s.si):=hx 3 (by decide);have x4:wo.cell? ⟨bb,o+k*9+4,none⟩=some (.string (L[k]).2.s.plan):=hx 4 (by decide);have x5:wo.cell? ⟨bb,o+k*9+5,none⟩=some (.slice (L[k]).2.na (L[k]).2.nn (L[k]).2.nc):=hx 5 (by decide);have x6:wo.cell? ⟨bb,o+k*9+6,none⟩=some (.slice (L[k]).2.pa (L[k]).2.pn (L[k]).2.pc):=hx 6 (by decide);have x7:wo.cell? ⟨bb,o+k*9+7,none⟩=some (.bool (L[k]).2.s.su):=hx 7 (by decide);have x8:wo.cell? ⟨bb,o+k*9+8,none⟩=some (.bool (L[k]).2.s.fa):=hx 8 (by decide);clear hx hB hown hb;generalize L[k]=x at *;obtain⟨Y,hY⟩:∃Y,Y=wo.alloc (Obj.cells #[.int .i64 x.1,.int .i64 x.2.s.id,.int .i64 x.2.s.ac,.int .i64 x.2.s.si,.string x.2.s.plan,.slice x.2.na x.2.nn x.2.nc,.slice x.2.pa x.2.pn x.2.pc,.bool x.2.s.su,.bool x.2.s.fa] 239):=⟨_,rfl⟩;have hbY:Below wo.heap.size wo Y:=by rw[hY];go_grown
    have HYr:=zb (show Y.heap[wo.heap.size]?=some (Obj.cells #[.int .i64 x.1,.int .i64 x.2.s.id,.int .i64 x.2.s.ac,.int .i64 x.2.s.si,.string x.2.s.plan,.slice x.2.na x.2.nn x.2.nc,.slice x.2.pa x.2.pn x.2.pc,.bool x.2.s.su,.bool x.2.s.fa] 239) by rw[hY];exact heap_alloc_new _ _);have HbY:=zb (Hb.out.trans (hbY.mono Hb.out.size));have HownY:=zb (zd Hown.out hbY);have HY:=zb hY;have hwY:wo.heap.size<Y.heap.size:=(zu HYr.out);clear hbY hY;go_upto_region 6 with(fail);rw[<-HY.out];by_cases hO:O=[]
    · subst hO
      have hj0:decide ((0:Int)<0)=false:=by decide
      go_big_quiet (fail);obtain⟨w2,hV⟩:∃w2,w2=Y.drewN nq:=⟨_,rfl⟩;have hY2:Below Y.heap.size Y w2:=by rw[hV];exact zH (Below.refl _ _) _
      rw[<-hV];clear hV x0 x1 x2 x3 x4 x5 x6 x7 x8;have HbA:=zb (HbY.out.trans (hY2.mono HbY.out.size));have HownA:=zb (zd HownY.out hY2);have rA:=(hY2.block _ hwY).trans HYr.out;have c0:w2.cell? ⟨wo.heap.size,0,none⟩=some (.int .i64 x.1):=cell_of_row w2 _ 0 _ _ _ rA;have c1:w2.cell? ⟨wo.heap.size,1,none⟩=some (.int .i64 x.2.s.id):=cell_of_row w2 _ 1 _ _ _ rA;have c2:w2.cell? ⟨wo.heap.size,2,none⟩=some (.int .i64 x.2.s.ac):=cell_of_row w2 _ 2 _ _ _ rA;have c3:w2.cell? ⟨wo.heap.size,3,none⟩=some (.int .i64 x.2.s.si):=cell_of_row w2 _ 3 _ _ _ rA;have c4:w2.cell? ⟨wo.heap.size,4,none⟩=some (.string x.2.s.plan):=cell_of_row w2 _ 4 _ _ _ rA;have c5:w2.cell? ⟨wo.heap.size,5,none⟩=some (.slice x.2.na x.2.nn x.2.nc):=cell_of_row w2 _ 5 _ _ _ rA;have c6:w2.cell? ⟨wo.heap.size,6,none⟩=some (.slice x.2.pa x.2.pn x.2.pc):=cell_of_row w2 _ 6 _ _ _ rA;have c7:w2.cell? ⟨wo.heap.size,7,none⟩=some (.bool x.2.s.su):=cell_of_row w2 _ 7 _ _ _ rA;have c8:w2.cell? ⟨wo.heap.size,8,none⟩=some (.bool x.2.s.fa):=cell_of_row w2 _ 8 _ _ _ rA;have hbs:=HbA.out.size;have HX:=zb (zi.one (c:=ye) (sz:=9) w2 x 239 #[.int .i64 x.1,.int .i64 x.2.s.id,.int .i64 x.2.s.ac,.int .i64 x.2.s.si,.string x.2.s.plan,.slice x.2.na x.2.nn x.2.nc,.slice x.2.pa x.2.pn x.2.pc,.bool x.2.s.su,.bool x.2.s.fa] rfl);clear rA hY2;go_upto_region 8 with(fail);go_wp2_with (at_builtin;refine zX (c:=ye) (sz:=9) (fun _=>rfl) J9 239 236 _ 104 Tryz.underlying236 Tryz.momInfo rfl (by decide) rfl _ _ rfl w.heap.size ?hs _ _ [] [x] rfl rfl (HownA.out.alloc _) HX.out ?hl ?hb ?_);case hs=>simp<;>omega
      case hl=>unfold maxLen;simp<;>omega
      case hb=>simp<;>omega
      intro R hR v5 w5 own5 hg5;have HRe:=zb (show R=[]++[x] by rw[hR.out];first|rfl|simp);have Own5:=zb own5;have Hb5:=zb ((HbA.out.alloc hbs _).grown hg5 (by simp<;>omega) (fun g hg=>(zg HownA.out g hg).1));clear own5 hg5 hR hbs;go_wp2;exact⟨⟨k+1,R,by omega,by go_num,zb (⟨by rw[HRe.out,HTk.out,<-HP.out.1];exact rfl,fun p hp=>by
       rw[HRe.out]at hp;rcases List.mem_append.1 hp with hp|hp;· first|exact HP.out.2 p hp|cases hp
       rw[List.mem_singleton.1 hp];exact HMem.out⟩),Own5.out,Hb5.out⟩,by simp[intOf];omega⟩
    obtain⟨M,q,rfl⟩:∃M q,O=M++[q]:=⟨_,_,(List.dropLast_concat_getLast hO).symm⟩;clear hO;obtain⟨g0,rfl,hln,hgB,hgl,hownM,hcell⟩:=kz (c:=ye) (sz:=9) (fun _=>rfl) HownY.out;have HownM:=zb hownM;have z0:Y.cell? ⟨g0,M.length*9,none⟩=some (.int .i64 q.1):=hcell 0 (by decide);have z1:Y.cell? ⟨g0,M.length*9+1,none⟩=some (.int .i64 q.2.s.id):=hcell 1 (by decide);have z2:Y.cell? ⟨g0,M.length*9+2,none⟩=some (.int .i64 q.2.s.ac):=hcell 2 (by decide);have z3:Y.cell? ⟨g0,M.length*9+3,none⟩=some (.int .i64 q.2.s.si):=hcell 3 (by decide);have z4:Y.cell? ⟨g0,M.length*9+4,none⟩=some (.string q.2.s.plan):=hcell 4 (by decide);have z5:Y.cell? ⟨g0,M.length*9+5,none⟩=some (.slice q.2.na q.2.nn q.2.nc):=hcell 5 (by decide);have z6:Y.cell? ⟨g0,M.length*9+6,none⟩=some (.slice q.2.pa q.2.pn q.2.pc):=hcell 6 (by decide);have z7:Y.cell? ⟨g0,M.length*9+7,none⟩=some (.bool q.2.s.su):=hcell 7 (by decide);have z8:Y.cell? ⟨g0,M.length*9+8,none⟩=some (.bool q.2.s.fa):=hcell 8 (by decide);rw[hln]at hc1 hOl⊢;have hj1:IntKind.i64.wrap ((M.length:Int)+1-1)=(M.length:Int):=by rw[Int.add_sub_cancel];exact IntWalk.i64_in _ (by omega)
    have hj2:(0:Int)<(M.length:Int)+1:=by omega
    have hj3:((M.length:Int)+1).toNat=M.length+1:=by omega
    have hj4:IntKind.i64.wrap (M.length:Int)=(M.length:Int):=IntWalk.i64_in _ (by omega);have hj5:(0:Int)<=(M.length:Int):=Int.natCast_nonneg _;have hj6:(M.length:Int)<(M.length:Int)+1:=by omega
    have J:=zb (And.intro hj1 (And.intro hj2 (And.intro hj3 (And.intro hj4 (And.intro hj5 hj6)))));clear hownM hcell;have HQm:=zb (HP.out.2 q (by simp));have HownL:=zb (show Y.ownsRow w.heap.size 239 9 (.slice (some ⟨g0,0,none⟩) (M.length+1) cp) (M++[q]).length ((M++[q]).flatMap ye) by rw[show(M++[q]).length=M.length+1 by simp];exact HownM.out);have Hyc:=zb (show ∀p:ze Y,p.w.cell? ⟨wo.heap.size,0,none⟩=some (.int .i64 x.1)/\p.w.cell? ⟨wo.heap.size,1,none⟩=some (.int .i64 x.2.s.id)/\p.w.cell? ⟨wo.heap.size,2,none⟩=some (.int .i64 x.2.s.ac)/\p.w.cell? ⟨wo.heap.size,3,none⟩=some (.int .i64 x.2.s.si)/\p.w.cell? ⟨wo.heap.size,4,none⟩=some (.string x.2.s.plan)/\p.w.cell? ⟨wo.heap.size,5,none⟩=some (.slice x.2.na x.2.nn x.2.nc)/\p.w.cell? ⟨wo.heap.size,6,none⟩=some (.slice x.2.pa x.2.pn x.2.pc)/\p.w.cell? ⟨wo.heap.size,7,none⟩=some (.bool x.2.s.su)/\p.w.cell? ⟨wo.heap.size,8,none⟩=some (.bool x.2.s.fa)from fun p=>by
     have r:=(p.h.block _ hwY).trans HYr.out;exact⟨cell_of_row p.w _ 0 _ _ _ r,cell_of_row p.w _ 1 _ _ _ r,cell_of_row p.w _ 2 _ _ _ r,cell_of_row p.w _ 3 _ _ _ r,cell_of_row p.w _ 4 _ _ _ r,cell_of_row p.w _ 5 _ _ _ r,cell_of_row p.w _ 6 _ _ _ r,cell_of_row p.w _ 7 _ _ _ r,cell_of_row p.w _ 8 _ _ _ r⟩);have Hzc:=zb (show ∀p:ze Y,p.w.cell? ⟨g0,M.length*9,none⟩=some (.int .i64 q.1)/\p.w.cell? ⟨g0,M.length*9+1,none⟩=some (.int .i64 q.2.s.id)/\p.w.cell? ⟨g0,M.length*9+2,none⟩=some (.int .i64 q.2.s.ac)/\p.w.cell? ⟨g0,M.length*9+3,none⟩=some (.int .i64 q.2.s.si)/\p.w.cell? ⟨g0,M.length*9+4,none⟩=some (.string q.2.s.plan)/\p.w.cell? ⟨g0,M.length*9+5,none⟩=some (.slice q.2.na q.2.nn q.2.nc)/\p.w.cell? ⟨g0,M.length*9+6,none⟩=some (.slice q.2.pa q.2.pn q.2.pc)/\p.w.cell? ⟨g0,M.length*9+7,none⟩=some (.bool q.2.s.su)/\p.w.cell? ⟨g0,M.length*9+8,none⟩=some (.bool q.2.s.fa)from fun p=>⟨ze.cell (a:=⟨g0,M.length*9,none⟩) hgl z0 p,ze.cell (a:=⟨g0,M.length*9+1,none⟩) hgl z1 p,ze.cell (a:=⟨g0,M.length*9+2,none⟩) hgl z2 p,ze.cell (a:=⟨g0,M.length*9+3,none⟩) hgl z3 p,ze.cell (a:=⟨g0,M.length*9+4,none⟩) hgl z4 p,ze.cell (a:=⟨g0,M.length*9+5,none⟩) hgl z5 p,ze.cell (a:=⟨g0,M.length*9+6,none⟩) hgl z6 p,ze.cell (a:=⟨g0,M.length*9+7,none⟩) hgl z7 p,ze.cell (a:=⟨g0,M.length*9+8,none⟩) hgl z8 p⟩);have HT1:=zb (show ∀W,Below Y.heap.size Y W->Calls Tryz.prog 180 #[jV q,jV x] W fun e w'=>e=.returned (.bool (vG q.2.s x.2.s))/\Below W.heap.size W w' from fun W hW=>QY q x base W ((HOk.out q HQm.out).below (HbY.out.trans (hW.mono HbY.out.size))) ((HOk.out x HMem.out).below (HbY.out.trans (hW.mono HbY.out.size))));have hrr:=Below.refl Y.heap.size Y;have y0:=fun p:ze Y=>(Hyc.out p).1;have u0:=fun p:ze Y=>(Hzc.out p).1;have y1:=fun p:ze Y=>(Hyc.out p).2.1;have u1:=fun p:ze Y=>(Hzc.out p).2.1;have y2:=fun p:ze Y=>(Hyc.out p).2.2.1;have u2:=fun p:ze Y=>(Hzc.out p).2.2.1;have y3:=fun p:ze Y=>(Hyc.out p).2.2.2.1;have u3:=fun p:ze Y=>(Hzc.out p).2.2.2.1;have y4:=fun p:ze Y=>(Hyc.out p).2.2.2.2.1;have u4:=fun p:ze Y=>(Hzc.out p).2.2.2.2.1;have y5:=fun p:ze Y=>(Hyc.out p).2.2.2.2.2.1;have u5:=fun p:ze Y=>(Hzc.out p).2.2.2.2.2.1;have y6:=fun p:ze Y=>(Hyc.out p).2.2.2.2.2.2.1;have u6:=fun p:ze Y=>(Hzc.out p).2.2.2.2.2.2.1;have y7:=fun p:ze Y=>(Hyc.out p).2.2.2.2.2.2.2.1;have u7:=fun p:ze Y=>(Hzc.out p).2.2.2.2.2.2.2.1;have y8:=fun p:ze Y=>(Hyc.out p).2.2.2.2.2.2.2.2;have u8:=fun p:ze Y=>(Hzc.out p).2.2.2.2.2.2.2.2;clear x0 x1 x2 x3 x4 x5 x6 x7 x8 z0 z1 z2 z3 z4 z5 z6 z7 z8;cases htg:vG q.2.s x.2.s with
    |true=>
      rw[htg]at HT1;have Htg:=zb htg;clear htg;refine zl hrr (by kernel_rfl) (by kernel_rfl) ?_;repeat (go_big_quiet_step (first|(go_at_call 180;refine zE (HT1.out _ (ze.h _)) (fun e w' h=>h))))
      refine wpQuiet_nil ?_;intro w2 hw2;have hY2:Below Y.heap.size Y w2:=by obtain⟨pq,rfl⟩:=hw2;exact pq.h
      clear hw2 y0 u0 y1 u1 y2 u2 y3 u3 y4 u4 y5 u5 y6 u6 y7 u7 y8 u8 hrr;have HY2:=zb hY2;have Hown2:=zb (zd HownM.out hY2);have HT2:=zb (show ∀W,Below w2.heap.size w2 W->Calls Tryz.prog 182 #[jV q,jV x] W fun e w'=>e=.returned (jV q)/\Below W.heap.size W w' from fun W hW=>QX q x W);have HC2:=zb (show ∀W,Below w2.heap.size w2 W->(W.cell? ⟨wo.heap.size,0,none⟩=some (.int .i64 x.1)/\W.cell? ⟨wo.heap.size,1,none⟩=some (.int .i64 x.2.s.id)/\W.cell? ⟨wo.heap.size,2,none⟩=some (.int .i64 x.2.s.ac)/\W.cell? ⟨wo.heap.size,3,none⟩=some (.int .i64 x.2.s.si)/\W.cell? ⟨wo.heap.size,4,none⟩=some (.string x.2.s.plan)/\W.cell? ⟨wo.heap.size,5,none⟩=some (.slice x.2.na x.2.nn x.2.nc)/\W.cell? ⟨wo.heap.size,6,none⟩=some (.slice x.2.pa x.2.pn x.2.pc)/\W.cell? ⟨wo.heap.size,7,none⟩=some (.bool x.2.s.su)/\W.cell? ⟨wo.heap.size,8,none⟩=some (.bool x.2.s.fa))/\(W.cell? ⟨g0,M.length*9,none⟩=some (.int .i64 q.1)/\W.cell? ⟨g0,M.length*9+1,none⟩=some (.int .i64 q.2.s.id)/\W.cell? ⟨g0,M.length*9+2,none⟩=some (.int .i64 q.2.s.ac)/\W.cell? ⟨g0,M.length*9+3,none⟩=some (.int .i64 q.2.s.si)/\W.cell? ⟨g0,M.length*9+4,none⟩=some (.string q.2.s.plan)/\W.cell? ⟨g0,M.length*9+5,none⟩=some (.slice q.2.na q.2.nn q.2.nc)/\W.cell? ⟨g0,M.length*9+6,none⟩=some (.slice q.2.pa q.2.pn q.2.pc)/\W.cell? ⟨g0,M.length*9+7,none⟩=some (.bool q.2.s.su)/\W.cell? ⟨g0,M.length*9+8,none⟩=some (.bool q.2.s.fa))from fun W hW=>by
       have hh:=HY2.out.trans (hW.mono HY2.out.size);exact⟨Hyc.out ⟨W,hh⟩,Hzc.out ⟨W,hh⟩⟩);have HG:=zb (show ∀W,Below w2.heap.size w2 W->W.ownsRow w.heap.size 239 9 (.slice (some ⟨g0,0,none⟩) (M.length+1) cp) (M.length+1) ((M++[q]).flatMap ye)from fun W hW=>zd Hown2.out hW);clear hY2 HT1;go_upto_region 7 with(fail);refine yq (fun W=>Below w2.heap.size w2 W) (fun i v _=>v=(match i with|0=>.slice (some ⟨g0,0,none⟩) (M.length+1) cp|1=>.int .i64 ((M.length:Int)+1)|2=>.int .i64 (M.length:Int)|3=>.func (.func 182) #[] #[]|4=>.slice (some ⟨g0,0,none⟩) (M.length+1) cp|5=>.int .i64 ((M.length:Int)+1)|6=>.int .i64 (M.length:Int)|7=>.pointer (some ⟨g0,M.length*9,none⟩)|8=>jV q|9=>jV x|10=>jV q|11=>.pointer (some ⟨g0,M.length*9,none⟩)|_=>v)) (by kernel_rfl) (by decide) (by kernel_rfl) (Below.refl _ _).drew ?_;generalize hfr:(fun v:Nat->Value=>_)=fr;simp only[List.map_cons,List.map_nil,zC,List.setIfInBounds_toArray,List.set_cons_succ,List.set_cons_zero,Nat.zero_add,Nat.reduceAdd]at hfr;simp only[yY];refine⟨?_,?_,?_,?_,?_,?_,?_,?_,?_,?_,?_,?_,?_⟩;iterate 2
       · intro v w3 hC hd K hK
         rw[<-hfr]at hK⊢;go_simp;exact hK _ _ hC (fun _ _ h=>h) rfl
      · intro v w3 hC hd K hK
        obtain⟨(e1:v 1=_),-⟩:=hd;obtain⟨hj1,hj2,hj3,hj4,hj5,hj6⟩:=J.out;rw[<-hfr]at hK⊢;simp only[e1]at hK⊢;go_simp;exact hK _ _ hC (fun _ _ h=>h) rfl
      iterate 3
       · intro v w3 hC hd K hK
         rw[<-hfr]at hK⊢;go_simp;exact hK _ _ hC (fun _ _ h=>h) rfl
      · intro v w3 hC hd K hK
        obtain⟨(e5:v 5=_),-⟩:=hd;obtain⟨hj1,hj2,hj3,hj4,hj5,hj6⟩:=J.out;rw[<-hfr]at hK⊢;simp only[e5]at hK⊢;go_simp;exact hK _ _ hC (fun _ _ h=>h) rfl
      · intro v w3 hC hd K hK
        obtain⟨(e4:v 4=_),(e6:v 6=_),-⟩:=hd;obtain⟨hj1,hj2,hj3,hj4,hj5,hj6⟩:=J.out;rw[<-hfr]at hK⊢;simp only[e4,e6]at hK⊢;go_simp;exact hK _ _ hC (fun _ _ h=>h) rfl
      · intro v w3 hC hd K hK
        obtain⟨(e7:v 7=_),-⟩:=hd;obtain⟨-,c0,c1,c2,c3,c4,c5,c6,c7,c8⟩:=HC2.out w3 hC;rw[<-hfr]at hK⊢;simp only[e7]at hK⊢;go_simp;exact hK _ _ hC (fun _ _ h=>h) rfl
      · intro v w3 hC hd K hK
        obtain⟨⟨c0,c1,c2,c3,c4,c5,c6,c7,c8⟩,-⟩:=HC2.out w3 hC;rw[<-hfr]at hK⊢;go_simp;exact hK _ _ hC (fun _ _ h=>h) rfl
      · intro v w3 hC hd K hK
        obtain⟨(e3:v 3=_),(e8:v 8=_),(e9:v 9=_),-⟩:=hd;rw[<-hfr]at hK⊢;simp only[e3,e8,e9]at hK⊢;go_simp;refine(HT2.out w3 hC).mono ?_;rintro e w4 ⟨rfl,hb4⟩;exact hK _ _ (hC.trans (hb4.mono hC.size)) (fun _ _ h=>h) rfl
      · intro v w3 hC hd K hK
        obtain⟨(e0:v 0=_),(e2:v 2=_),-⟩:=hd;obtain⟨hj1,hj2,hj3,hj4,hj5,hj6⟩:=J.out;rw[<-hfr]at hK⊢;simp only[e0,e2]at hK⊢;go_simp;exact hK _ _ hC (fun _ _ h=>h) rfl
      intro v w3 hC hall;obtain⟨-,e10,e11⟩:_/\v 10=_/\v 11=_:=⟨trivial,hall.1.2,hall.2⟩;have hownG:=HG.out w3 hC;obtain⟨so,sg⟩:=qI (ye q) _ (M.length*9) _ hownG;rw[show M.length*9=M.length*9+0 from rfl,js (c:=ye) (sz:=9) (fun _=>rfl) M q q 0 (ye q) rfl rfl]at so;refine wp_store_mid _ _ _ rfl g0 (M.length*9) (ye q).toArray (by rw[<-hfr];exact e11) (by rw[<-hfr];exact e10) (kS hownG (M.length*9) 9 (by omega)) (by kernel_rfl) (by simp[ye,zK,Value.oneCell']) ?_;have SO:=zb (show(w3.setCells g0 (M.length*9) (ye q).toArray.toList).ownsRow w.heap.size 239 9 (.slice (some ⟨g0,0,none⟩) (M.length+1) cp) (M++[q]).length ((M++[q]).flatMap ye) by rw[List.length_append,List.length_singleton];exact so);have SB:=zb (show Below w.heap.size w (w3.setCells g0 (M.length*9) (ye q).toArray.toList)from((HbY.out.trans (HY2.out.mono HbY.out.size)).trans (hC.mono (by have:=HY2.out.size;have:=HbY.out.size;omega))).grown sg (by have:=HY2.out.size;have:=HbY.out.size;have:=hC.size;omega) (fun g hg=>by cases hg;exact hgB));rw[<-hfr];generalize (w3.setCells g0 (M.length*9) (ye q).toArray.toList)=w4 at *;clear so sg hownG;generalize v 0=y0,v 1=y1,v 2=y2,v 3=y3,v 4=y4,v 5=y5,v 6=y6,v 7=y7,v 8=y8,v 9=y9,v 10=y10,v 11=y11;clear hfr hall hC e10 e11;have HE:=zb (JD (zY M) (q.1,q.2.s) (x.1,x.2.s) Htg.out);obtain⟨hj1,hj2,hj3,hj4,hj5,hj6⟩:=J.out;go_wp2;exact⟨⟨k+1,M++[q],by omega,by go_num,zb (⟨by rw[HTk.out,<-HP.out.1,qy];exact HE.out.symm,HP.out.2⟩),SO.out,SB.out⟩,by simp[intOf];omega⟩
    |false=>
      rw[htg]at HT1;have Htg:=zb htg;clear htg;refine zl hrr (by kernel_rfl) (by kernel_rfl) ?_;repeat (go_big_quiet_step (first|(go_at_call 180;refine zE (HT1.out _ (ze.h _)) (fun e w' h=>h))))
      refine wpQuiet_nil ?_;intro w2 hw2;have hY2:Below Y.heap.size Y w2:=by obtain⟨pq,rfl⟩:=hw2;exact pq.h
      clear hw2 y0 u0 y1 u1 y2 u2 y3 u3 y4 u4 y5 u5 y6 u6 y7 u7 y8 u8 hrr hj1 hj2 hj3 hj4 hj5 hj6;have HbA:=zb (HbY.out.trans (hY2.mono HbY.out.size));have HownA:=zb (zd HownL.out hY2);have rA:=(hY2.block _ hwY).trans HYr.out;have c0:w2.cell? ⟨wo.heap.size,0,none⟩=some (.int .i64 x.1):=cell_of_row w2 _ 0 _ _ _ rA;have c1:w2.cell? ⟨wo.heap.size,1,none⟩=some (.int .i64 x.2.s.id):=cell_of_row w2 _ 1 _ _ _ rA;have c2:w2.cell? ⟨wo.heap.size,2,none⟩=some (.int .i64 x.2.s.ac):=cell_of_row w2 _ 2 _ _ _ rA;have c3:w2.cell? ⟨wo.heap.size,3,none⟩=some (.int .i64 x.2.s.si):=cell_of_row w2 _ 3 _ _ _ rA;have c4:w2.cell? ⟨wo.heap.size,4,none⟩=some (.string x.2.s.plan):=cell_of_row w2 _ 4 _ _ _ rA;have c5:w2.cell? ⟨wo.heap.size,5,none⟩=some (.slice x.2.na x.2.nn x.2.nc):=cell_of_row w2 _ 5 _ _ _ rA;have c6:w2.cell? ⟨wo.heap.size,6,none⟩=some (.slice x.2.pa x.2.pn x.2.pc):=cell_of_row w2 _ 6 _ _ _ rA;have c7:w2.cell? ⟨wo.heap.size,7,none⟩=some (.bool x.2.s.su):=cell_of_row w2 _ 7 _ _ _ rA;have c8:w2.cell? ⟨wo.heap.size,8,none⟩=some (.bool x.2.s.fa):=cell_of_row w2 _ 8 _ _ _ rA;have hbs:=HbA.out.size;have HX:=zb (zi.one (c:=ye) (sz:=9) w2 x 239 #[.int .i64 x.1,.int .i64 x.2.s.id,.int .i64 x.2.s.ac,.int .i64 x.2.s.si,.string x.2.s.plan,.slice x.2.na x.2.nn x.2.nc,.slice x.2.pa x.2.pn x.2.pc,.bool x.2.s.su,.bool x.2.s.fa] rfl);clear rA hY2;go_upto_region 8 with(fail);go_wp2_with (at_builtin;refine zX (c:=ye) (sz:=9) (fun _=>rfl) J9 239 236 _ 104 Tryz.underlying236 Tryz.momInfo rfl (by decide) rfl _ _ rfl w.heap.size ?hs _ _ (M++[q]) [x] rfl rfl (HownA.out.alloc _) HX.out ?hl ?hb ?_);case hs=>simp<;>omega
      case hl=>unfold maxLen;simp<;>omega
      case hb=>simp<;>omega
      intro R hR v5 w5 own5 hg5;have HRe:=zb (show R=(M++[q])++[x] by rw[hR.out];first|rfl|simp);have Own5:=zb own5;have Hb5:=zb ((HbA.out.alloc hbs _).grown hg5 (by simp<;>omega) (fun g hg=>(zg HownA.out g hg).1));clear own5 hg5 hR hbs;go_wp2;exact⟨⟨k+1,R,by omega,by go_num,zb (⟨by rw[HRe.out,HTk.out,<-HP.out.1,qy,qy];exact(JC (zY M) (q.1,q.2.s) (x.1,x.2.s) Htg.out).symm,fun p hp=>by
       rw[HRe.out]at hp;rcases List.mem_append.1 hp with hp|hp;· first|exact HP.out.2 p hp|cases hp
       rw[List.mem_singleton.1 hp];exact HMem.out⟩),Own5.out,Hb5.out⟩,by simp[intOf];omega⟩
  have HE:=zb (show jmL ((zY L).take k)=jmL (zY L) by rw[List.take_of_length_le (by rw[yS];omega)]);go_wp2;go_ret;exact⟨a,cp,O,rfl,Hown.out,HP.out.1.trans HE.out,HP.out.2,Hb.out⟩
def yC (p:Int×Int×SbX):List Value:=[.int .i64 p.1,.int .i64 p.2.1,.string p.2.2.s.plan,.slice p.2.2.pa p.2.2.pn p.2.2.pc,.bool p.2.2.s.su,.bool p.2.2.s.fa]
def VP (p:Int×Int×SbX):Value:=.agg (yC p).toArray
def zV (S:List (Int×Int×SbX)):List Sp:=S.map fun p=>⟨p.1,p.2.1,p.2.2.s⟩
theorem yM (S:List (Int×Int×SbX)):(zV S).length=S.length:=List.length_map _
theorem qH (S:List (Int×Int×SbX)) (p:Int×Int×SbX):zV (S++[p])=zV S++[⟨p.1,p.2.1,p.2.2.s⟩]:=by unfold zV;rw[List.map_append];rfl
theorem VO (p:Int×Int×SbX):∀u∈yC p,u.oneCell'=true:=by intro u hu;unfold yC at hu;simp only[List.mem_cons,List.not_mem_nil,or_false]at hu;rcases hu with rfl|rfl|rfl|rfl|rfl|rfl<;>rfl
theorem Tryz.spellInfo:(Tryz.prog.info? 169).map (fun i=>(i.zero,i.size,i.bytes))=some (some (.agg #[.int .i64 0,.int .i64 0,.string ⟨#[]⟩,.slice none 0 0,.bool false,.bool false]),6,64):=by kernel_rfl
def QH (base:Nat) (w:World) (S:List (Int×Int×SbX)):Prop:=∀p∈S,SbO base w p.2.2
theorem QH.below {base:Nat} {w w':World} {S:List (Int×Int×SbX)} (h:QH base w S) (hb:Below w.heap.size w w'):QH base w' S:=fun p hp=>(h p hp).below hb
theorem SbO.growT {base base':Nat} {w w':World} {x:SbX} (h:SbO base w x) {v:Value} {e:TypeId} {sz n:Nat} {xs:List Value} (ho:w.ownsRow base' e sz v n xs) (he:e≠9) (hg:w.grownBy w' v.ownBlock):SbO base w' x:=
 ⟨vw h.row hg (yk h.row ho he),h.na,h.nn,h.nc,h.nus,h.plan,h.sizes⟩
theorem SbO.down {b b':Nat} {w:World} {x:SbX} (h:SbO b w x) (hb:b'<=b):SbO b' w x:=⟨zx h.row hb,h.na,h.nn,h.nc,h.nus,h.plan,h.sizes⟩
def SpsTo (N:List Sp) (w:World) (e:Ending) (w':World):Prop:=∃(a:Option Addr) (c:Nat) (S:List (Int×Int×SbX)),e=.returned (.slice a S.length c)/\w'.ownsRow w.heap.size 169 6 (.slice a S.length c) S.length (S.flatMap yC)/\zV S=N/\QH w.heap.size w' S/\Below w.heap.size w w'
theorem Yu {α:Type} {c:α->List Value} {sz:Nat} {w:World} {g:Nat} {cs:Array Value} {t:TypeId} {fr:Nat×Nat} (hg:w.heap[g]?=some (.cells cs t fr)) (x:α) (h:cs=(c x).toArray):zi c sz w (.slice (some ⟨g,0,none⟩) 1 1) [x]:=by
 subst h;refine⟨_,1,rfl,Nat.le_refl _,⟨by decide,fun h=>by cases h⟩,fun _=>⟨g,0,rfl,(zu hg),fun i hi=>?_⟩⟩;obtain rfl:i=0:=by simpa using hi
 intro j hj;rw[cell_of_row _ _ _ _ _ _ hg];simp
def XS (Y:World) (gx:Nat) (a:Option Addr) (n cp:Nat) (nx:Int) (x:Int×SbX):Nat->Value->World->Prop
 |0,v,_=>v=.slice a n cp
 |1,v,_=>v=.agg #[.int .i64 x.1,.int .i64 nx]
 |2,v,_=>v=.pointer (some ⟨gx,1,none⟩)
 |3,v,_=>v=.pointer (some ⟨gx,4,none⟩)
 |4,v,_=>v=.string x.2.s.plan
 |5,v,_=>v=.pointer (some ⟨gx,1,none⟩)
 |6,v,_=>v=.pointer (some ⟨gx,6,none⟩)
 |7,v,_=>v=.slice x.2.pa x.2.pn x.2.pc
 |8,v,w=>∃(pa:Option Addr) (pn pc:Nat),v=.slice pa pn pc/\w.ownsRow Y.heap.size 9 1 (.slice pa pn pc) x.2.s.prs.length (x.2.s.prs.flatMap zm)
 |9,v,_=>v=.pointer (some ⟨gx,1,none⟩)
 |10,v,_=>v=.pointer (some ⟨gx,7,none⟩)
 |11,v,_=>v=.bool x.2.s.su
 |12,v,_=>v=.pointer (some ⟨gx,1,none⟩)
 |13,v,_=>v=.pointer (some ⟨gx,8,none⟩)
 |14,v,_=>v=.bool x.2.s.fa
 |15,v,w=>∃(pa:Option Addr) (pn pc:Nat),v=.agg #[.int .i64 x.1,.int .i64 nx,.string x.2.s.plan,.slice pa pn pc,.bool x.2.s.su,.bool x.2.s.fa]/\w.ownsRow Y.heap.size 9 1 (.slice pa pn pc) x.2.s.prs.length (x.2.s.prs.flatMap zm)
 |16,v,w=>∃(g:Nat) (pa:Option Addr) (pn pc:Nat),v=.slice (some ⟨g,0,none⟩) 1 1/\w.heap[g]?=some (.cells #[.int .i64 x.1,.int .i64 nx,.string x.2.s.plan,.slice pa pn pc,.bool x.2.s.su,.bool x.2.s.fa] 169)/\w.ownsRow Y.heap.size 9 1 (.slice pa pn pc) x.2.s.prs.length (x.2.s.prs.flatMap zm)
 |_+17,_,_=>True
theorem zy {Y:World} {gx:Nat} {a:Option Addr} {n cp:Nat} {nx:Int} {x:Int×SbX} {w1 w2:World} (hb:Below w1.heap.size w1 w2):∀j y,XS Y gx a n cp nx x j y w1->XS Y gx a n cp nx x j y w2
 |0,_,h=>h
 |1,_,h=>h
 |2,_,h=>h
 |3,_,h=>h
 |4,_,h=>h
 |5,_,h=>h
 |6,_,h=>h
 |7,_,h=>h
 |9,_,h=>h
 |10,_,h=>h
 |11,_,h=>h
 |12,_,h=>h
 |13,_,h=>h
 |14,_,h=>h
 |8,_,⟨pa,pn,pc,h1,h2⟩=>⟨pa,pn,pc,h1,zd h2 hb⟩
 |15,_,⟨pa,pn,pc,h1,h2⟩=>⟨pa,pn,pc,h1,zd h2 hb⟩
 |16,_,⟨g,pa,pn,pc,h1,h2,h3⟩=>⟨g,pa,pn,pc,h1,(hb.block _ (zu h2)).trans h2,zd h3 hb⟩
 |_+17,_,_=>trivial
theorem Zq (X:List (Int×SbX)) (k:Nat) (h:k<X.length):(zY X)[k]'(by rw[yS];exact h)=((X[k]).1,(X[k]).2.s):=List.getElem_map _
theorem K6 (n:Int) (l:List Ev):∀k,k<=l.length->∀q∈(momF n (l.take k)).1,q.2.prs.length<=k
 |0,_=>fun q hq=>by rw[List.take_zero]at hq;cases hq
 |k+1,hk=>by
   have ih:=K6 n l k (by omega);have h2:=J3 n l (k+1) hk;rw[kC n l k (by omega)]at h2⊢;generalize l[k]'(by omega)=e at h2⊢;unfold kV at h2⊢;split;· intro q hq;have:=ih q hq;omega
   rename_i hc;rw[if_neg hc]at h2;dsimp only at h2⊢;intro q hq;unfold putM at hq;split at hq
   · split at hq
     · rcases List.mem_append.1 hq with hq|hq
       · have:=ih q ((List.dropLast_sublist _).mem hq);omega
       rw[List.mem_singleton.1 hq];exact h2
     rcases List.mem_append.1 hq with hq|hq;· have:=ih q hq;omega
     rw[List.mem_singleton.1 hq];exact h2
   rw[List.mem_singleton.1 hq];exact h2
theorem Wf (M:List (Int×Sb)):∀k,k<=M.length->∀q∈jmL (M.take k),q∈M
 |0,_=>fun q hq=>by rw[List.take_zero]at hq;cases hq
 |k+1,hk=>by
   have ih:=Wf M k (by omega);rw[ZY M k (by omega)];intro q hq;unfold jE at hq;split at hq
   · split at hq
     · exact ih q hq
     rcases List.mem_append.1 hq with hq|hq;· exact ih q hq
     rw[List.mem_singleton.1 hq];exact List.getElem_mem _
   rw[List.mem_singleton.1 hq];exact List.getElem_mem _
theorem ZO (v:Value) (l:List Ev) (n:Int) (w:World) (h:vE w v l) (hl:l.length<=1000):
 Calls Tryz.prog 144 #[v,.int .i64 n] w (SpsTo (ki n l) w):=by
 have HMo:=zb (Jd v l n w h hl);have HMl:=zb (V6 n l l.length (Nat.le_refl _));rw[List.take_of_length_le (Nat.le_refl _)]at HMl;obtain⟨av,cap,rfl,hcl,hcm⟩:=zq h.1;clear h hcl hcm;go_enter Tryz.func144,Tryz.ntmps144;go_wp2_with fail;refine HMo.out.mono ?_;rintro e w1 ⟨a1,c1,X1,rfl,own1,hp1,hok1,hb1⟩;have hX1:X1.length<=1000:=by have h:=HMl.out;rw[<-hp1,yS]at h;omega
 have HJo:=zb (Jf w.heap.size (.slice a1 X1.length c1) X1 w1 (zi.own (fun _=>rfl) own1) (by omega) hok1);have Hp1:=zb hp1;have Hok1:=zb hok1;have Hb1:=zb hb1;clear own1 hp1 hok1 hb1 HMo HMl;go_wp2_with fail;refine HJo.out.mono ?_;rintro e w2 ⟨a2,c2,X,rfl,own2,hp2,hmem,hb2⟩;have HpX:=zb (show zY X=jmL (momF n l).1 by rw[hp2,Hp1.out]);have HokX:=zb (show QK w.heap.size w2 X from fun p hp=>((Hok1.out p (hmem p hp)).below hb2));have HX:=zb (show zi ye 9 w2 (.slice a2 X.length c2) X from zi.own (fun _=>rfl) own2);have HbX:=zb (Hb1.out.trans (hb2.mono Hb1.out.size));have hXl:X.length<=1000:=by have h1:=Kg (zY X1) _ (Nat.le_refl _);rw[List.take_of_length_le (Nat.le_refl _),<-hp2,yS,yS]at h1;omega
 obtain⟨ax,cx,ecx,hcx1,hcx2⟩:=zf own2;cases ecx;unfold maxLen at hcx2;clear own2 hp2 hmem hb2 Hp1 Hok1 Hb1 HJo hX1;go_wp2_with fail;go_loopw [6,16] (fun vo i wr=>∃(k:Nat) (S:List (Int×Int×SbX)),k<=X.length/\i=.int .i64 k/\RowKit.Hid (zV S=qg (zY X) k)/\wr.ownsRow w2.heap.size 169 6 vo S.length (S.flatMap yC)/\QH w2.heap.size wr S/\Below w2.heap.size w2 wr) (fun _ i _=>X.length-(intOf i).toNat);case atStart=>exact⟨0,[],Nat.zero_le _,rfl,zb rfl,World.ownsRow_nil _ _ _ _,(fun p hp=>by cases hp),Below.refl _ _⟩
 case round=>
  obtain⟨wo,rfl⟩:∃wo:World,wo=wr:=⟨_,rfl⟩;obtain⟨k,S,hk,rfl,HP,hown,hok,hb⟩:=hrel;obtain⟨a,cp,rfl,hc1,hc2⟩:=zf hown;unfold maxLen at hc2;have Hown:=zb hown;have Hok:=zb hok;have Hb:=zb hb;have hSl:S.length<=1000:=by have h:=Zp (zY X) k;rw[<-HP.out,yM]at h;omega
  by_cases hlt:k<X.length
  · have hk1:(k:Int)<(X.length:Int):=by omega
    have hk0:(0:Int)<=(k:Int):=Int.natCast_nonneg _;have hlp:k<(zY X).length:=by rw[yS];exact hlt
    have HSu:=zb (show qg (zY X) (k+1)=qg (zY X) k++(if (X[k]).2.s.id=0 then [] else [⟨(X[k]).1,qU (zY X) k,(X[k]).2.s⟩]) by
     rw[uk,ul hlp,Zq X k hlt]);have HPb:=zb (show(X[k]).2.s.prs.length<=1000 by
     have h1:(zY X)[k]'hlp∈jmL (momF n l).1:=by rw[<-HpX.out];exact List.getElem_mem _
     have h2:=Wf (momF n l).1 _ (Nat.le_refl _);rw[List.take_of_length_le (Nat.le_refl _)]at h2;have h3:=K6 n l l.length (Nat.le_refl _);rw[List.take_of_length_le (Nat.le_refl _)]at h3;have h4:=h3 _ (h2 _ h1);rw[Zq X k hlt]at h4;dsimp only at h4
     omega);have HSo:=zb ((HokX.out _ (List.getElem_mem hlt)).below hb);have HXw:=zb (HX.out.below hb);obtain⟨a3,c3,e3,-,-,hx⟩:=HXw.out;cases e3;obtain⟨bb,o,rfl,hB,hx⟩:=hx (by rintro rfl;cases hlt);have HNx:=zb (show ∀h:k+1<X.length,qU (zY X) k=(X[k+1]).1/\wo.cell? ⟨bb,o+(k+1)*9,none⟩=some (.int .i64 (X[k+1]).1)from fun h=>by
     refine⟨?_,hx (k+1) h 0 (by decide)⟩;rw[kB (by rw[yS];exact h),Zq X (k+1) h]);have HNe:=zb (show ¬k+1<X.length->qU (zY X) k=12622780800 from fun h=>Zs (by rw[yS];omega));have hx:=hx k hlt;have x0:wo.cell? ⟨bb,o+k*9,none⟩=some (.int .i64 (X[k]).1):=hx 0 (by decide);have x1:wo.cell? ⟨bb,o+k*9+1,none⟩=some (.int .i64 (X[k]).2.s.id):=hx 1 (by decide);have x2:wo.cell? ⟨bb,o+k*9+2,none⟩=some (.int .i64 (X[k]).2.s.ac):=hx 2 (by decide);have x3:wo.cell? ⟨bb,o+k*9+3,none⟩=some (.int .i64 (X[k]).2.s.si):=hx 3 (by decide);have x4:wo.cell? ⟨bb,o+k*9+4,none⟩=some (.string (X[k]).2.s.plan):=hx 4 (by decide);have x5:wo.cell? ⟨bb,o+k*9+5,none⟩=some (.slice (X[k]).2.na (X[k]).2.nn (X[k]).2.nc):=hx 5 (by decide);have x6:wo.cell? ⟨bb,o+k*9+6,none⟩=some (.slice (X[k]).2.pa (X[k]).2.pn (X[k]).2.pc):=hx 6 (by decide);have x7:wo.cell? ⟨bb,o+k*9+7,none⟩=some (.bool (X[k]).2.s.su):=hx 7 (by decide);have x8:wo.cell? ⟨bb,o+k*9+8,none⟩=some (.bool (X[k]).2.s.fa):=hx 8 (by decide);clear hx hown hok hb hlp;generalize X[k]=x at *;obtain⟨nx,hnx⟩:∃nx,nx=qU (zY X) k:=⟨_,rfl⟩;rw[<-hnx]at HSu HNx HNe;clear hnx;obtain⟨Y,hY⟩:∃Y,Y=wo.alloc (Obj.cells #[.int .i64 x.1,.int .i64 x.2.s.id,.int .i64 x.2.s.ac,.int .i64 x.2.s.si,.string x.2.s.plan,.slice x.2.na x.2.nn x.2.nc,.slice x.2.pa x.2.pn x.2.pc,.bool x.2.s.su,.bool x.2.s.fa] 239):=⟨_,rfl⟩;have hbY:Below wo.heap.size wo Y:=by rw[hY];go_grown
    have HYr:=zb (show Y.heap[wo.heap.size]?=some (Obj.cells #[.int .i64 x.1,.int .i64 x.2.s.id,.int .i64 x.2.s.ac,.int .i64 x.2.s.si,.string x.2.s.plan,.slice x.2.na x.2.nn x.2.nc,.slice x.2.pa x.2.pn x.2.pc,.bool x.2.s.su,.bool x.2.s.fa] 239) by rw[hY];exact heap_alloc_new _ _);have HbYo:=zb hbY;have HbY:=zb (Hb.out.trans (hbY.mono Hb.out.size));have hwY:wo.heap.size<Y.heap.size:=(zu HYr.out);have hBY:bb<Y.heap.size:=by omega
    have HY:=zb hY;clear hbY hY;have y1:Y.cell? ⟨wo.heap.size,1,none⟩=some (.int .i64 x.2.s.id):=cell_of_row Y _ 1 _ _ _ HYr.out;by_cases hid:x.2.s.id=0
    · have hi1:(x.2.s.id==0)=true:=by simp[hid]
      have HE:=zb (show qg (zY X) (k+1)=qg (zY X) k by rw[HSu.out,if_pos hid,List.append_nil]);have HownY:=zb (zd Hown.out HbYo.out);have HokY:=zb (Hok.out.below HbYo.out);clear hid;go_upto_region 6 with(fail);rw[<-HY.out];go_wp2;exact⟨⟨k+1,S,by omega,by go_num,zb (HP.out.trans HE.out.symm),HownY.out,HokY.out,HbY.out⟩,by simp[intOf];omega⟩
    have hi1:(x.2.s.id==0)=false:=by simp[hid]
    have HE:=zb (show qg (zY X) (k+1)=qg (zY X) k++[⟨x.1,nx,x.2.s⟩] by rw[HSu.out,if_neg hid]);have Hid:=zb hid;clear hid HSu;have y0:Y.cell? ⟨wo.heap.size,0,none⟩=some (.int .i64 x.1):=cell_of_row Y _ 0 _ _ _ HYr.out;go_upto_region 6 with(fail);rw[<-HY.out];by_cases hk2:k+1<X.length
    · obtain⟨hn1,hn2⟩:=HNx.out hk2
      have hk3:(k:Int)+1<(X.length:Int):=by omega
      have nxc:(Y.alloc (Obj.cells #[.int .i64 x.1,.int .i64 12622780800] 25)).cell? ⟨bb,o+(k+1)*9,none⟩=some (.int .i64 nx):=by rw[hn1,<-hn2];exact(((Below.refl _ Y).alloc (Nat.le_refl _) _).cell (p:=⟨bb,o+(k+1)*9,none⟩) hBY).trans (HbYo.out.cell (p:=⟨bb,o+(k+1)*9,none⟩) hB)
      have Hn1:=zb hn1;clear hn1 hn2;obtain⟨Y3,hY3⟩:∃Y3,Y3=(Y.alloc (Obj.cells #[.int .i64 x.1,.int .i64 nx] 25)):=⟨_,rfl⟩;have r3:Y3.heap[Y.heap.size]?=some (Obj.cells #[.int .i64 x.1,.int .i64 nx] 25):=by rw[hY3];exact heap_alloc_new _ _
      have hbYY:Below Y.heap.size Y Y3:=by rw[hY3];exact(Below.refl _ _).alloc (Nat.le_refl _) _
      have HR3:=zb r3;have HbYY:=zb hbYY;have HY3:=zb hY3;clear hY3 r3 hbYY;go_upto_region 10 with(fail);clear y0 y1;rw[<-HY3.out];have Hb3:=zb (HbY.out.trans (HbYY.out.mono HbY.out.size));have HbO3:=zb (HbYo.out.trans (HbYY.out.mono HbYo.out.size));have HX3:=zb ((HbYY.out.block _ hwY).trans HYr.out);have HSo3:=zb (HSo.out.below HbO3.out);have h3z:Y.heap.size<Y3.heap.size:=(zu HR3.out);have Hpl:=zb (HSo.out.row.1);have HCx:=zb (show ∀W,Below Y3.heap.size Y3 W->W.cell? ⟨wo.heap.size,4,none⟩=some (.string x.2.s.plan)/\W.cell? ⟨wo.heap.size,6,none⟩=some (.slice x.2.pa x.2.pn x.2.pc)/\W.cell? ⟨wo.heap.size,7,none⟩=some (.bool x.2.s.su)/\W.cell? ⟨wo.heap.size,8,none⟩=some (.bool x.2.s.fa)from fun W hW=>by
       have q:=(hW.block _ (by omega)).trans HX3.out;exact⟨cell_of_row W _ 4 _ _ _ q,cell_of_row W _ 6 _ _ _ q,cell_of_row W _ 7 _ _ _ q,cell_of_row W _ 8 _ _ _ q⟩);have HCp:=zb (show ∀W,Below Y3.heap.size Y3 W->W.cell? ⟨Y.heap.size,0,none⟩=some (.int .i64 x.1)/\W.cell? ⟨Y.heap.size,1,none⟩=some (.int .i64 nx)from fun W hW=>by
       have q:=(hW.block _ h3z).trans HR3.out;exact⟨cell_of_row W _ 0 _ _ _ q,cell_of_row W _ 1 _ _ _ q⟩);refine yi 17 (fun W=>Below Y3.heap.size Y3 W) (XS Y3 wo.heap.size a S.length cp nx x) (by kernel_rfl) (by kernel_rfl) (Below.refl _ _).drew ?_ ?_
      · generalize hfr:(fun v:Nat->Value=>_)=fr
        simp only[List.take_succ_cons,List.take_zero,List.map_cons,List.map_nil,zC,List.setIfInBounds_toArray,List.set_cons_succ,List.set_cons_zero,Nat.zero_add,Nat.reduceAdd]at hfr;simp only[List.take_succ_cons,List.take_zero,yR];refine⟨?_,?_,?_,?_,?_,?_,?_,?_,?_,?_,?_,?_,?_,?_,?_,?_,?_,trivial⟩
        · intro v w3 hC hd K hK
          rw[<-hfr]at hK⊢;go_simp;exact hK _ _ hC (zy (Below.refl _ _)) rfl
        · intro v w3 hC hd K hK
          obtain⟨p0,p1⟩:=HCp.out w3 hC;rw[<-hfr]at hK⊢;go_simp;exact hK _ _ hC (zy (Below.refl _ _)) rfl
        · intro v w3 hC hd K hK
          rw[<-hfr]at hK⊢;go_simp;exact hK _ _ hC (zy (Below.refl _ _)) rfl
        · intro v w3 hC hd K hK
          obtain⟨(e2:v 2=_),-⟩:=hd;rw[<-hfr]at hK⊢;simp only[e2]at hK⊢;go_simp;exact hK _ _ hC (zy (Below.refl _ _)) rfl
        · intro v w3 hC hd K hK
          obtain⟨(e3:v 3=_),-⟩:=hd;obtain⟨k4,k6,k7,k8⟩:=HCx.out w3 hC;rw[<-hfr]at hK⊢;simp only[e3]at hK⊢;go_simp;exact hK _ _ hC (zy (Below.refl _ _)) rfl
        · intro v w3 hC hd K hK
          rw[<-hfr]at hK⊢;go_simp;exact hK _ _ hC (zy (Below.refl _ _)) rfl
        · intro v w3 hC hd K hK
          obtain⟨(e5:v 5=_),-⟩:=hd;rw[<-hfr]at hK⊢;simp only[e5]at hK⊢;go_simp;exact hK _ _ hC (zy (Below.refl _ _)) rfl
        · intro v w3 hC hd K hK
          obtain⟨(e6:v 6=_),-⟩:=hd;obtain⟨k4,k6,k7,k8⟩:=HCx.out w3 hC;rw[<-hfr]at hK⊢;simp only[e6]at hK⊢;go_simp;exact hK _ _ hC (zy (Below.refl _ _)) rfl
        · intro v w3 hC hd K hK
          obtain⟨(e7:v 7=_),-⟩:=hd;have hXs:=qw (HSo3.out.below hC).strs;have hpl2:x.2.s.prs.length<=140737488355328 / 16:=by have:=HPb.out;omega
          refine zZ (c:=zm) (sz:=1) (fun _=>rfl) JV 9 58 _ 16 Tryz.underlying58 Tryz.strInfo rfl (by decide) rfl _ _ rfl Y3.heap.size hC.size none _ x.2.s.prs rfl (by rw[<-hfr];exact e7) (World.ownsRow_nil _ _ _ _) hXs (by unfold maxLen;omega) (by omega) (fun v' w' h1 h2=>?_);obtain⟨pa,pc,rfl,-,-⟩:=zf h1;exact hK _ _ (hC.trans (h2.mono hC.size)) (zy h2) ⟨pa,_,pc,rfl,h1⟩
        · intro v w3 hC hd K hK
          rw[<-hfr]at hK⊢;go_simp;exact hK _ _ hC (zy (Below.refl _ _)) rfl
        · intro v w3 hC hd K hK
          obtain⟨(e9:v 9=_),-⟩:=hd;rw[<-hfr]at hK⊢;simp only[e9]at hK⊢;go_simp;exact hK _ _ hC (zy (Below.refl _ _)) rfl
        · intro v w3 hC hd K hK
          obtain⟨(e10:v 10=_),-⟩:=hd;obtain⟨k4,k6,k7,k8⟩:=HCx.out w3 hC;rw[<-hfr]at hK⊢;simp only[e10]at hK⊢;go_simp;exact hK _ _ hC (zy (Below.refl _ _)) rfl
        · intro v w3 hC hd K hK
          rw[<-hfr]at hK⊢;go_simp;exact hK _ _ hC (zy (Below.refl _ _)) rfl
        · intro v w3 hC hd K hK
          obtain⟨(e12:v 12=_),-⟩:=hd;rw[<-hfr]at hK⊢;simp only[e12]at hK⊢;go_simp;exact hK _ _ hC (zy (Below.refl _ _)) rfl
        · intro v w3 hC hd K hK
          obtain⟨(e13:v 13=_),-⟩:=hd;obtain⟨k4,k6,k7,k8⟩:=HCx.out w3 hC;rw[<-hfr]at hK⊢;simp only[e13]at hK⊢;go_simp;exact hK _ _ hC (zy (Below.refl _ _)) rfl
        · intro v w3 hC hd K hK
          obtain⟨(e1:v 1=_),(e4:v 4=_),f8,f11,f14,-⟩:=hd;obtain⟨pa,pn,pc,e8,ho⟩:∃(pa:Option Addr) (pn pc:Nat),v 8=.slice pa pn pc/\w3.ownsRow Y3.heap.size 9 1 (.slice pa pn pc) x.2.s.prs.length (x.2.s.prs.flatMap zm):=f8;have e11:v 11=_:=f11;have e14:v 14=_:=f14;have Ho:=zb ho;clear ho;rw[<-hfr]at hK⊢;simp only[e1,e4,e8,e11,e14]at hK⊢;go_simp;exact hK _ _ hC (zy (Below.refl _ _)) ⟨pa,pn,pc,rfl,Ho.out⟩
        intro v w3 hC hd K hK;obtain⟨f15,-⟩:=hd;obtain⟨pa,pn,pc,e15,ho⟩:∃(pa:Option Addr) (pn pc:Nat),v 15=.agg #[.int .i64 x.1,.int .i64 nx,.string x.2.s.plan,.slice pa pn pc,.bool x.2.s.su,.bool x.2.s.fa]/\w3.ownsRow Y3.heap.size 9 1 (.slice pa pn pc) x.2.s.prs.length (x.2.s.prs.flatMap zm):=f15;have Ho:=zb ho;clear ho;rw[<-hfr]at hK⊢;simp only[e15]at hK⊢;go_simp;exact hK _ _ (hC.alloc hC.size _) (zy ((Below.refl _ _).alloc (Nat.le_refl _) _)) ⟨_,pa,pn,pc,rfl,heap_alloc_new _ _,zd Ho.out ((Below.refl _ _).alloc (Nat.le_refl _) _)⟩
      intro v w3 hC hall;obtain⟨g,pa,pn,pc,e16,hg,ho⟩:∃(g:Nat) (pa:Option Addr) (pn pc:Nat),v 16=.slice (some ⟨g,0,none⟩) 1 1/\w3.heap[g]?=some (.cells #[.int .i64 x.1,.int .i64 nx,.string x.2.s.plan,.slice pa pn pc,.bool x.2.s.su,.bool x.2.s.fa] 169)/\w3.ownsRow Y3.heap.size 9 1 (.slice pa pn pc) x.2.s.prs.length (x.2.s.prs.flatMap zm):=hall.2;have e0:v 0=.slice a S.length cp:=hall.1.1.1.1.1.1.1.1.1.1.1.1.1.1.1.1.2;have HownW:=zb (zd Hown.out (HbO3.out.trans (hC.mono HbO3.out.size)));have HokW:=zb (Hok.out.below (HbO3.out.trans (hC.mono HbO3.out.size)));have HbW:=zb (Hb3.out.trans (hC.mono Hb3.out.size));have hbs:=HbW.out.size;have hb3s:=Hb3.out.size;have HXE:=zb (Yu (c:=yC) (sz:=6) hg (x.1,nx,⟨x.2.s,none,0,0,pa,pn,pc⟩) rfl);have HSn:=zb (show SbO w2.heap.size w3 ⟨x.2.s,none,0,0,pa,pn,pc⟩ from⟨zx ho hb3s,rfl,rfl,rfl,HSo.out.nus,HSo.out.plan,HSo.out.sizes⟩);simp only[List.take_succ_cons,List.take_zero,List.map_cons,List.map_nil,zC,List.setIfInBounds_toArray,List.set_cons_succ,List.set_cons_zero,Nat.zero_add,Nat.reduceAdd,List.drop_succ_cons,List.drop_zero];simp only[e0,e16];clear hg ho hC hall;generalize v 1=u1,v 2=u2,v 3=u3,v 4=u4,v 5=u5,v 6=u6,v 7=u7,v 8=u8,v 9=u9,v 10=u10,v 11=u11,v 12=u12,v 13=u13,v 14=u14,v 15=u15;clear e0 e16;go_wp2_with (at_builtin;refine zX (c:=yC) (sz:=6) (fun _=>rfl) VO 169 171 _ 64 Tryz.underlying171 Tryz.spellInfo rfl (by decide) rfl _ _ rfl w2.heap.size hbs _ _ S [(x.1,nx,⟨x.2.s,none,0,0,pa,pn,pc⟩)] rfl rfl HownW.out HXE.out ?hl1 ?hb1 ?_);case hl1=>unfold maxLen;(try simp);omega
      case hb1=>(try simp);omega
      intro R hR v5 w5 own5 hg5;have HRe:=zb hR.out;have HR5:=zb (show QH w2.heap.size w5 R from fun p hp=>by
       rw[HRe.out]at hp;rcases List.mem_append.1 hp with hp|hp;· exact(HokW.out p hp).growT HownW.out (by decide) hg5
       rw[List.mem_singleton.1 hp];exact HSn.out.growT HownW.out (by decide) hg5);have Hb5:=zb (HbW.out.grown hg5 hbs (fun g hg=>(zg HownW.out g hg).1));have Own5:=zb own5;have HPf:=zb (show zV R=qg (zY X) (k+1) by rw[HRe.out,qH,HE.out,HP.out]);clear own5 hg5 hR;go_wp2;exact⟨⟨k+1,R,by omega,by go_num,HPf,Own5.out,HR5.out,Hb5.out⟩,by simp[intOf];omega⟩
    have Hn1:=zb (HNe.out hk2);have hk3:¬((k:Int)+1<(X.length:Int)):=by omega
    obtain⟨Y3,hY3⟩:∃Y3,Y3=(Y.alloc (Obj.cells #[.int .i64 x.1,.int .i64 12622780800] 25)):=⟨_,rfl⟩;have r3:Y3.heap[Y.heap.size]?=some (Obj.cells #[.int .i64 x.1,.int .i64 nx] 25):=by rw[hY3];rw[Hn1.out];exact heap_alloc_new _ _
    have hbYY:Below Y.heap.size Y Y3:=by rw[hY3];exact(Below.refl _ _).alloc (Nat.le_refl _) _
    have HR3:=zb r3;have HbYY:=zb hbYY;have HY3:=zb hY3;clear hY3 r3 hbYY;go_upto_region 10 with(fail);clear y0 y1;rw[<-HY3.out];have Hb3:=zb (HbY.out.trans (HbYY.out.mono HbY.out.size));have HbO3:=zb (HbYo.out.trans (HbYY.out.mono HbYo.out.size));have HX3:=zb ((HbYY.out.block _ hwY).trans HYr.out);have HSo3:=zb (HSo.out.below HbO3.out);have h3z:Y.heap.size<Y3.heap.size:=(zu HR3.out);have Hpl:=zb (HSo.out.row.1);have HCx:=zb (show ∀W,Below Y3.heap.size Y3 W->W.cell? ⟨wo.heap.size,4,none⟩=some (.string x.2.s.plan)/\W.cell? ⟨wo.heap.size,6,none⟩=some (.slice x.2.pa x.2.pn x.2.pc)/\W.cell? ⟨wo.heap.size,7,none⟩=some (.bool x.2.s.su)/\W.cell? ⟨wo.heap.size,8,none⟩=some (.bool x.2.s.fa)from fun W hW=>by
     have q:=(hW.block _ (by omega)).trans HX3.out;exact⟨cell_of_row W _ 4 _ _ _ q,cell_of_row W _ 6 _ _ _ q,cell_of_row W _ 7 _ _ _ q,cell_of_row W _ 8 _ _ _ q⟩);have HCp:=zb (show ∀W,Below Y3.heap.size Y3 W->W.cell? ⟨Y.heap.size,0,none⟩=some (.int .i64 x.1)/\W.cell? ⟨Y.heap.size,1,none⟩=some (.int .i64 nx)from fun W hW=>by
     have q:=(hW.block _ h3z).trans HR3.out;exact⟨cell_of_row W _ 0 _ _ _ q,cell_of_row W _ 1 _ _ _ q⟩);refine yi 17 (fun W=>Below Y3.heap.size Y3 W) (XS Y3 wo.heap.size a S.length cp nx x) (by kernel_rfl) (by kernel_rfl) (Below.refl _ _).drew ?_ ?_
    · generalize hfr:(fun v:Nat->Value=>_)=fr
      simp only[List.take_succ_cons,List.take_zero,List.map_cons,List.map_nil,zC,List.setIfInBounds_toArray,List.set_cons_succ,List.set_cons_zero,Nat.zero_add,Nat.reduceAdd]at hfr;simp only[List.take_succ_cons,List.take_zero,yR];refine⟨?_,?_,?_,?_,?_,?_,?_,?_,?_,?_,?_,?_,?_,?_,?_,?_,?_,trivial⟩
      · intro v w3 hC hd K hK
        rw[<-hfr]at hK⊢;go_simp;exact hK _ _ hC (zy (Below.refl _ _)) rfl
      · intro v w3 hC hd K hK
        obtain⟨p0,p1⟩:=HCp.out w3 hC;rw[<-hfr]at hK⊢;go_simp;exact hK _ _ hC (zy (Below.refl _ _)) rfl
      · intro v w3 hC hd K hK
        rw[<-hfr]at hK⊢;go_simp;exact hK _ _ hC (zy (Below.refl _ _)) rfl
      · intro v w3 hC hd K hK
        obtain⟨(e2:v 2=_),-⟩:=hd;rw[<-hfr]at hK⊢;simp only[e2]at hK⊢;go_simp;exact hK _ _ hC (zy (Below.refl _ _)) rfl
      · intro v w3 hC hd K hK
        obtain⟨(e3:v 3=_),-⟩:=hd;obtain⟨k4,k6,k7,k8⟩:=HCx.out w3 hC;rw[<-hfr]at hK⊢;simp only[e3]at hK⊢;go_simp;exact hK _ _ hC (zy (Below.refl _ _)) rfl
      · intro v w3 hC hd K hK
        rw[<-hfr]at hK⊢;go_simp;exact hK _ _ hC (zy (Below.refl _ _)) rfl
      · intro v w3 hC hd K hK
        obtain⟨(e5:v 5=_),-⟩:=hd;rw[<-hfr]at hK⊢;simp only[e5]at hK⊢;go_simp;exact hK _ _ hC (zy (Below.refl _ _)) rfl
      · intro v w3 hC hd K hK
        obtain⟨(e6:v 6=_),-⟩:=hd;obtain⟨k4,k6,k7,k8⟩:=HCx.out w3 hC;rw[<-hfr]at hK⊢;simp only[e6]at hK⊢;go_simp;exact hK _ _ hC (zy (Below.refl _ _)) rfl
      · intro v w3 hC hd K hK
        obtain⟨(e7:v 7=_),-⟩:=hd;have hXs:=qw (HSo3.out.below hC).strs;have hpl2:x.2.s.prs.length<=140737488355328 / 16:=by have:=HPb.out;omega
        refine zZ (c:=zm) (sz:=1) (fun _=>rfl) JV 9 58 _ 16 Tryz.underlying58 Tryz.strInfo rfl (by decide) rfl _ _ rfl Y3.heap.size hC.size none _ x.2.s.prs rfl (by rw[<-hfr];exact e7) (World.ownsRow_nil _ _ _ _) hXs (by unfold maxLen;omega) (by omega) (fun v' w' h1 h2=>?_);obtain⟨pa,pc,rfl,-,-⟩:=zf h1;exact hK _ _ (hC.trans (h2.mono hC.size)) (zy h2) ⟨pa,_,pc,rfl,h1⟩
      · intro v w3 hC hd K hK
        rw[<-hfr]at hK⊢;go_simp;exact hK _ _ hC (zy (Below.refl _ _)) rfl
      · intro v w3 hC hd K hK
        obtain⟨(e9:v 9=_),-⟩:=hd;rw[<-hfr]at hK⊢;simp only[e9]at hK⊢;go_simp;exact hK _ _ hC (zy (Below.refl _ _)) rfl
      · intro v w3 hC hd K hK
        obtain⟨(e10:v 10=_),-⟩:=hd;obtain⟨k4,k6,k7,k8⟩:=HCx.out w3 hC;rw[<-hfr]at hK⊢;simp only[e10]at hK⊢;go_simp;exact hK _ _ hC (zy (Below.refl _ _)) rfl
      · intro v w3 hC hd K hK
        rw[<-hfr]at hK⊢;go_simp;exact hK _ _ hC (zy (Below.refl _ _)) rfl
      · intro v w3 hC hd K hK
        obtain⟨(e12:v 12=_),-⟩:=hd;rw[<-hfr]at hK⊢;simp only[e12]at hK⊢;go_simp;exact hK _ _ hC (zy (Below.refl _ _)) rfl
      · intro v w3 hC hd K hK
        obtain⟨(e13:v 13=_),-⟩:=hd;obtain⟨k4,k6,k7,k8⟩:=HCx.out w3 hC;rw[<-hfr]at hK⊢;simp only[e13]at hK⊢;go_simp;exact hK _ _ hC (zy (Below.refl _ _)) rfl
      · intro v w3 hC hd K hK
        obtain⟨(e1:v 1=_),(e4:v 4=_),f8,f11,f14,-⟩:=hd;obtain⟨pa,pn,pc,e8,ho⟩:∃(pa:Option Addr) (pn pc:Nat),v 8=.slice pa pn pc/\w3.ownsRow Y3.heap.size 9 1 (.slice pa pn pc) x.2.s.prs.length (x.2.s.prs.flatMap zm):=f8;have e11:v 11=_:=f11;have e14:v 14=_:=f14;have Ho:=zb ho;clear ho;rw[<-hfr]at hK⊢;simp only[e1,e4,e8,e11,e14]at hK⊢;go_simp;exact hK _ _ hC (zy (Below.refl _ _)) ⟨pa,pn,pc,rfl,Ho.out⟩
      intro v w3 hC hd K hK;obtain⟨f15,-⟩:=hd;obtain⟨pa,pn,pc,e15,ho⟩:∃(pa:Option Addr) (pn pc:Nat),v 15=.agg #[.int .i64 x.1,.int .i64 nx,.string x.2.s.plan,.slice pa pn pc,.bool x.2.s.su,.bool x.2.s.fa]/\w3.ownsRow Y3.heap.size 9 1 (.slice pa pn pc) x.2.s.prs.length (x.2.s.prs.flatMap zm):=f15;have Ho:=zb ho;clear ho;rw[<-hfr]at hK⊢;simp only[e15]at hK⊢;go_simp;exact hK _ _ (hC.alloc hC.size _) (zy ((Below.refl _ _).alloc (Nat.le_refl _) _)) ⟨_,pa,pn,pc,rfl,heap_alloc_new _ _,zd Ho.out ((Below.refl _ _).alloc (Nat.le_refl _) _)⟩
    intro v w3 hC hall;obtain⟨g,pa,pn,pc,e16,hg,ho⟩:∃(g:Nat) (pa:Option Addr) (pn pc:Nat),v 16=.slice (some ⟨g,0,none⟩) 1 1/\w3.heap[g]?=some (.cells #[.int .i64 x.1,.int .i64 nx,.string x.2.s.plan,.slice pa pn pc,.bool x.2.s.su,.bool x.2.s.fa] 169)/\w3.ownsRow Y3.heap.size 9 1 (.slice pa pn pc) x.2.s.prs.length (x.2.s.prs.flatMap zm):=hall.2;have e0:v 0=.slice a S.length cp:=hall.1.1.1.1.1.1.1.1.1.1.1.1.1.1.1.1.2;have HownW:=zb (zd Hown.out (HbO3.out.trans (hC.mono HbO3.out.size)));have HokW:=zb (Hok.out.below (HbO3.out.trans (hC.mono HbO3.out.size)));have HbW:=zb (Hb3.out.trans (hC.mono Hb3.out.size));have hbs:=HbW.out.size;have hb3s:=Hb3.out.size;have HXE:=zb (Yu (c:=yC) (sz:=6) hg (x.1,nx,⟨x.2.s,none,0,0,pa,pn,pc⟩) rfl);have HSn:=zb (show SbO w2.heap.size w3 ⟨x.2.s,none,0,0,pa,pn,pc⟩ from⟨zx ho hb3s,rfl,rfl,rfl,HSo.out.nus,HSo.out.plan,HSo.out.sizes⟩);simp only[List.take_succ_cons,List.take_zero,List.map_cons,List.map_nil,zC,List.setIfInBounds_toArray,List.set_cons_succ,List.set_cons_zero,Nat.zero_add,Nat.reduceAdd,List.drop_succ_cons,List.drop_zero];simp only[e0,e16];clear hg ho hC hall;generalize v 1=u1,v 2=u2,v 3=u3,v 4=u4,v 5=u5,v 6=u6,v 7=u7,v 8=u8,v 9=u9,v 10=u10,v 11=u11,v 12=u12,v 13=u13,v 14=u14,v 15=u15;clear e0 e16;go_wp2_with (at_builtin;refine zX (c:=yC) (sz:=6) (fun _=>rfl) VO 169 171 _ 64 Tryz.underlying171 Tryz.spellInfo rfl (by decide) rfl _ _ rfl w2.heap.size hbs _ _ S [(x.1,nx,⟨x.2.s,none,0,0,pa,pn,pc⟩)] rfl rfl HownW.out HXE.out ?hl2 ?hb2 ?_);case hl2=>unfold maxLen;(try simp);omega
    case hb2=>(try simp);omega
    intro R hR v5 w5 own5 hg5;have HRe:=zb hR.out;have HR5:=zb (show QH w2.heap.size w5 R from fun p hp=>by
     rw[HRe.out]at hp;rcases List.mem_append.1 hp with hp|hp;· exact(HokW.out p hp).growT HownW.out (by decide) hg5
     rw[List.mem_singleton.1 hp];exact HSn.out.growT HownW.out (by decide) hg5);have Hb5:=zb (HbW.out.grown hg5 hbs (fun g hg=>(zg HownW.out g hg).1));have Own5:=zb own5;have HPf:=zb (show zV R=qg (zY X) (k+1) by rw[HRe.out,qH,HE.out,HP.out]);clear own5 hg5 hR;go_wp2;exact⟨⟨k+1,R,by omega,by go_num,HPf,Own5.out,HR5.out,Hb5.out⟩,by simp[intOf];omega⟩
  have HE:=zb (show qg (zY X) k=ki n l by
   have e:k=X.length:=by omega
   have e2:X.length=(zY X).length:=(yS X).symm;unfold ki;rw[e,e2,HpX.out]);go_wp2;go_ret;exact⟨a,cp,S,rfl,zx Hown.out HbX.out.size,HP.out.trans HE.out,fun p hp=>(Hok.out p hp).down HbX.out.size,HbX.out.trans (Hb.out.mono HbX.out.size)⟩
theorem EV {s:ByteArray} {N:List ByteArray} {k:Nat} (h:k<N.length) (h1:(N.take k).any (fun a=>yt a s)=false) (h2:yt N[k] s=false):(N.take (k+1)).any (fun a=>yt a s)=false:=by rw[List.take_succ_eq_append_getElem h,List.any_append,h1];simp[h2]
theorem Zk (p:Int×Int×SbX) (s:ByteArray) (gb base:Nat) (w:World) (h:SbO base w p.2.2) (hgb:gb<w.heap.size) (hc:w.cell? ⟨gb,0,none⟩=some (.string s)):
 Calls Tryz.prog 108 #[VP p,.pointer (some ⟨gb,0,none⟩)] w fun e w'=>e=.returned (.bool (hasT s p.2.2.s))/\Below w.heap.size w w':=by
 obtain⟨f,t,⟨⟨i1,i2,i3,i4,nus,prs,su,fa⟩,na,nn,nc,pa,pn,pc⟩⟩:=p;have hst:=h.strs;dsimp only at hst;obtain⟨W,hW⟩:∃W,W=w.alloc (Obj.cells #[.int .i64 f,.int .i64 t,.string i4,.slice pa pn pc,.bool su,.bool fa] 169):=⟨_,rfl⟩;have hw0:Below w.heap.size w W:=by rw[hW];go_grown
 have r0:W.heap[w.heap.size]?=some (Obj.cells #[.int .i64 f,.int .i64 t,.string i4,.slice pa pn pc,.bool su,.bool fa] 169):=by rw[hW];exact heap_alloc_new _ _
 have x3:=cell_of_row W _ 3 _ _ _ r0;have c0:W.cell? ⟨gb,0,none⟩=some (.string s):=(hw0.cell (p:=⟨gb,0,none⟩) hgb).trans hc;have HS:=zb (hst.below hw0);have Hb:=zb hw0;have HW:=zb hW;obtain⟨a1,c1,e1,hl1,hm1,-⟩:=hst;cases e1;have hm1:=hm1.1;unfold maxLen at hm1;have HH:=zb (show hasT s ⟨i1,i2,i3,i4,nus,prs,su,fa⟩=prs.any (fun a=>yt a s)from rfl);unfold VP yC;dsimp only;clear hW hw0 r0 hc h;go_enter Tryz.func108,Tryz.ntmps108;go_upto_region 1 with(fail);rw[<-HW.out];go_wp2_with fail;go_loop [9] (fun i=>∃k:Nat,k<=prs.length/\i=.int .i64 k/\(prs.take k).any (fun a=>yt a s)=false) (fun i=>prs.length-(intOf i).toNat);case atStart=>exact⟨0,Nat.zero_le _,rfl,rfl⟩
 case round=>
  obtain⟨k,hk,rfl,hn⟩:=hrel;have Hn:=zb hn;clear hn;by_cases hlt:k<prs.length
  · obtain⟨av2,cap2,ee,-,-,hxx⟩:=HS.out
    cases ee;obtain⟨b1,o1,rfl,hB1,hxx⟩:=hxx (by rintro rfl;cases hlt);obtain⟨u0,-⟩:=hxx k hlt;rw[Nat.mul_one]at u0;have hk0:(0:Int)<=(k:Int):=Int.natCast_nonneg _;have hk1:(k:Int)<(prs.length:Int):=by omega
    have HT:=zb (fun h=>EV hlt Hn.out h);have HY:=zb (fun h=>Vx (p:=fun a=>yt a s) hlt h);clear hxx;generalize prs[k]=p at *;cases hq:yt p s with
    |true=>have HE:=zb (HY.out hq);have hq1:(p.toList==s.toList)=true:=hq;clear HT HY hq;go_wp2;go_ret;exact⟨zo (by rw[HH.out,HE.out]),Hb.out⟩
    |false=>have HE:=zb (HT.out hq);have hq1:(p.toList==s.toList)=false:=hq;clear HT HY hq;go_wp2;exact⟨⟨k+1,by omega,by go_num,HE.out⟩,by simp[intOf];omega⟩
  have HE:=zb (Vy (p:=fun a=>yt a s) (Nat.le_of_not_lt hlt) Hn.out);go_wp2;go_ret;exact⟨zo (by rw[HH.out,HE.out]),Hb.out⟩
theorem Zx (k:Sp->Bool) (S:List Sp) (j:Nat) (h:j<S.length):ql k (S.take (j+1))=ql k (S.take j)++(if k S[j]=true then [((S[j]).f,(S[j]).t)] else []):=by
 unfold ql;rw[List.take_succ_eq_append_getElem h,List.filter_append,List.map_append]
 congr 1
 cases hb:k S[j]<;>simp[hb]
theorem Yw (k:Sp->Bool) (S:List Sp):(ql k S).length<=S.length:=by unfold ql;rw[List.length_map];exact List.length_filter_le _ _
theorem ur (S:List (Int×Int×SbX)) (k:Nat) (h:k<S.length):(zV S)[k]'(by rw[yM];exact h)=⟨(S[k]).1,(S[k]).2.1,(S[k]).2.2.s⟩:=List.getElem_map _
theorem Ko (v:Value) (l:List Ev) (n:Int) (s:ByteArray) (gb:Nat) (w:World) (h:vE w v l) (hl:l.length<=1000) (hgb:gb<w.heap.size) (hc:w.cell? ⟨gb,0,none⟩=some (.string s)):
 Calls Tryz.prog 107 #[v,.int .i64 n,.func (.func 108) #[] #[.pointer (some ⟨gb,0,none⟩)]] w (jF w (actL n s l)):=by
 have HSp:=zb (ZO v l n w h hl);have HSl:=zb (YS n l);have Hc:=zb hc;obtain⟨av,cap,rfl,hcl,hcm⟩:=zq h.1;clear h hcl hcm hc;go_enter Tryz.func107,Tryz.ntmps107;go_wp2_with fail;refine HSp.out.mono ?_;rintro e w2 ⟨a2,c2,S,rfl,own2,hp2,hok2,hb2⟩;have hSl:S.length<=1000:=by have h:=HSl.out;rw[<-hp2,yM]at h;omega
 obtain⟨ax,cx,ecx,hcx1,hcx2⟩:=zf own2;cases ecx;unfold maxLen at hcx2;have HpS:=zb hp2;have HokS:=zb hok2;have HS:=zb (show zi yC 6 w2 (.slice a2 S.length c2) S from zi.own (fun _=>rfl) own2);have Hb2:=zb hb2;have Hc2:=zb (show w2.cell? ⟨gb,0,none⟩=some (.string s)from(hb2.cell (p:=⟨gb,0,none⟩) hgb).trans Hc.out);have hgb2:gb<w2.heap.size:=Nat.lt_of_lt_of_le hgb hb2.size;clear own2 hp2 hok2 hb2 HSp HSl hgb Hc;go_wp2_with fail;go_loopw [7,14] (fun vo i wr=>∃(k:Nat) (O:List (Int×Int)),k<=S.length/\i=.int .i64 k/\RowKit.Hid (O=ql (fun a=>hasT s a.s) ((zV S).take k))/\wr.ownsRow w2.heap.size 25 2 vo O.length (O.flatMap zh)/\Below w2.heap.size w2 wr) (fun _ i _=>S.length-(intOf i).toNat);case atStart=>exact⟨0,[],Nat.zero_le _,rfl,zb rfl,World.ownsRow_nil _ _ _ _,Below.refl _ _⟩
 case round=>
  obtain⟨wo,rfl⟩:∃wo:World,wo=wr:=⟨_,rfl⟩;obtain⟨k,O,hk,rfl,HP,hown,hb⟩:=hrel;obtain⟨a,cp,rfl,hc1,hc2⟩:=zf hown;unfold maxLen at hc2;have Hown:=zb hown;have Hb:=zb hb;have hOl:O.length<=1000:=by have h:=Yw (fun a=>hasT s a.s) ((zV S).take k);rw[<-HP.out,List.length_take]at h;omega
  by_cases hlt:k<S.length
  · have hk1:(k:Int)<(S.length:Int):=by omega
    have hk0:(0:Int)<=(k:Int):=Int.natCast_nonneg _;have HTk:=zb (Zx (fun a=>hasT s a.s) (zV S) k (by rw[yM];exact hlt));rw[ur S k hlt]at HTk;have HSo:=zb ((HokS.out _ (List.getElem_mem hlt)).below hb);have HSw:=zb (HS.out.below hb);obtain⟨a3,c3,e3,-,-,hx⟩:=HSw.out;cases e3;obtain⟨bb,o,rfl,hB,hx⟩:=hx (by rintro rfl;cases hlt);have hx:=hx k hlt;have x0:wo.cell? ⟨bb,o+k*6,none⟩=some (.int .i64 (S[k]).1):=hx 0 (by decide);have x1:wo.cell? ⟨bb,o+k*6+1,none⟩=some (.int .i64 (S[k]).2.1):=hx 1 (by decide);have x2:wo.cell? ⟨bb,o+k*6+2,none⟩=some (.string (S[k]).2.2.s.plan):=hx 2 (by decide);have x3:wo.cell? ⟨bb,o+k*6+3,none⟩=some (.slice (S[k]).2.2.pa (S[k]).2.2.pn (S[k]).2.2.pc):=hx 3 (by decide);have x4:wo.cell? ⟨bb,o+k*6+4,none⟩=some (.bool (S[k]).2.2.s.su):=hx 4 (by decide);have x5:wo.cell? ⟨bb,o+k*6+5,none⟩=some (.bool (S[k]).2.2.s.fa):=hx 5 (by decide);clear hx hown;generalize S[k]=x at *;obtain⟨Y,hY⟩:∃Y,Y=wo.alloc (Obj.cells #[.int .i64 x.1,.int .i64 x.2.1,.string x.2.2.s.plan,.slice x.2.2.pa x.2.2.pn x.2.2.pc,.bool x.2.2.s.su,.bool x.2.2.s.fa] 169):=⟨_,rfl⟩;have hbY:Below wo.heap.size wo Y:=by rw[hY];go_grown
    have HYr:=zb (show Y.heap[wo.heap.size]?=some (Obj.cells #[.int .i64 x.1,.int .i64 x.2.1,.string x.2.2.s.plan,.slice x.2.2.pa x.2.2.pn x.2.2.pc,.bool x.2.2.s.su,.bool x.2.2.s.fa] 169) by rw[hY];exact heap_alloc_new _ _);have HbYo:=zb hbY;have HbY:=zb (Hb.out.trans (hbY.mono Hb.out.size));have HCall:=zb (Zk x s gb w.heap.size Y (HSo.out.below hbY) (Nat.lt_of_lt_of_le hgb2 (Nat.le_trans Hb.out.size hbY.size)) ((HbY.out.cell (p:=⟨gb,0,none⟩) hgb2).trans Hc2.out));have HY:=zb hY;have hwY:wo.heap.size<Y.heap.size:=(zu HYr.out);clear hbY hY hb;have y0:Y.cell? ⟨wo.heap.size,0,none⟩=some (.int .i64 x.1):=cell_of_row Y _ 0 _ _ _ HYr.out;have y1:Y.cell? ⟨wo.heap.size,1,none⟩=some (.int .i64 x.2.1):=cell_of_row Y _ 1 _ _ _ HYr.out;have y2:Y.cell? ⟨wo.heap.size,2,none⟩=some (.string x.2.2.s.plan):=cell_of_row Y _ 2 _ _ _ HYr.out;have y3:Y.cell? ⟨wo.heap.size,3,none⟩=some (.slice x.2.2.pa x.2.2.pn x.2.2.pc):=cell_of_row Y _ 3 _ _ _ HYr.out;have y4:Y.cell? ⟨wo.heap.size,4,none⟩=some (.bool x.2.2.s.su):=cell_of_row Y _ 4 _ _ _ HYr.out;have y5:Y.cell? ⟨wo.heap.size,5,none⟩=some (.bool x.2.2.s.fa):=cell_of_row Y _ 5 _ _ _ HYr.out;go_upto_region 5 with(fail);rw[<-HY.out];go_wp2_with fail;refine HCall.out.mono ?_;rintro e w3 ⟨rfl,hb3⟩;have HY3:=zb ((hb3.block _ hwY).trans HYr.out);have Hb3:=zb (HbY.out.trans (hb3.mono HbY.out.size));have Hown3:=zb (zd Hown.out (HbYo.out.trans (hb3.mono HbYo.out.size)));clear hb3 x0 x1 x2 x3 x4 x5 y0 y1 y2 y3 y4 y5;cases hh:hasT s x.2.2.s with
    |false=>have HE:=zb (show O=ql (fun a=>hasT s a.s) ((zV S).take (k+1)) by rw[HTk.out,HP.out,hh,if_neg (by decide),List.append_nil]);clear hh;go_wp2;exact⟨⟨k+1,O,by omega,by go_num,HE,Hown3.out,Hb3.out⟩,by simp[intOf];omega⟩
    |true=>
      have HE:=zb (show O++[(x.1,x.2.1)]=ql (fun a=>hasT s a.s) ((zV S).take (k+1)) by rw[HTk.out,HP.out,hh,if_pos rfl]);clear hh;have z0:w3.cell? ⟨wo.heap.size,0,none⟩=some (.int .i64 x.1):=cell_of_row w3 _ 0 _ _ _ HY3.out;have z1:w3.cell? ⟨wo.heap.size,1,none⟩=some (.int .i64 x.2.1):=cell_of_row w3 _ 1 _ _ _ HY3.out;have HX:=zb (zi.one (c:=zh) (sz:=2) w3 (x.1,x.2.1) 25 #[.int .i64 x.1,.int .i64 x.2.1] rfl);have hbs:=Hb3.out.size;go_wp2_with (at_builtin;refine zX (c:=zh) (sz:=2) (fun _=>rfl) qO 25 85 _ 16 Tryz.underlying85 Tryz.perInfo rfl (by decide) rfl _ _ rfl w2.heap.size ?hs _ _ O [(x.1,x.2.1)] rfl rfl (Hown3.out.alloc _) HX.out ?hl ?hb ?_);case hs=>simp<;>omega
      case hl=>unfold maxLen;simp<;>omega
      case hb=>simp<;>omega
      intro R hR v5 w5 own5 hg5;have HRe:=zb (hR.out.trans HE.out);have Own5:=zb own5;have Hb5:=zb ((Hb3.out.alloc hbs _).grown hg5 (by simp<;>omega) (fun g hg=>(zg Hown3.out g hg).1));clear own5 hg5 hR hbs;go_wp2;exact⟨⟨k+1,R,by omega,by go_num,HRe,Own5.out,Hb5.out⟩,by simp[intOf];omega⟩
  have HE:=zb (show vn O=actL n s l by
   have e:k=(zV S).length:=by rw[yM];omega
   rw[HP.out,e,List.take_of_length_le (Nat.le_refl _),HpS.out];rfl);have HJ:=zb (Je (.slice a O.length cp) O wo (zi.own (fun _=>rfl) Hown.out) (by omega));clear hown hb;go_wp2_with fail;refine HJ.out.mono ?_;rintro e w3 ⟨v3,rfl,hp3,hb3⟩;have Hp3:=zb hp3;have Hb3:=zb (Hb2.out.trans ((Hb.out.trans (hb3.mono Hb.out.size)).mono Hb2.out.size));clear hp3 hb3;go_wp2;go_ret;exact⟨_,rfl,by rw[<-HE.out];exact Hp3.out,Hb3.out⟩
theorem KD (v:Value) (l:List Ev) (n:Int) (s:ByteArray) (w:World) (h:vE w v l) (hl:l.length<=1000):
 Calls Tryz.prog 68 #[v,.int .i64 n,.string s] w (jF w (actL n s l)):=by
 obtain⟨W,hW⟩:∃W,W=w.alloc (Obj.cells #[Value.string s] 9):=⟨_,rfl⟩;have hw0:Below w.heap.size w W:=by rw[hW];go_grown
 have r0:W.heap[w.heap.size]?=some (Obj.cells #[Value.string s] 9):=by rw[hW];exact heap_alloc_new _ _
 have HD:=zb (Ko v l n s w.heap.size W (h.below hw0) hl (zu r0) (cell_of_row W _ 0 _ _ _ r0));have HW:=zb hW;have Hw0:=zb hw0;obtain⟨av,cap,rfl,hcl,hcm⟩:=zq h.1;clear h hW hw0 r0 hcl hcm;go_enter Tryz.func68,Tryz.ntmps68;go_upto_region 1 with(fail);rw[<-HW.out];go_wp2_with fail;refine HD.out.mono ?_;rintro e w3 ⟨v3,rfl,hp3,hb3⟩;have Hp3:=zb hp3;have Hb3:=zb (Hw0.out.trans (hb3.mono Hw0.out.size));clear hp3 hb3;go_wp2;go_ret;exact⟨_,rfl,Hp3.out,Hb3.out⟩
theorem QB {a b:List ByteArray} (h:¬a=b):qr a b=false:=by
 cases hq:qr a b with
 |false=>rfl
 |true=>exact absurd ((jC _ _).1 hq) h
theorem VU (v1 v2:Value) (a b:List ByteArray) (w:World) (h1:zR w v1 a) (h2:zR w v2 b):
 Calls Tryz.prog 184 #[v1,v2] w fun e w'=>e=.returned (.bool (qr a b))/\Below w.heap.size w w':=by
 have HX:=zb h1;have HY:=zb h2;obtain⟨a1,c1,rfl,hl1,hm1,-⟩:=h1;obtain⟨a2,c2,rfl,hl2,hm2,-⟩:=h2;have hm1:=hm1.1;have hm2:=hm2.1;unfold maxLen at hm1 hm2;by_cases hl:a.length=b.length
 · have hll:(a.length:Int)<=(b.length:Int):=by omega
   have hq1:((a.length:Int)==(b.length:Int))=true:=beq_iff_eq.2 (by omega);have hq2:((a.length:Int) != (b.length:Int))=false:=by rw[bne,hq1];rfl
   have Hl:=zb hl;clear hl;go_enter Tryz.func184,Tryz.ntmps184;go_wp2_with fail;go_loopw [5] (fun i wr=>∃k:Nat,k<=a.length/\i=.int .i64 k/\RowKit.Hid (a.take k=b.take k)/\Below w.heap.size w wr) (fun i _=>a.length-(intOf i).toNat);case atStart=>exact⟨0,Nat.zero_le _,rfl,zb rfl,Below.refl _ _⟩
   case round=>
    obtain⟨k,hk,rfl,Hn,hb⟩:=hrel;by_cases hlt:k<a.length
    · have hlt2:k<b.length:=by have:=Hl.out;omega
      obtain⟨av2,cap2,ee,-,-,hxx⟩:=HX.out.below hb;cases ee;obtain⟨b1,o1,rfl,hB1,hxx⟩:=hxx (by rintro rfl;cases hlt);obtain⟨u0,-⟩:=hxx k hlt;obtain⟨av3,cap3,ee,-,-,hyy⟩:=HY.out.below hb;cases ee;obtain⟨b2,o2,rfl,hB2,hyy⟩:=hyy (by rintro rfl;cases hlt2);obtain⟨v0,-⟩:=hyy k hlt2;rw[Nat.mul_one]at u0 v0;have hk0:(0:Int)<=(k:Int):=Int.natCast_nonneg _;have hk1:(k:Int)<(a.length:Int):=by omega
      have hk2:(k:Int)<(b.length:Int):=by omega
      have HS:=zb (fun h=>YQ hlt hlt2 Hn.out h);have HN:=zb (fun h=>@xA _ a b k hlt hlt2 h);have Hb:=zb hb;clear hxx hyy hb hB1 hB2 hq1 hq2;generalize a[k]=p at *;generalize b[k]=q at *;by_cases hpq:p=q
      · have HE:=zb (HS.out hpq)
        have hq1:(p.toList==q.toList)=true:=(zI p q).2 hpq;have hq2:(p.toList != q.toList)=false:=by rw[bne,hq1];rfl
        clear HS HN hpq;go_wp2_with fail;go_quiet (fail);go_wp2;exact⟨⟨k+1,by omega,by go_num,HE,zH Hb.out _⟩,by simp[intOf];omega⟩
      have HE:=zb (QB (HN.out hpq));have hq1:(p.toList==q.toList)=false:=by
       cases hq:(p.toList==q.toList)with
       |false=>rfl
       |true=>exact absurd ((zI p q).1 hq) hpq
      have hq2:(p.toList != q.toList)=true:=by rw[bne,hq1];rfl
      clear HS HN hpq;go_wp2_with fail;go_quiet (fail);go_wp2;go_ret;exact⟨zo HE.out.symm,zH Hb.out _⟩
    have HE:=zb (show qr a b=true from(jC _ _).2 (YO Hl.out (Nat.le_of_not_lt hlt) Hn.out));have Hb:=zb hb;clear hb hq1 hq2;go_wp2;go_ret;exact⟨zo HE.out.symm,Hb.out⟩
 have HE:=zb (show qr a b=false from QB (fun h=>hl (by rw[h])));have hq1:((a.length:Int)==(b.length:Int))=false:=beq_eq_false_iff_ne.2 (by omega);have hq2:((a.length:Int) != (b.length:Int))=true:=by rw[bne,hq1];rfl
 clear hl;go_enter Tryz.func184,Tryz.ntmps184;go_wp2;go_ret;exact⟨zo HE.out.symm,Below.refl _ _⟩
theorem XE {a b:Sb} (h1:a.plan=b.plan) (h2:a.su=b.su) (h3:a.fa=b.fa):yX a b=qr a.prs b.prs:=by unfold yX;rw[h1,h2,h3,(zI _ _).2 rfl];simp
theorem ZJ {a b:Sb} (h:¬(a.plan=b.plan/\a.su=b.su/\a.fa=b.fa)):yX a b=false:=by
 cases hq:yX a b with
 |false=>rfl
 |true=>unfold yX at hq;simp only[Bool.and_eq_true,beq_iff_eq]at hq;exact absurd ⟨(zI _ _).1 hq.1.1.1,hq.1.1.2,hq.1.2⟩ h
theorem Jr (p q:Int×Int×SbX) (w:World) (h1:zR w (.slice p.2.2.pa p.2.2.pn p.2.2.pc) p.2.2.s.prs) (h2:zR w (.slice q.2.2.pa q.2.2.pn q.2.2.pc) q.2.2.s.prs):
 Calls Tryz.prog 149 #[VP p,VP q] w fun e w'=>e=.returned (.bool (yX p.2.2.s q.2.2.s))/\Below w.heap.size w w':=by
 have HT:=zb (fun W (hW:Below w.heap.size w W)=>VU _ _ _ _ W (h1.below hW) (h2.below hW));obtain⟨f,t,⟨⟨i1,i2,i3,i4,nus,prs,su,fa⟩,na,nn,nc,pa,pn,pc⟩⟩:=p;obtain⟨g,u,⟨⟨j1,j2,j3,j4,mus,qrs,tu,ga⟩,ma,mn,mc,qa,qn,qc⟩⟩:=q;dsimp only at HT;obtain⟨W,hW,r0,r1,hw0,hz⟩:=vd w (Obj.cells #[.int .i64 f,.int .i64 t,.string i4,.slice pa pn pc,.bool su,.bool fa] 169) (Obj.cells #[.int .i64 g,.int .i64 u,.string j4,.slice qa qn qc,.bool tu,.bool ga] 169);unfold VP yC;dsimp only;have HW:=zb hW;have Hb:=zb hw0;have x2:=cell_of_row W _ 2 _ _ _ r0;have y2:=cell_of_row W _ 2 _ _ _ r1;have x3:=cell_of_row W _ 3 _ _ _ r0;have y3:=cell_of_row W _ 3 _ _ _ r1;have x4:=cell_of_row W _ 4 _ _ _ r0;have y4:=cell_of_row W _ 4 _ _ _ r1;have x5:=cell_of_row W _ 5 _ _ _ r0;have y5:=cell_of_row W _ 5 _ _ _ r1;clear hW r0 r1 hw0 hz h1 h2;by_cases e2:i4=j4
 · have p2:(i4.toList==j4.toList)=true:=(zI i4 j4).2 e2
   have E2:=zb e2;clear e2;by_cases e3:su=tu
   · have p3:(su==tu)=true:=beq_iff_eq.2 e3
     have E3:=zb e3;clear e3;by_cases e4:fa=ga
     · have p4:(fa==ga)=true:=beq_iff_eq.2 e4
       have E4:=zb e4;clear e4;have HE:=zb (show yX ⟨i1,i2,i3,i4,nus,prs,su,fa⟩ ⟨j1,j2,j3,j4,mus,qrs,tu,ga⟩=qr prs qrs from XE E2.out E3.out E4.out);go_enter Tryz.func149,Tryz.ntmps149;go_upto_region 1 with(fail);rw[<-HW.out];go_wp2_with fail;refine(HT.out W Hb.out).mono ?_;rintro e w2 ⟨rfl,hb2⟩;have Hb2:=zb (Hb.out.trans (hb2.mono Hb.out.size));clear hb2;go_wp2;go_ret;exact⟨zo HE.out.symm,Hb2.out⟩
     have p4:(fa==ga)=false:=beq_eq_false_iff_ne.2 e4;have HE:=zb (show yX ⟨i1,i2,i3,i4,nus,prs,su,fa⟩ ⟨j1,j2,j3,j4,mus,qrs,tu,ga⟩=false from ZJ (fun h=>e4 h.2.2));clear e4;go_enter Tryz.func149,Tryz.ntmps149;go_upto_region 1 with(fail);rw[<-HW.out];go_wp2;go_ret;exact⟨zo HE.out.symm,Hb.out⟩
   have p3:(su==tu)=false:=beq_eq_false_iff_ne.2 e3;have HE:=zb (show yX ⟨i1,i2,i3,i4,nus,prs,su,fa⟩ ⟨j1,j2,j3,j4,mus,qrs,tu,ga⟩=false from ZJ (fun h=>e3 h.2.1));clear e3;go_enter Tryz.func149,Tryz.ntmps149;go_upto_region 1 with(fail);rw[<-HW.out];go_wp2;go_ret;exact⟨zo HE.out.symm,Hb.out⟩
 have p2:(i4.toList==j4.toList)=false:=(by cases hq:(i4.toList==j4.toList)with|false=>rfl|true=>exact absurd ((zI i4 j4).1 hq) e2);have HE:=zb (show yX ⟨i1,i2,i3,i4,nus,prs,su,fa⟩ ⟨j1,j2,j3,j4,mus,qrs,tu,ga⟩=false from ZJ (fun h=>e2 h.1));clear e2;go_enter Tryz.func149,Tryz.ntmps149;go_upto_region 1 with(fail);rw[<-HW.out];go_wp2;go_ret;exact⟨zo HE.out.symm,Hb.out⟩
structure SpE (w:World) (o:Value) (p:Int×Int×SbX):Prop where
 st:zR w (.slice p.2.2.pa p.2.2.pn p.2.2.pc) p.2.2.s.prs
 pl:p.2.2.s.plan.size<=maxLen
 sp:qF p.2.2.pa
 off:p.2.2.s.prs≠[]->∀ad,p.2.2.pa=some ad->o.ownBlock≠some ad.block
theorem SpE.below {w w':World} {o:Value} {p:Int×Int×SbX} (h:SpE w o p) (hb:Below w.heap.size w w'):SpE w' o p:=⟨h.st.below hb,h.pl,h.sp,h.off⟩
theorem SpE.turn {w w':World} {o o':Value} {p:Int×Int×SbX} (h:SpE w o p) (hg:w.grownBy w' o.ownBlock) (ho:∀g,o'.ownBlock=some g->o.ownBlock=some g\/w.heap.size<=g):SpE w' o' p:=by
 by_cases hne:p.2.2.s.prs=[]
 · refine⟨?_,h.pl,h.sp,fun h=>absurd hne h⟩
   obtain⟨av,cap,e,h1,h2,-⟩:=h.st;rw[e,hne];rw[hne]at h1;exact⟨av,cap,rfl,h1,h2,fun h=>absurd rfl h⟩
 obtain⟨av,cap,e,h1,h2,h3⟩:=h.st;obtain⟨b,o2,e2,hB,hx⟩:=h3 hne;have hpa:p.2.2.pa=some ⟨b,o2,none⟩:=by simp only[Value.slice.injEq]at e;rw[e.1,e2]
 have hoff:=h.off hne _ hpa;have hbl:w'.heap[b]?=w.heap[b]?:=hg.block b hB (fun e=>hoff e.symm);refine⟨⟨av,cap,e,h1,h2,fun _=>⟨b,o2,e2,Nat.lt_of_lt_of_le hB hg.size,fun i hi=>⟨(World.cell?_of_block (a:=⟨b,_,none⟩) hbl).trans (hx i hi).1,(hx i hi).2⟩⟩⟩,h.pl,h.sp,fun _ ad had hq=>?_⟩;rw[hpa]at had;cases had;rcases ho b hq with h|h;· exact hoff h
 omega
theorem KZ (S:List (Int×Int×SbX)) (q p:Int×Int×SbX) (h1:q.2.1=p.1) (h2:yX q.2.2.s p.2.2.s=true):zV (S++[(q.1,p.2.1,q.2.2)])=jT (zV (S++[q])) p.1 p.2.1 p.2.2.s:=by rw[qH,qH,Jv _ ⟨q.1,q.2.1,q.2.2.s⟩ _ _ _ h1 h2]
theorem Y0 (S:List (Int×Int×SbX)) (q p:Int×Int×SbX) (h:¬(q.2.1=p.1/\yX q.2.2.s p.2.2.s=true)):zV (S++[q]++[p])=jT (zV (S++[q])) p.1 p.2.1 p.2.2.s:=by rw[qH,qH,Ju _ ⟨q.1,q.2.1,q.2.2.s⟩ _ _ _ h]
def RSpTo (N:List Sp) (w:World) (e:Ending) (w':World):Prop:=∃(a:Option Addr) (c:Nat) (S:List (Int×Int×SbX)),e=.returned (.slice a S.length c)/\w'.ownsRow w.heap.size 169 6 (.slice a S.length c) S.length (S.flatMap yC)/\zV S=N/\(∀p∈S,SpE w' (.slice a S.length c) p)/\Below w.heap.size w w'
theorem Q1 (v:Value) (l:List Ev) (n:Int) (w:World) (h:vE w v l) (hl:l.length<=1000) (hr:yp l):
 Calls Tryz.prog 109 #[v,.int .i64 n] w (RSpTo (rspL n l l.length) w):=by
 have HA:=zb h;have Hr:=zb hr;have Hll:=zb (VW n l);obtain⟨av,cap,rfl,hcl,hcm⟩:=zq h.1;unfold maxLen at hcm;clear h hr;go_enter Tryz.func109,Tryz.ntmps109;go_wp2_with fail;go_loopw [5,6] (fun vo i wr=>∃(k:Nat) (S:List (Int×Int×SbX)),k<=l.length/\i=.int .i64 k/\RowKit.Hid (zV S=rspL n l k)/\wr.ownsRow w.heap.size 169 6 vo S.length (S.flatMap yC)/\RowKit.Hid (∀p∈S,SpE wr vo p)/\Below w.heap.size w wr) (fun _ i _=>l.length-(intOf i).toNat);case atStart=>exact⟨0,[],Nat.zero_le _,rfl,zb rfl,World.ownsRow_nil _ _ _ _,zb (fun p hp=>by cases hp),Below.refl _ _⟩
 case round=>
  obtain⟨wo,rfl⟩:∃wo:World,wo=wr:=⟨_,rfl⟩;obtain⟨k,S,hk,rfl,HP,hown,HE,hb⟩:=hrel;obtain⟨a,cp,rfl,hc1,hc2⟩:=zf hown;unfold maxLen at hc2;have Hown:=zb hown;have Hb:=zb hb;have hSl:S.length<=1000:=by have h:=Hll.out k;rw[<-HP.out,yM]at h;omega
  by_cases hlt:k<l.length
  · have hk1:(k:Int)<(l.length:Int):=by omega
    have hk0:(0:Int)<=(k:Int):=Int.natCast_nonneg _;have HSu:=zb (Ys n l k);have HSe:=zb (fun h=>VV n l (rspL n l k) k hlt h);have HSn:=zb (fun h=>ZU n l (rspL n l k) k hlt h);have HSs:=zb (fun h1 s h2=>@J0 n l (rspL n l k) k hlt h1 s h2);have HAw:=zb (HA.out.below hb);obtain⟨a2,c2,e2,-,-,hx⟩:=HAw.out.1;cases e2;obtain⟨bb,o,rfl,hB,hx⟩:=hx (by rintro rfl;cases hlt);have x0:wo.cell? ⟨bb,o+k*7,none⟩=some (.int .i64 (l[k]).tm):=hx k hlt 0 (by decide);have HNx:=zb (show ∀h:k+1<l.length,toAt l k=(l[k+1]).tm/\wo.cell? ⟨bb,o+(k+1)*7,none⟩=some (.int .i64 (l[k+1]).tm)from fun h=>⟨JS h,hx (k+1) h 0 (by decide)⟩);have HNe:=zb (show ¬k+1<l.length->toAt l k=12622780800 from fun h=>KN (by omega));have HRn:=zb (fun(W:World) (hW:Below wo.heap.size wo W) (href:refS (zQ (yG l (l[k]).tm)) n=none)=>WT _ l n (l[k]).tm W (HAw.out.below hW) hl Hr.out href);have HRs:=zb (fun(W:World) (hW:Below wo.heap.size wo W) (q:Sb) (href:refS (zQ (yG l (l[k]).tm)) n=some q)=>WS _ l n (l[k]).tm W (HAw.out.below hW) hl Hr.out q href);clear hx hown;generalize (l[k]).tm=fr at *;obtain⟨tz,hto⟩:∃tz,tz=toAt l k:=⟨_,rfl⟩;rw[<-hto]at HSe HSs HNx HNe;clear hto;generalize hrf:refS (zQ (yG l fr)) n=rf at *;clear hrf;have HRn:=zb (fun h=>HRn.out wo (Below.refl _ _) h);have HRs:=zb (fun q h=>HRs.out wo (Below.refl _ _) q h);by_cases hk2:k+1<l.length;case' pos=>
     obtain⟨hn1,hn2⟩:=HNx.out hk2;have hk3:(k:Int)+1<(l.length:Int):=by omega
     have nxc:wo.cell? ⟨bb,o+(k+1)*7,none⟩=some (.int .i64 tz):=by rw[hn1,<-hn2]
     clear hn1 hn2 HNx HNe hb;go_upto_region 8 with(fail)
    case' neg=>
     have Hn1:=zb (HNe.out hk2);have hk3:¬((k:Int)+1<(l.length:Int)):=by omega
     clear HNx HNe hb;go_upto_region 8 with(fail);rw[<-Hn1.out]
    all_goals
     cases rf with
     |none=>
       have HF:=zb (HSn.out (by first|rfl|trivial));go_wp2_with fail;refine(HRn.out (by first|rfl|trivial)).mono ?_;rintro e w3 ⟨rfl,hb3⟩;have HbW:=zb (Hb.out.trans ((hb3.mono Hb.out.size).alloc (Nat.le_trans Hb.out.size hb3.size) (Obj.cells #[.int .i64 0,.int .i64 0,.int .i64 0,.string ⟨#[]⟩,.slice none 0 0,.slice none 0 0,.bool false,.bool false] 181)));have HbWo:=zb (hb3.alloc hb3.size (Obj.cells #[.int .i64 0,.int .i64 0,.int .i64 0,.string ⟨#[]⟩,.slice none 0 0,.slice none 0 0,.bool false,.bool false] 181));have HownW:=zb (zd Hown.out HbWo.out);have HEW:=zb (fun p hp=>(HE.out p hp).below HbWo.out);clear hb3;by_cases hft:fr=tz
       · have hft2:(fr==tz)=true:=beq_iff_eq.2 hft
         clear hft;go_wp2;exact⟨⟨k+1,S,by omega,by go_num,zb (HP.out.trans (by rw[HSu.out,HF.out])),HownW.out,HEW,HbW.out⟩,by simp[intOf];omega⟩
       have hft2:(fr==tz)=false:=beq_eq_false_iff_ne.2 hft;clear hft;go_wp2;exact⟨⟨k+1,S,by omega,by go_num,zb (HP.out.trans (by rw[HSu.out,HF.out])),HownW.out,HEW,HbW.out⟩,by simp[intOf];omega⟩
     |some q0=>
       go_wp2_with fail;refine(HRs.out q0 (by first|rfl|trivial)).mono ?_;rintro e w3 ⟨x,hxq,rfl,hst3,hpl3,hfr3,hb3⟩;obtain⟨w4,hw4⟩:∃w4,w4=w3.alloc (Obj.cells #[.int .i64 x.s.id,.int .i64 x.s.ac,.int .i64 x.s.si,.string x.s.plan,.slice x.na x.nn x.nc,.slice x.pa x.pn x.pc,.bool x.s.su,.bool x.s.fa] 181):=⟨_,rfl⟩;have h34:Below w3.heap.size w3 w4:=by rw[hw4];go_grown
       have Hxq:=zb hxq;have Hw4r:=zb (show w4.heap[w3.heap.size]?=some (Obj.cells #[.int .i64 x.s.id,.int .i64 x.s.ac,.int .i64 x.s.si,.string x.s.plan,.slice x.na x.nn x.nc,.slice x.pa x.pn x.pc,.bool x.s.su,.bool x.s.fa] 181) by rw[hw4];exact heap_alloc_new _ _);have HbWo:=zb (hb3.trans (h34.mono hb3.size));have HbW:=zb (Hb.out.trans (HbWo.out.mono Hb.out.size));have HownW:=zb (zd Hown.out HbWo.out);have HEW:=zb (fun p hp=>(HE.out p hp).below HbWo.out);have HxW:=zb (show SpE w4 (.slice a S.length cp) (fr,tz,x)from⟨hst3.below h34,hpl3,hfr3.plain,fun _ ad had hq=>by
        have h1:=(hfr3 ad had).2;have h2:=(zg Hown.out _ hq).2
        omega⟩);have Hw4:=zb hw4;clear hst3 hpl3 hfr3 hb3 h34 hxq hw4;have y3:w4.cell? ⟨w3.heap.size,3,none⟩=some (.string x.s.plan):=cell_of_row w4 _ 3 _ _ _ Hw4r.out;have y5:w4.cell? ⟨w3.heap.size,5,none⟩=some (.slice x.pa x.pn x.pc):=cell_of_row w4 _ 5 _ _ _ Hw4r.out;have y6:w4.cell? ⟨w3.heap.size,6,none⟩=some (.bool x.s.su):=cell_of_row w4 _ 6 _ _ _ Hw4r.out;have y7:w4.cell? ⟨w3.heap.size,7,none⟩=some (.bool x.s.fa):=cell_of_row w4 _ 7 _ _ _ Hw4r.out;unfold jb;go_upto_region 9 with(fail);rw[<-Hw4.out];by_cases hft:fr=tz
       · have HF:=zb (HSe.out hft)
         have hft2:(fr==tz)=true:=beq_iff_eq.2 hft;clear hft y3 y5 y6 y7;go_wp2;exact⟨⟨k+1,S,by omega,by go_num,zb (HP.out.trans (by rw[HSu.out,HF.out])),HownW.out,HEW,HbW.out⟩,by simp[intOf];omega⟩
       · have HF:=zb (show jo n l (rspL n l k) k=jT (rspL n l k) fr tz x.s by rw[Hxq.out];exact HSs.out hft q0 (by first|rfl|trivial))
         have hft2:(fr==tz)=false:=beq_eq_false_iff_ne.2 hft;clear hft;obtain⟨gs,hgs⟩:∃gs,gs=w4.heap.size:=⟨_,rfl⟩;obtain⟨Y,hY⟩:∃Y,Y=w4.alloc (Obj.cells #[.int .i64 fr,.int .i64 tz,.string x.s.plan,.slice x.pa x.pn x.pc,.bool x.s.su,.bool x.s.fa] 169):=⟨_,rfl⟩;have hbY:Below w4.heap.size w4 Y:=by rw[hY];go_grown
         have HYr:=zb (show Y.heap[gs]?=some (Obj.cells #[.int .i64 fr,.int .i64 tz,.string x.s.plan,.slice x.pa x.pn x.pc,.bool x.s.su,.bool x.s.fa] 169) by rw[hY,hgs];exact heap_alloc_new _ _);have HbY:=zb (HbW.out.trans (hbY.mono HbW.out.size));have HownY:=zb (zd HownW.out hbY);have HEY:=zb (fun p hp=>(HEW.out p hp).below hbY);have HxY:=zb (HxW.out.below hbY);have HY:=zb hY;have Hgs:=zb hgs;have hgY:gs<Y.heap.size:=(zu HYr.out);clear hY hgs hbY;go_upto_region 11 with(fail);rw[<-HY.out,<-Hgs.out];clear y3 y5 y6 y7;by_cases hS:S=[]
         · subst hS
           go_upto_region 12 with(fail);go_big_quiet (fail);obtain⟨V,hV⟩:∃V,V=Y.drewN nq:=⟨_,rfl⟩;have hbV:Below Y.heap.size Y V:=by rw[hV];exact zH (Below.refl _ _) _
           rw[<-hV];have HbV:=zb (HbY.out.trans (hbV.mono HbY.out.size));have HownV:=zb (zd HownY.out hbV);have HVr:=zb ((hbV.block _ hgY).trans HYr.out);have HEV:=zb (fun p hp=>(HEY.out p hp).below hbV);have HxV:=zb (HxY.out.below hbV);clear hV hbV;have HX1:=zb (zi.one (c:=yC) (sz:=6) V (fr,tz,x) 169 #[.int .i64 fr,.int .i64 tz,.string x.s.plan,.slice x.pa x.pn x.pc,.bool x.s.su,.bool x.s.fa] rfl);have hVs:=HbV.out.size;go_upto_region 14 with(fail);have c0:V.cell? ⟨gs,0,none⟩=some (.int .i64 fr):=cell_of_row V _ 0 _ _ _ HVr.out;have c1:V.cell? ⟨gs,1,none⟩=some (.int .i64 tz):=cell_of_row V _ 1 _ _ _ HVr.out;have c2:V.cell? ⟨gs,2,none⟩=some (.string x.s.plan):=cell_of_row V _ 2 _ _ _ HVr.out;have c3:V.cell? ⟨gs,3,none⟩=some (.slice x.pa x.pn x.pc):=cell_of_row V _ 3 _ _ _ HVr.out;have c4:V.cell? ⟨gs,4,none⟩=some (.bool x.s.su):=cell_of_row V _ 4 _ _ _ HVr.out;have c5:V.cell? ⟨gs,5,none⟩=some (.bool x.s.fa):=cell_of_row V _ 5 _ _ _ HVr.out;go_wp2_with (at_builtin;refine j8 (c:=yC) (sz:=6) (fun _=>rfl) VO 169 171 _ 64 Tryz.underlying171 Tryz.spellInfo rfl (by decide) rfl _ _ rfl w.heap.size (by first|omega|(simp;done)|(simp;omega)) _ _ [] (fr,tz,x) rfl rfl (HownV.out.alloc _) HX1.out (by unfold maxLen;first|omega|(simp;done)|(simp;omega)) (by first|omega|(simp;done)|(simp;omega)) ?_);intro R hR v5 w5 own5 hg5 hh5;have HRe:=zb (show R=[]++[(fr,tz,x)] by rw[hR.out];first|rfl|simp);have HE5:=zb (show ∀p∈R,SpE w5 v5 p from fun p hp=>by
            rw[HRe.out]at hp;rcases List.mem_append.1 hp with hp|hp;· exact((HEV.out p hp).below ((Below.refl _ _).alloc (Nat.le_refl _) _)).turn hg5 (fun g h=>by have:=hh5.out g h;simpa using this)
            rw[List.mem_singleton.1 hp];exact(HxV.out.below ((Below.refl _ _).alloc (Nat.le_refl _) _)).turn hg5 (fun g h=>by have:=hh5.out g h;simpa using this));have Hb5:=zb ((HbV.out.alloc hVs _).grown hg5 (by simp<;>omega) (fun g hg=>(zg HownV.out g hg).1));have Own5:=zb own5;have HPf:=zb (show zV R=rspL n l (k+1) by rw[HRe.out,HSu.out,HF.out,<-HP.out];exact rfl);clear own5 hg5 hh5 hR hVs c0 c1 c2 c3 c4 c5;go_wp2;exact⟨⟨k+1,R,by omega,by go_num,HPf,Own5.out,HE5,Hb5.out⟩,by simp[intOf];omega⟩
         · obtain⟨M,q,rfl⟩:∃M q,S=M++[q]:=⟨_,_,(List.dropLast_concat_getLast hS).symm⟩
           clear hS;obtain⟨g0,rfl,hln,hgB,hgl,hownM,hcell⟩:=kz (c:=yC) (sz:=6) (fun _=>rfl) HownY.out;have HownM:=zb hownM;have z0:Y.cell? ⟨g0,M.length*6,none⟩=some (.int .i64 q.1):=hcell 0 (by decide);have z1:Y.cell? ⟨g0,M.length*6+1,none⟩=some (.int .i64 q.2.1):=hcell 1 (by decide);have z2:Y.cell? ⟨g0,M.length*6+2,none⟩=some (.string q.2.2.s.plan):=hcell 2 (by decide);have z3:Y.cell? ⟨g0,M.length*6+3,none⟩=some (.slice q.2.2.pa q.2.2.pn q.2.2.pc):=hcell 3 (by decide);have z4:Y.cell? ⟨g0,M.length*6+4,none⟩=some (.bool q.2.2.s.su):=hcell 4 (by decide);have z5:Y.cell? ⟨g0,M.length*6+5,none⟩=some (.bool q.2.2.s.fa):=hcell 5 (by decide);rw[hln]at hc1 hSl⊢;have hj1:IntKind.i64.wrap ((M.length:Int)+1-1)=(M.length:Int):=by rw[Int.add_sub_cancel];exact IntWalk.i64_in _ (by omega)
           have hj2:(0:Int)<(M.length:Int)+1:=by omega
           have hj3:((M.length:Int)+1).toNat=M.length+1:=by omega
           have hj4:IntKind.i64.wrap (M.length:Int)=(M.length:Int):=IntWalk.i64_in _ (by omega);have hj5:(0:Int)<=(M.length:Int):=Int.natCast_nonneg _;have hj6:(M.length:Int)<(M.length:Int)+1:=by omega
           have J:=zb (And.intro hj1 (And.intro hj2 (And.intro hj3 (And.intro hj4 (And.intro hj5 hj6)))));rw[hln]at HEY HxY;have HownL:=zb (show Y.ownsRow w.heap.size 169 6 (.slice (some ⟨g0,0,none⟩) (M.length+1) cp) (M++[q]).length ((M++[q]).flatMap yC) by rw[hln];exact HownM.out);clear hownM hcell hln;go_upto_region 12 with(fail);by_cases hqf:q.2.1=fr
           · have hqf2:(q.2.1==fr)=true:=beq_iff_eq.2 hqf
             have Hqf:=zb hqf;clear hqf;have HT:=zb (show ∀W,Below Y.heap.size Y W->Calls Tryz.prog 149 #[VP q,VP (fr,tz,x)] W fun e w'=>e=.returned (.bool (yX q.2.2.s x.s))/\Below W.heap.size W w' from fun W hW=>Jr q (fr,tz,x) W (((HEY.out q (by simp)).below hW).st) ((HxY.out.below hW).st));have hrr:=Below.refl Y.heap.size Y;have u0:=fun p:ze Y=>ze.cell (a:=⟨g0,M.length*6,none⟩) hgl z0 p;have u1:=fun p:ze Y=>ze.cell (a:=⟨g0,M.length*6+1,none⟩) hgl z1 p;have u2:=fun p:ze Y=>ze.cell (a:=⟨g0,M.length*6+2,none⟩) hgl z2 p;have u3:=fun p:ze Y=>ze.cell (a:=⟨g0,M.length*6+3,none⟩) hgl z3 p;have u4:=fun p:ze Y=>ze.cell (a:=⟨g0,M.length*6+4,none⟩) hgl z4 p;have u5:=fun p:ze Y=>ze.cell (a:=⟨g0,M.length*6+5,none⟩) hgl z5 p;have y0:=fun p:ze Y=>ze.cell (a:=⟨gs,0,none⟩) hgY (show Y.cell? ⟨gs,0,none⟩=some (.int .i64 fr)from cell_of_row Y _ 0 _ _ _ HYr.out) p;have y1:=fun p:ze Y=>ze.cell (a:=⟨gs,1,none⟩) hgY (show Y.cell? ⟨gs,1,none⟩=some (.int .i64 tz)from cell_of_row Y _ 1 _ _ _ HYr.out) p;have y2:=fun p:ze Y=>ze.cell (a:=⟨gs,2,none⟩) hgY (show Y.cell? ⟨gs,2,none⟩=some (.string x.s.plan)from cell_of_row Y _ 2 _ _ _ HYr.out) p;have y3:=fun p:ze Y=>ze.cell (a:=⟨gs,3,none⟩) hgY (show Y.cell? ⟨gs,3,none⟩=some (.slice x.pa x.pn x.pc)from cell_of_row Y _ 3 _ _ _ HYr.out) p;have y4:=fun p:ze Y=>ze.cell (a:=⟨gs,4,none⟩) hgY (show Y.cell? ⟨gs,4,none⟩=some (.bool x.s.su)from cell_of_row Y _ 4 _ _ _ HYr.out) p;have y5:=fun p:ze Y=>ze.cell (a:=⟨gs,5,none⟩) hgY (show Y.cell? ⟨gs,5,none⟩=some (.bool x.s.fa)from cell_of_row Y _ 5 _ _ _ HYr.out) p;clear z0 z1 z2 z3 z4 z5;cases hal:yX q.2.2.s x.s with
             |true=>
               rw[hal]at HT;have Hal:=zb hal;clear hal;refine zl hrr (by kernel_rfl) (by kernel_rfl) ?_;repeat (go_big_quiet_step (first|(go_at_call 149;refine zE (HT.out _ (ze.h _)) (fun e w' h=>h))))
               refine wpQuiet_nil ?_;intro V hV;have hbV:Below Y.heap.size Y V:=by obtain⟨pq,rfl⟩:=hV;exact pq.h
               clear hV u0 y0 u1 y1 u2 y2 u3 y3 u4 y4 u5 y5 hrr;have HbV:=zb (HbY.out.trans (hbV.mono HbY.out.size));have HownV:=zb (zd HownM.out hbV);have HEV:=zb (fun p hp=>(HEY.out p hp).below hbV);have c1:V.cell? ⟨g0,M.length*6+1,none⟩=some (.int .i64 q.2.1):=(HownV.out.cellAt _ (by omega)).trans (by
                have h:=vJ yC 6 (fun _=>rfl) (M++[q]) M.length 1 (by simp) (by decide);rw[List.getElem_concat_length rfl]at h;exact h);have f1:=HownV.out.frozenAt (M.length*6+1);have hst:=HownV.out.stored (M.length*6+1) (.int .i64 tz);rw[JJ (c:=yC) (sz:=6) (fun _=>rfl) (M++[q]) M.length 1 (q.1,tz,q.2.2) (.int .i64 tz) (by simp) (by decide) (by rw[List.getElem_concat_length rfl];rfl),List.set_append_right _ _ (Nat.le_refl _),Nat.sub_self,List.set_cons_zero]at hst;obtain⟨V2,hV2⟩:∃V2,V2=V.setCell ⟨g0,M.length*6+1,none⟩ (.int .i64 tz):=⟨_,rfl⟩;rw[<-hV2]at hst;have SO:=zb (show V2.ownsRow w.heap.size 169 6 (.slice (some ⟨g0,0,none⟩) (M.length+1) cp) (M++[(q.1,tz,q.2.2)]).length ((M++[(q.1,tz,q.2.2)]).flatMap yC) by rw[List.length_append,List.length_singleton];exact hst.1);have HE2:=zb (show ∀p∈M++[(q.1,tz,q.2.2)],SpE V2 (.slice (some ⟨g0,0,none⟩) (M.length+1) cp) p from fun p hp=>by
                rcases List.mem_append.1 hp with hp|hp;· exact(HEV.out p (List.mem_append_left _ hp)).turn hst.2 (fun g h=>Or.inl h)
                rw[List.mem_singleton.1 hp];have h:=(HEV.out q (by simp)).turn hst.2 (fun g h=>Or.inl h);exact⟨h.st,h.pl,h.sp,h.off⟩);have Hb2:=zb (HbV.out.grown hst.2 HbV.out.size (fun g hg=>by cases hg;exact hgB));have HPf:=zb (show zV (M++[(q.1,tz,q.2.2)])=rspL n l (k+1) by rw[HSu.out,HF.out,<-HP.out];exact KZ M q (fr,tz,x) Hqf.out Hal.out);have HV2:=zb hV2;clear hst hV2 hbV;go_upto_region 13 with(fail);go_wp2;rw[<-HV2.out];exact⟨⟨k+1,M++[(q.1,tz,q.2.2)],by omega,by go_num,HPf,SO.out,HE2,Hb2.out⟩,by simp[intOf];omega⟩
             |false=>
               rw[hal]at HT;have Hal:=zb hal;clear hal;refine zl hrr (by kernel_rfl) (by kernel_rfl) ?_;repeat (go_big_quiet_step (first|(go_at_call 149;refine zE (HT.out _ (ze.h _)) (fun e w' h=>h))))
               refine wpQuiet_nil ?_;intro V hV;have hbV:Below Y.heap.size Y V:=by obtain⟨pq,rfl⟩:=hV;exact pq.h
               clear hV u0 y0 u1 y1 u2 y2 u3 y3 u4 y4 u5 y5 hrr hj1 hj2 hj3 hj4 hj5 hj6;have HbV:=zb (HbY.out.trans (hbV.mono HbY.out.size));have HownV:=zb (zd HownL.out hbV);have HVr:=zb ((hbV.block _ hgY).trans HYr.out);have HEV:=zb (fun p hp=>(HEY.out p hp).below hbV);have HxV:=zb (HxY.out.below hbV);clear hbV;have HX2:=zb (zi.one (c:=yC) (sz:=6) V (fr,tz,x) 169 #[.int .i64 fr,.int .i64 tz,.string x.s.plan,.slice x.pa x.pn x.pc,.bool x.s.su,.bool x.s.fa] rfl);have hVs:=HbV.out.size;go_upto_region 14 with(fail);have c0:V.cell? ⟨gs,0,none⟩=some (.int .i64 fr):=cell_of_row V _ 0 _ _ _ HVr.out;have c1:V.cell? ⟨gs,1,none⟩=some (.int .i64 tz):=cell_of_row V _ 1 _ _ _ HVr.out;have c2:V.cell? ⟨gs,2,none⟩=some (.string x.s.plan):=cell_of_row V _ 2 _ _ _ HVr.out;have c3:V.cell? ⟨gs,3,none⟩=some (.slice x.pa x.pn x.pc):=cell_of_row V _ 3 _ _ _ HVr.out;have c4:V.cell? ⟨gs,4,none⟩=some (.bool x.s.su):=cell_of_row V _ 4 _ _ _ HVr.out;have c5:V.cell? ⟨gs,5,none⟩=some (.bool x.s.fa):=cell_of_row V _ 5 _ _ _ HVr.out;go_wp2_with (at_builtin;refine j8 (c:=yC) (sz:=6) (fun _=>rfl) VO 169 171 _ 64 Tryz.underlying171 Tryz.spellInfo rfl (by decide) rfl _ _ rfl w.heap.size (by first|omega|(simp;done)|(simp;omega)) _ _ (M++[q]) (fr,tz,x) rfl rfl (HownV.out.alloc _) HX2.out (by unfold maxLen;first|omega|(simp;done)|(simp;omega)) (by first|omega|(simp;done)|(simp;omega)) ?_);intro R hR v5 w5 own5 hg5 hh5;have HRe:=zb (show R=(M++[q])++[(fr,tz,x)] by rw[hR.out];first|rfl|simp);have HE5:=zb (show ∀p∈R,SpE w5 v5 p from fun p hp=>by
                rw[HRe.out]at hp;rcases List.mem_append.1 hp with hp|hp;· exact((HEV.out p hp).below ((Below.refl _ _).alloc (Nat.le_refl _) _)).turn hg5 (fun g h=>by have:=hh5.out g h;simpa using this)
                rw[List.mem_singleton.1 hp];exact(HxV.out.below ((Below.refl _ _).alloc (Nat.le_refl _) _)).turn hg5 (fun g h=>by have:=hh5.out g h;simpa using this));have Hb5:=zb ((HbV.out.alloc hVs _).grown hg5 (by simp<;>omega) (fun g hg=>(zg HownV.out g hg).1));have Own5:=zb own5;have HPf:=zb (show zV R=rspL n l (k+1) by rw[HRe.out,HSu.out,HF.out,<-HP.out];exact Y0 M q (fr,tz,x) (fun h=>by have:=Hal.out;rw[show yX q.2.2.s x.s=true from h.2]at this;cases this));clear own5 hg5 hh5 hR hVs c0 c1 c2 c3 c4 c5;go_wp2;exact⟨⟨k+1,R,by omega,by go_num,HPf,Own5.out,HE5,Hb5.out⟩,by simp[intOf];omega⟩
           · have hqf2:(q.2.1==fr)=false:=beq_eq_false_iff_ne.2 hqf
             have Hqf:=zb hqf;clear hqf;go_big_quiet (fail);clear hj1 hj2 hj3 hj4 hj5 hj6 z0 z1 z2 z3 z4 z5;obtain⟨V,hV⟩:∃V,V=Y.drewN nq:=⟨_,rfl⟩;have hbV:Below Y.heap.size Y V:=by rw[hV];exact zH (Below.refl _ _) _
             rw[<-hV];have HbV:=zb (HbY.out.trans (hbV.mono HbY.out.size));have HownV:=zb (zd HownL.out hbV);have HVr:=zb ((hbV.block _ hgY).trans HYr.out);have HEV:=zb (fun p hp=>(HEY.out p hp).below hbV);have HxV:=zb (HxY.out.below hbV);clear hV hbV;have HX3:=zb (zi.one (c:=yC) (sz:=6) V (fr,tz,x) 169 #[.int .i64 fr,.int .i64 tz,.string x.s.plan,.slice x.pa x.pn x.pc,.bool x.s.su,.bool x.s.fa] rfl);have hVs:=HbV.out.size;go_upto_region 14 with(fail);have c0:V.cell? ⟨gs,0,none⟩=some (.int .i64 fr):=cell_of_row V _ 0 _ _ _ HVr.out;have c1:V.cell? ⟨gs,1,none⟩=some (.int .i64 tz):=cell_of_row V _ 1 _ _ _ HVr.out;have c2:V.cell? ⟨gs,2,none⟩=some (.string x.s.plan):=cell_of_row V _ 2 _ _ _ HVr.out;have c3:V.cell? ⟨gs,3,none⟩=some (.slice x.pa x.pn x.pc):=cell_of_row V _ 3 _ _ _ HVr.out;have c4:V.cell? ⟨gs,4,none⟩=some (.bool x.s.su):=cell_of_row V _ 4 _ _ _ HVr.out;have c5:V.cell? ⟨gs,5,none⟩=some (.bool x.s.fa):=cell_of_row V _ 5 _ _ _ HVr.out;go_wp2_with (at_builtin;refine j8 (c:=yC) (sz:=6) (fun _=>rfl) VO 169 171 _ 64 Tryz.underlying171 Tryz.spellInfo rfl (by decide) rfl _ _ rfl w.heap.size (by first|omega|(simp;done)|(simp;omega)) _ _ (M++[q]) (fr,tz,x) rfl rfl (HownV.out.alloc _) HX3.out (by unfold maxLen;first|omega|(simp;done)|(simp;omega)) (by first|omega|(simp;done)|(simp;omega)) ?_);intro R hR v5 w5 own5 hg5 hh5;have HRe:=zb (show R=(M++[q])++[(fr,tz,x)] by rw[hR.out];first|rfl|simp);have HE5:=zb (show ∀p∈R,SpE w5 v5 p from fun p hp=>by
              rw[HRe.out]at hp;rcases List.mem_append.1 hp with hp|hp;· exact((HEV.out p hp).below ((Below.refl _ _).alloc (Nat.le_refl _) _)).turn hg5 (fun g h=>by have:=hh5.out g h;simpa using this)
              rw[List.mem_singleton.1 hp];exact(HxV.out.below ((Below.refl _ _).alloc (Nat.le_refl _) _)).turn hg5 (fun g h=>by have:=hh5.out g h;simpa using this));have Hb5:=zb ((HbV.out.alloc hVs _).grown hg5 (by simp<;>omega) (fun g hg=>(zg HownV.out g hg).1));have Own5:=zb own5;have HPf:=zb (show zV R=rspL n l (k+1) by rw[HRe.out,HSu.out,HF.out,<-HP.out];exact Y0 M q (fr,tz,x) (fun h=>Hqf.out h.1));clear own5 hg5 hh5 hR hVs c0 c1 c2 c3 c4 c5;go_wp2;exact⟨⟨k+1,R,by omega,by go_num,HPf,Own5.out,HE5,Hb5.out⟩,by simp[intOf];omega⟩
  have HF:=zb (show rspL n l k=rspL n l l.length by rw[show k=l.length by omega]);go_wp2;go_ret;exact⟨a,cp,S,rfl,Hown.out,HP.out.trans HF.out,HE.out,hb⟩
def Nb (w:World) (N:List (Int×Int)) (e:Ending) (w':World):Prop:=∃v,e=.returned v/\w'.ownsRow w.heap.size 25 2 v N.length (N.flatMap zh)/\Below w.heap.size w w'
theorem Ud  (v:Value) (L:List (Int×Int)) (w:World) (h:zi zh 2 w v L) (hl:L.length<=10000):
 Calls Tryz.prog 145 #[v,.func (.func 146) #[] #[],.func (.func 147) #[] #[]] w (Nb w (vn L)):=by
 have HA:=zb h;obtain⟨av,cap,rfl,hcl,hcm⟩:=zq h;unfold maxLen at hcm;clear h;go_enter Tryz.func145,Tryz.ntmps145;go_wp2_with fail;go_loopw [7,13] (fun vo i wr=>∃(k:Nat) (O:List (Int×Int)),k<=L.length/\i=.int .i64 k/\RowKit.Hid (O=vn (L.take k))/\wr.ownsRow w.heap.size 25 2 vo O.length (O.flatMap zh)/\Below w.heap.size w wr) (fun _ i _=>L.length-(intOf i).toNat);case atStart=>exact⟨0,[],Nat.zero_le _,rfl,zb (rfl),World.ownsRow_nil _ _ _ _,Below.refl _ _⟩
 case round=>
  obtain⟨wo,rfl⟩:∃wo:World,wo=wr:=⟨_,rfl⟩;obtain⟨k,O,hk,rfl,HP,hown,hb⟩:=hrel;obtain⟨a,cp,rfl,hc1,hc2⟩:=zf hown;unfold maxLen at hc2;have Hown:=zb hown;have Hb:=zb hb;have hOl:O.length<=k:=by rw[HP.out];exact Yy L k hk
  by_cases hlt:k<L.length
  · have hk1:(k:Int)<(L.length:Int):=by omega
    have hk0:(0:Int)<=(k:Int):=Int.natCast_nonneg _;have HTk:=zb (jj L k hlt);obtain⟨a2,c2,e2,-,-,hx⟩:=(HA.out.below hb);cases e2;obtain⟨bb,o,rfl,hB,hx⟩:=hx (by rintro rfl;cases hlt);have hx:=hx k hlt;have x0:wo.cell? ⟨bb,o+k*2,none⟩=some (.int .i64 (L[k]).1):=hx 0 (by decide);have x1c:wo.cell? ⟨bb,o+k*2+1,none⟩=some (.int .i64 (L[k]).2):=hx 1 (by decide);clear hx hB hown hb;generalize L[k]=x at *;obtain⟨x1,x2⟩:=x;dsimp only at x0 x1c HTk;obtain⟨Y,hY⟩:∃Y,Y=wo.alloc (Obj.cells #[.int .i64 x1,.int .i64 x2] 25):=⟨_,rfl⟩;have hbY:Below wo.heap.size wo Y:=by rw[hY];go_grown
    have HYr:=zb (show Y.heap[wo.heap.size]?=some (Obj.cells #[.int .i64 x1,.int .i64 x2] 25) by rw[hY];exact heap_alloc_new _ _);have HbY:=zb (Hb.out.trans (hbY.mono Hb.out.size));have HownY:=zb (zd Hown.out hbY);have HY:=zb hY;have hwY:wo.heap.size<Y.heap.size:=(zu HYr.out);clear hbY hY;go_upto_region 6 with(fail);rw[<-HY.out];by_cases hO:O=[]
    · subst hO
      have hj0:decide ((0:Int)<0)=false:=by decide
      go_big_quiet (fail);obtain⟨w2,hV⟩:∃w2,w2=Y.drewN nq:=⟨_,rfl⟩;have hY2:Below Y.heap.size Y w2:=by rw[hV];exact zH (Below.refl _ _) _
      rw[<-hV];clear hV x0 x1c;have HbA:=zb (HbY.out.trans (hY2.mono HbY.out.size));have HownA:=zb (zd HownY.out hY2);have rA:=(hY2.block _ hwY).trans HYr.out;have c0:=cell_of_row w2 _ 0 _ _ _ rA;have c1:=cell_of_row w2 _ 1 _ _ _ rA;have hbs:=HbA.out.size;have HX:=zb (zi.one (c:=zh) (sz:=2) w2 (x1,x2) 25 #[.int .i64 x1,.int .i64 x2] rfl);clear rA hY2;go_upto_region 8 with(fail);go_wp2_with (at_builtin;refine zX (c:=zh) (sz:=2) (fun _=>rfl) qO 25 85 _ 16 Tryz.underlying85 Tryz.perInfo rfl (by decide) rfl _ _ rfl w.heap.size ?hs _ _ [] [(x1,x2)] rfl rfl (HownA.out.alloc _) HX.out ?hl ?hb ?_);case hs=>simp<;>omega
      case hl=>unfold maxLen;simp<;>omega
      case hb=>simp<;>omega
      intro R hR v5 w5 own5 hg5;have HRe:=zb (show R=[]++[(x1,x2)] by rw[hR.out];first|rfl|simp);have Own5:=zb own5;have Hb5:=zb ((HbA.out.alloc hbs _).grown hg5 (by simp<;>omega) (fun g hg=>(zg HownA.out g hg).1));clear own5 hg5 hR hbs;go_wp2;exact⟨⟨k+1,R,by omega,by go_num,zb (by rw[HRe.out,HTk.out,<-HP.out];exact rfl),Own5.out,Hb5.out⟩,by simp[intOf];omega⟩
    obtain⟨M,q,rfl⟩:∃M q,O=M++[q]:=⟨_,_,(List.dropLast_concat_getLast hO).symm⟩;clear hO;obtain⟨g0,rfl,hln,hgB,hgl,hownM,hcell⟩:=kz (c:=zh) (sz:=2) (fun _=>rfl) HownY.out;have HownM:=zb hownM;have z0:Y.cell? ⟨g0,M.length*2,none⟩=some (.int .i64 q.1):=hcell 0 (by decide);have z1:Y.cell? ⟨g0,M.length*2+1,none⟩=some (.int .i64 q.2):=hcell 1 (by decide);rw[hln]at hc1 hOl⊢;have hj1:IntKind.i64.wrap ((M.length:Int)+1-1)=(M.length:Int):=by rw[Int.add_sub_cancel];exact IntWalk.i64_in _ (by omega)
    have hj2:(0:Int)<(M.length:Int)+1:=by omega
    have hj3:((M.length:Int)+1).toNat=M.length+1:=by omega
    have hj4:IntKind.i64.wrap (M.length:Int)=(M.length:Int):=IntWalk.i64_in _ (by omega);have hj5:(0:Int)<=(M.length:Int):=Int.natCast_nonneg _;have hj6:(M.length:Int)<(M.length:Int)+1:=by omega
    have J:=zb (And.intro hj1 (And.intro hj2 (And.intro hj3 (And.intro hj4 (And.intro hj5 hj6)))));clear hownM hcell;obtain⟨q1,q2⟩:=q;dsimp only at z0 z1;have HownL:=zb (show Y.ownsRow w.heap.size 25 2 (.slice (some ⟨g0,0,none⟩) (M.length+1) cp) (M++[(q1,q2)]).length ((M++[(q1,q2)]).flatMap zh) by rw[show(M++[(q1,q2)]).length=M.length+1 by simp];exact HownM.out);have Hyc:=zb (show ∀p:ze Y,p.w.cell? ⟨wo.heap.size,0,none⟩=some (.int .i64 x1)/\p.w.cell? ⟨wo.heap.size,1,none⟩=some (.int .i64 x2)from fun p=>by
     have r:=(p.h.block _ hwY).trans HYr.out;exact⟨cell_of_row p.w _ 0 _ _ _ r,cell_of_row p.w _ 1 _ _ _ r⟩);have Hzc:=zb (show ∀p:ze Y,p.w.cell? ⟨g0,M.length*2,none⟩=some (.int .i64 q1)/\p.w.cell? ⟨g0,M.length*2+1,none⟩=some (.int .i64 q2)from fun p=>⟨ze.cell (a:=⟨g0,M.length*2,none⟩) hgl z0 p,ze.cell (a:=⟨g0,M.length*2+1,none⟩) hgl z1 p⟩);have HT1:=zb (show ∀W,Below Y.heap.size Y W->Calls Tryz.prog 146 #[.agg #[.int .i64 q1,.int .i64 q2],.agg #[.int .i64 x1,.int .i64 x2]] W fun e w'=>e=.returned (.bool (decide (q2=x1)))/\Below W.heap.size W w' from fun W hW=>Zi q1 q2 x1 x2 W);have hrr:=Below.refl Y.heap.size Y;have y0:=fun p:ze Y=>(Hyc.out p).1;have y1:=fun p:ze Y=>(Hyc.out p).2;have u0:=fun p:ze Y=>(Hzc.out p).1;have u1:=fun p:ze Y=>(Hzc.out p).2;clear x0 x1c z0 z1;cases htg:decide (q2=x1)with
    |true=>
      rw[htg]at HT1;have Htg:=zb htg;clear htg;refine zl hrr (by kernel_rfl) (by kernel_rfl) ?_;repeat (go_big_quiet_step (first|(go_at_call 146;refine zE (HT1.out _ (ze.h _)) (fun e w' h=>h))))
      refine wpQuiet_nil ?_;intro w2 hw2;have hY2:Below Y.heap.size Y w2:=by obtain⟨pq,rfl⟩:=hw2;exact pq.h
      clear hw2 y0 y1 u0 u1 hrr;have HY2:=zb hY2;have Hown2:=zb (zd HownM.out hY2);have HT2:=zb (show ∀W,Below w2.heap.size w2 W->Calls Tryz.prog 147 #[.agg #[.int .i64 q1,.int .i64 q2],.agg #[.int .i64 x1,.int .i64 x2]] W fun e w'=>e=.returned (.agg #[.int .i64 q1,.int .i64 x2])/\Below W.heap.size W w' from fun W hW=>Zh q1 q2 x1 x2 W);have HC2:=zb (show ∀W,Below w2.heap.size w2 W->(W.cell? ⟨wo.heap.size,0,none⟩=some (.int .i64 x1)/\W.cell? ⟨wo.heap.size,1,none⟩=some (.int .i64 x2))/\(W.cell? ⟨g0,M.length*2,none⟩=some (.int .i64 q1)/\W.cell? ⟨g0,M.length*2+1,none⟩=some (.int .i64 q2))from fun W hW=>by
       have hh:=HY2.out.trans (hW.mono HY2.out.size);exact⟨Hyc.out ⟨W,hh⟩,Hzc.out ⟨W,hh⟩⟩);have HG:=zb (show ∀W,Below w2.heap.size w2 W->W.ownsRow w.heap.size 25 2 (.slice (some ⟨g0,0,none⟩) (M.length+1) cp) (M.length+1) ((M++[(q1,q2)]).flatMap zh)from fun W hW=>zd Hown2.out hW);clear hY2 HT1;go_upto_region 7 with(fail);refine yq (fun W=>Below w2.heap.size w2 W) (fun i v _=>v=(match i with|0=>.slice (some ⟨g0,0,none⟩) (M.length+1) cp|1=>.int .i64 ((M.length:Int)+1)|2=>.int .i64 (M.length:Int)|3=>.func (.func 147) #[] #[]|4=>.slice (some ⟨g0,0,none⟩) (M.length+1) cp|5=>.int .i64 ((M.length:Int)+1)|6=>.int .i64 (M.length:Int)|7=>.pointer (some ⟨g0,M.length*2,none⟩)|8=>.agg #[.int .i64 q1,.int .i64 q2]|9=>.agg #[.int .i64 x1,.int .i64 x2]|10=>.agg #[.int .i64 q1,.int .i64 x2]|11=>.pointer (some ⟨g0,M.length*2,none⟩)|_=>v)) (by kernel_rfl) (by decide) (by kernel_rfl) (Below.refl _ _).drew ?_;generalize hfr:(fun v:Nat->Value=>_)=fr;simp only[List.map_cons,List.map_nil,zC,List.setIfInBounds_toArray,List.set_cons_succ,List.set_cons_zero,Nat.zero_add,Nat.reduceAdd]at hfr;simp only[yY];refine⟨?_,?_,?_,?_,?_,?_,?_,?_,?_,?_,?_,?_,?_⟩;iterate 2
       · intro v w3 hC hd K hK
         rw[<-hfr]at hK⊢;go_simp;exact hK _ _ hC (fun _ _ h=>h) rfl
      · intro v w3 hC hd K hK
        obtain⟨(e1:v 1=_),-⟩:=hd;obtain⟨hj1,hj2,hj3,hj4,hj5,hj6⟩:=J.out;rw[<-hfr]at hK⊢;simp only[e1]at hK⊢;go_simp;exact hK _ _ hC (fun _ _ h=>h) rfl
      iterate 3
       · intro v w3 hC hd K hK
         rw[<-hfr]at hK⊢;go_simp;exact hK _ _ hC (fun _ _ h=>h) rfl
      · intro v w3 hC hd K hK
        obtain⟨(e5:v 5=_),-⟩:=hd;obtain⟨hj1,hj2,hj3,hj4,hj5,hj6⟩:=J.out;rw[<-hfr]at hK⊢;simp only[e5]at hK⊢;go_simp;exact hK _ _ hC (fun _ _ h=>h) rfl
      · intro v w3 hC hd K hK
        obtain⟨(e4:v 4=_),(e6:v 6=_),-⟩:=hd;obtain⟨hj1,hj2,hj3,hj4,hj5,hj6⟩:=J.out;rw[<-hfr]at hK⊢;simp only[e4,e6]at hK⊢;go_simp;exact hK _ _ hC (fun _ _ h=>h) rfl
      · intro v w3 hC hd K hK
        obtain⟨(e7:v 7=_),-⟩:=hd;obtain⟨-,c0,c1⟩:=HC2.out w3 hC;rw[<-hfr]at hK⊢;simp only[e7]at hK⊢;go_simp;exact hK _ _ hC (fun _ _ h=>h) rfl
      · intro v w3 hC hd K hK
        obtain⟨⟨c0,c1⟩,-⟩:=HC2.out w3 hC;rw[<-hfr]at hK⊢;go_simp;exact hK _ _ hC (fun _ _ h=>h) rfl
      · intro v w3 hC hd K hK
        obtain⟨(e3:v 3=_),(e8:v 8=_),(e9:v 9=_),-⟩:=hd;rw[<-hfr]at hK⊢;simp only[e3,e8,e9]at hK⊢;go_simp;refine(HT2.out w3 hC).mono ?_;rintro e w4 ⟨rfl,hb4⟩;exact hK _ _ (hC.trans (hb4.mono hC.size)) (fun _ _ h=>h) rfl
      · intro v w3 hC hd K hK
        obtain⟨(e0:v 0=_),(e2:v 2=_),-⟩:=hd;obtain⟨hj1,hj2,hj3,hj4,hj5,hj6⟩:=J.out;rw[<-hfr]at hK⊢;simp only[e0,e2]at hK⊢;go_simp;exact hK _ _ hC (fun _ _ h=>h) rfl
      intro v w3 hC hall;obtain⟨-,e10,e11⟩:_/\v 10=_/\v 11=_:=⟨trivial,hall.1.2,hall.2⟩;have hownG:=HG.out w3 hC;obtain⟨so,sg⟩:=qI (zh (q1,x2)) _ (M.length*2) _ hownG;rw[show M.length*2=M.length*2+0 from rfl,js (c:=zh) (sz:=2) (fun _=>rfl) M (q1,q2) (q1,x2) 0 (zh (q1,x2)) rfl rfl]at so;refine wp_store_mid _ _ _ rfl g0 (M.length*2) (zh (q1,x2)).toArray (by rw[<-hfr];exact e11) (by rw[<-hfr];exact e10) (kS hownG (M.length*2) 2 (by omega)) (by kernel_rfl) (by simp[zh,Value.oneCell']) ?_;have SO:=zb (show(w3.setCells g0 (M.length*2) (zh (q1,x2)).toArray.toList).ownsRow w.heap.size 25 2 (.slice (some ⟨g0,0,none⟩) (M.length+1) cp) (M++[(q1,x2)]).length ((M++[(q1,x2)]).flatMap zh) by rw[List.length_append,List.length_singleton];exact so);have SB:=zb (show Below w.heap.size w (w3.setCells g0 (M.length*2) (zh (q1,x2)).toArray.toList)from((HbY.out.trans (HY2.out.mono HbY.out.size)).trans (hC.mono (by have:=HY2.out.size;have:=HbY.out.size;omega))).grown sg (by have:=HY2.out.size;have:=HbY.out.size;have:=hC.size;omega) (fun g hg=>by cases hg;exact hgB));rw[<-hfr];generalize (w3.setCells g0 (M.length*2) (zh (q1,x2)).toArray.toList)=w4 at *;clear so sg hownG;generalize v 0=y0,v 1=y1,v 2=y2,v 3=y3,v 4=y4,v 5=y5,v 6=y6,v 7=y7,v 8=y8,v 9=y9,v 10=y10,v 11=y11;clear hfr hall hC e10 e11;have HE:=zb (q8 M (q1,q2) x1 x2 (of_decide_eq_true Htg.out));obtain⟨hj1,hj2,hj3,hj4,hj5,hj6⟩:=J.out;go_wp2;exact⟨⟨k+1,M++[(q1,x2)],by omega,by go_num,zb (by rw[HTk.out,<-HP.out];exact HE.out.symm),SO.out,SB.out⟩,by simp[intOf];omega⟩
    |false=>
      rw[htg]at HT1;have Htg:=zb htg;clear htg;refine zl hrr (by kernel_rfl) (by kernel_rfl) ?_;repeat (go_big_quiet_step (first|(go_at_call 146;refine zE (HT1.out _ (ze.h _)) (fun e w' h=>h))))
      refine wpQuiet_nil ?_;intro w2 hw2;have hY2:Below Y.heap.size Y w2:=by obtain⟨pq,rfl⟩:=hw2;exact pq.h
      clear hw2 y0 y1 u0 u1 hrr hj1 hj2 hj3 hj4 hj5 hj6;have HbA:=zb (HbY.out.trans (hY2.mono HbY.out.size));have HownA:=zb (zd HownL.out hY2);have rA:=(hY2.block _ hwY).trans HYr.out;have c0:=cell_of_row w2 _ 0 _ _ _ rA;have c1:=cell_of_row w2 _ 1 _ _ _ rA;have hbs:=HbA.out.size;have HX:=zb (zi.one (c:=zh) (sz:=2) w2 (x1,x2) 25 #[.int .i64 x1,.int .i64 x2] rfl);clear rA hY2;go_upto_region 8 with(fail);go_wp2_with (at_builtin;refine zX (c:=zh) (sz:=2) (fun _=>rfl) qO 25 85 _ 16 Tryz.underlying85 Tryz.perInfo rfl (by decide) rfl _ _ rfl w.heap.size ?hs _ _ (M++[(q1,q2)]) [(x1,x2)] rfl rfl (HownA.out.alloc _) HX.out ?hl ?hb ?_);case hs=>simp<;>omega
      case hl=>unfold maxLen;simp<;>omega
      case hb=>simp<;>omega
      intro R hR v5 w5 own5 hg5;have HRe:=zb (show R=(M++[(q1,q2)])++[(x1,x2)] by rw[hR.out];first|rfl|simp);have Own5:=zb own5;have Hb5:=zb ((HbA.out.alloc hbs _).grown hg5 (by simp<;>omega) (fun g hg=>(zg HownA.out g hg).1));clear own5 hg5 hR hbs;go_wp2;exact⟨⟨k+1,R,by omega,by go_num,zb (by rw[HRe.out,HTk.out,<-HP.out];exact(q7 M (q1,q2) x1 x2 (of_decide_eq_false Htg.out)).symm),Own5.out,Hb5.out⟩,by simp[intOf];omega⟩
  have HE:=zb (show O=vn L by rw[HP.out,List.take_of_length_le (by omega)]);go_wp2;go_ret;exact⟨_,rfl,by rw[<-HE.out];exact Hown.out,Hb.out⟩
theorem Xq (v:Value) (l:List Ev) (n:Int) (s:ByteArray) (gb:Nat) (w:World) (h:vE w v l) (hl:l.length<=1000) (hgb:gb<w.heap.size) (hc:w.cell? ⟨gb,0,none⟩=some (.string s)):
 Calls Tryz.prog 107 #[v,.int .i64 n,.func (.func 108) #[] #[.pointer (some ⟨gb,0,none⟩)]] w (Nb w (actL n s l)):=by
 have HSp:=zb (ZO v l n w h hl);have HSl:=zb (YS n l);have Hc:=zb hc;obtain⟨av,cap,rfl,hcl,hcm⟩:=zq h.1;clear h hcl hcm hc;go_enter Tryz.func107,Tryz.ntmps107;go_wp2_with fail;refine HSp.out.mono ?_;rintro e w2 ⟨a2,c2,S,rfl,own2,hp2,hok2,hb2⟩;have hSl:S.length<=1000:=by have h:=HSl.out;rw[<-hp2,yM]at h;omega
 obtain⟨ax,cx,ecx,hcx1,hcx2⟩:=zf own2;cases ecx;unfold maxLen at hcx2;have HpS:=zb hp2;have HokS:=zb hok2;have HS:=zb (show zi yC 6 w2 (.slice a2 S.length c2) S from zi.own (fun _=>rfl) own2);have Hb2:=zb hb2;have Hc2:=zb (show w2.cell? ⟨gb,0,none⟩=some (.string s)from(hb2.cell (p:=⟨gb,0,none⟩) hgb).trans Hc.out);have hgb2:gb<w2.heap.size:=Nat.lt_of_lt_of_le hgb hb2.size;clear own2 hp2 hok2 hb2 HSp HSl hgb Hc;go_wp2_with fail;go_loopw [7,14] (fun vo i wr=>∃(k:Nat) (O:List (Int×Int)),k<=S.length/\i=.int .i64 k/\RowKit.Hid (O=ql (fun a=>hasT s a.s) ((zV S).take k))/\wr.ownsRow w2.heap.size 25 2 vo O.length (O.flatMap zh)/\Below w2.heap.size w2 wr) (fun _ i _=>S.length-(intOf i).toNat);case atStart=>exact⟨0,[],Nat.zero_le _,rfl,zb rfl,World.ownsRow_nil _ _ _ _,Below.refl _ _⟩
 case round=>
  obtain⟨wo,rfl⟩:∃wo:World,wo=wr:=⟨_,rfl⟩;obtain⟨k,O,hk,rfl,HP,hown,hb⟩:=hrel;obtain⟨a,cp,rfl,hc1,hc2⟩:=zf hown;unfold maxLen at hc2;have Hown:=zb hown;have Hb:=zb hb;have hOl:O.length<=1000:=by have h:=Yw (fun a=>hasT s a.s) ((zV S).take k);rw[<-HP.out,List.length_take]at h;omega
  by_cases hlt:k<S.length
  · have hk1:(k:Int)<(S.length:Int):=by omega
    have hk0:(0:Int)<=(k:Int):=Int.natCast_nonneg _;have HTk:=zb (Zx (fun a=>hasT s a.s) (zV S) k (by rw[yM];exact hlt));rw[ur S k hlt]at HTk;have HSo:=zb ((HokS.out _ (List.getElem_mem hlt)).below hb);have HSw:=zb (HS.out.below hb);obtain⟨a3,c3,e3,-,-,hx⟩:=HSw.out;cases e3;obtain⟨bb,o,rfl,hB,hx⟩:=hx (by rintro rfl;cases hlt);have hx:=hx k hlt;have x0:wo.cell? ⟨bb,o+k*6,none⟩=some (.int .i64 (S[k]).1):=hx 0 (by decide);have x1:wo.cell? ⟨bb,o+k*6+1,none⟩=some (.int .i64 (S[k]).2.1):=hx 1 (by decide);have x2:wo.cell? ⟨bb,o+k*6+2,none⟩=some (.string (S[k]).2.2.s.plan):=hx 2 (by decide);have x3:wo.cell? ⟨bb,o+k*6+3,none⟩=some (.slice (S[k]).2.2.pa (S[k]).2.2.pn (S[k]).2.2.pc):=hx 3 (by decide);have x4:wo.cell? ⟨bb,o+k*6+4,none⟩=some (.bool (S[k]).2.2.s.su):=hx 4 (by decide);have x5:wo.cell? ⟨bb,o+k*6+5,none⟩=some (.bool (S[k]).2.2.s.fa):=hx 5 (by decide);clear hx hown;generalize S[k]=x at *;obtain⟨Y,hY⟩:∃Y,Y=wo.alloc (Obj.cells #[.int .i64 x.1,.int .i64 x.2.1,.string x.2.2.s.plan,.slice x.2.2.pa x.2.2.pn x.2.2.pc,.bool x.2.2.s.su,.bool x.2.2.s.fa] 169):=⟨_,rfl⟩;have hbY:Below wo.heap.size wo Y:=by rw[hY];go_grown
    have HYr:=zb (show Y.heap[wo.heap.size]?=some (Obj.cells #[.int .i64 x.1,.int .i64 x.2.1,.string x.2.2.s.plan,.slice x.2.2.pa x.2.2.pn x.2.2.pc,.bool x.2.2.s.su,.bool x.2.2.s.fa] 169) by rw[hY];exact heap_alloc_new _ _);have HbYo:=zb hbY;have HbY:=zb (Hb.out.trans (hbY.mono Hb.out.size));have HCall:=zb (Zk x s gb w.heap.size Y (HSo.out.below hbY) (Nat.lt_of_lt_of_le hgb2 (Nat.le_trans Hb.out.size hbY.size)) ((HbY.out.cell (p:=⟨gb,0,none⟩) hgb2).trans Hc2.out));have HY:=zb hY;have hwY:wo.heap.size<Y.heap.size:=(zu HYr.out);clear hbY hY hb;have y0:Y.cell? ⟨wo.heap.size,0,none⟩=some (.int .i64 x.1):=cell_of_row Y _ 0 _ _ _ HYr.out;have y1:Y.cell? ⟨wo.heap.size,1,none⟩=some (.int .i64 x.2.1):=cell_of_row Y _ 1 _ _ _ HYr.out;have y2:Y.cell? ⟨wo.heap.size,2,none⟩=some (.string x.2.2.s.plan):=cell_of_row Y _ 2 _ _ _ HYr.out;have y3:Y.cell? ⟨wo.heap.size,3,none⟩=some (.slice x.2.2.pa x.2.2.pn x.2.2.pc):=cell_of_row Y _ 3 _ _ _ HYr.out;have y4:Y.cell? ⟨wo.heap.size,4,none⟩=some (.bool x.2.2.s.su):=cell_of_row Y _ 4 _ _ _ HYr.out;have y5:Y.cell? ⟨wo.heap.size,5,none⟩=some (.bool x.2.2.s.fa):=cell_of_row Y _ 5 _ _ _ HYr.out;go_upto_region 5 with(fail);rw[<-HY.out];go_wp2_with fail;refine HCall.out.mono ?_;rintro e w3 ⟨rfl,hb3⟩;have HY3:=zb ((hb3.block _ hwY).trans HYr.out);have Hb3:=zb (HbY.out.trans (hb3.mono HbY.out.size));have Hown3:=zb (zd Hown.out (HbYo.out.trans (hb3.mono HbYo.out.size)));clear hb3 x0 x1 x2 x3 x4 x5 y0 y1 y2 y3 y4 y5;cases hh:hasT s x.2.2.s with
    |false=>have HE:=zb (show O=ql (fun a=>hasT s a.s) ((zV S).take (k+1)) by rw[HTk.out,HP.out,hh,if_neg (by decide),List.append_nil]);clear hh;go_wp2;exact⟨⟨k+1,O,by omega,by go_num,HE,Hown3.out,Hb3.out⟩,by simp[intOf];omega⟩
    |true=>
      have HE:=zb (show O++[(x.1,x.2.1)]=ql (fun a=>hasT s a.s) ((zV S).take (k+1)) by rw[HTk.out,HP.out,hh,if_pos rfl]);clear hh;have z0:w3.cell? ⟨wo.heap.size,0,none⟩=some (.int .i64 x.1):=cell_of_row w3 _ 0 _ _ _ HY3.out;have z1:w3.cell? ⟨wo.heap.size,1,none⟩=some (.int .i64 x.2.1):=cell_of_row w3 _ 1 _ _ _ HY3.out;have HX:=zb (zi.one (c:=zh) (sz:=2) w3 (x.1,x.2.1) 25 #[.int .i64 x.1,.int .i64 x.2.1] rfl);have hbs:=Hb3.out.size;go_wp2_with (at_builtin;refine zX (c:=zh) (sz:=2) (fun _=>rfl) qO 25 85 _ 16 Tryz.underlying85 Tryz.perInfo rfl (by decide) rfl _ _ rfl w2.heap.size ?hs _ _ O [(x.1,x.2.1)] rfl rfl (Hown3.out.alloc _) HX.out ?hl ?hb ?_);case hs=>simp<;>omega
      case hl=>unfold maxLen;simp<;>omega
      case hb=>simp<;>omega
      intro R hR v5 w5 own5 hg5;have HRe:=zb (hR.out.trans HE.out);have Own5:=zb own5;have Hb5:=zb ((Hb3.out.alloc hbs _).grown hg5 (by simp<;>omega) (fun g hg=>(zg Hown3.out g hg).1));clear own5 hg5 hR hbs;go_wp2;exact⟨⟨k+1,R,by omega,by go_num,HRe,Own5.out,Hb5.out⟩,by simp[intOf];omega⟩
  have HE:=zb (show vn O=actL n s l by
   have e:k=(zV S).length:=by rw[yM];omega
   rw[HP.out,e,List.take_of_length_le (Nat.le_refl _),HpS.out];rfl);have HJ:=zb (Ud (.slice a O.length cp) O wo (zi.own (fun _=>rfl) Hown.out) (by omega));clear hown hb;go_wp2_with fail;refine HJ.out.mono ?_;rintro e w3 ⟨v3,rfl,hp3,hb3⟩;have Hp3:=zb hp3;have Hb3:=zb (Hb2.out.trans ((Hb.out.trans (hb3.mono Hb.out.size)).mono Hb2.out.size));clear hp3 hb3;go_wp2;go_ret;exact⟨_,rfl,by rw[<-HE.out];exact zx Hp3.out (by have:=Hb2.out.size;have:=Hb.out.size;omega),Hb3.out⟩
theorem XH (v:Value) (l:List Ev) (n:Int) (s:ByteArray) (w:World) (h:vE w v l) (hl:l.length<=1000):
 Calls Tryz.prog 68 #[v,.int .i64 n,.string s] w (Nb w (actL n s l)):=by
 obtain⟨W,hW⟩:∃W,W=w.alloc (Obj.cells #[Value.string s] 9):=⟨_,rfl⟩;have hw0:Below w.heap.size w W:=by rw[hW];go_grown
 have r0:W.heap[w.heap.size]?=some (Obj.cells #[Value.string s] 9):=by rw[hW];exact heap_alloc_new _ _
 have HD:=zb (Xq v l n s w.heap.size W (h.below hw0) hl (zu r0) (cell_of_row W _ 0 _ _ _ r0));have HW:=zb hW;have Hw0:=zb hw0;obtain⟨av,cap,rfl,hcl,hcm⟩:=zq h.1;clear h hW hw0 r0 hcl hcm;go_enter Tryz.func68,Tryz.ntmps68;go_upto_region 1 with(fail);rw[<-HW.out];go_wp2_with fail;refine HD.out.mono ?_;rintro e w3 ⟨v3,rfl,hp3,hb3⟩;have Hp3:=zb hp3;have Hb3:=zb (Hw0.out.trans (hb3.mono Hw0.out.size));clear hp3 hb3;go_wp2;go_ret;exact⟨_,rfl,zx Hp3.out Hw0.out.size,Hb3.out⟩
end Go.Proofs.YtngippiilgdnoaaGreat
