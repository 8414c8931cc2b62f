/-
  How many periods the holdings of an account have, and how many cycles they touch: plainly.
-/
import Derived.Test.YtngippiilgdnoaaGreatMhbg
import Derived.Test.YtngippiilgdnoaaGreatMhaz
set_option maxRecDepth 100000
set_option maxHeartbeats 25600000
namespace Go.Proofs.YtngippiilgdnoaaGreat
structure vP (a:Int) (A:List (Int×Int)) (t:Int) (O:List (Int×Int)):Prop where
 srt:O.Pairwise fun c d=>c.1<d.1
 mem:∀c,c∈O↔∃m,-1<=m/\m<=4799/\c=cyc a m/\∃x,MemP A x/\0<=x/\x<=t/\beg a m<=x/\x<beg a (m+1)
theorem vP.one {a:Int} {A:List (Int×Int)} {t:Int} {O Q:List (Int×Int)} (h:vP a A t O) (g:vP a A t Q):O=Q:=
 uQ (r:=fun c d:Int×Int=>c.1<d.1) (fun _=>Int.lt_irrefl _) (fun _ _ _ h g=>Int.lt_trans h g) _ _ h.srt g.srt fun c=>(h.mem c).trans (g.mem c).symm
noncomputable def q6 (a:Int) (p:Int×Int):List (Int×Int):=cycL a (moOf a p.1) (moOf a (p.2-1))
theorem qZ {a:Int} (ha:1<=a) (hb:a<=28) {p:Int×Int} (h0:0<=p.1) (h1:p.1<p.2) (h2:p.2<=12622780800) {c:Int×Int}:
 c∈q6 a p↔∃m,-1<=m/\m<=4799/\c=cyc a m/\∃x,p.1<=x/\x<p.2/\beg a m<=x/\x<beg a (m+1):=by
 have q1:=jq (a:=a) h0 (show p.1<12622780800 by omega);have q2:=jq (a:=a) (t:=p.2-1) (by omega) (by omega);unfold q6;rw[Ut];constructor
 · rintro⟨m,g1,g2,rfl⟩
   refine⟨m,by have:=q1.1;omega,by have:=q2.2.1;omega,rfl,?_⟩;by_cases e:m=moOf a p.1;· rw[e];exact⟨p.1,Int.le_refl _,h1,q1.2.2.1,q1.2.2.2⟩
   have b1:=vN ha hb (show moOf a p.1+1<=m by omega);have b2:=vN ha hb g2;have b3:=XB ha hb (m:=m) (by have:=q1.1;omega) (by have:=q2.2.1;omega);have:=q1.2.2.2;have:=q2.2.2.1;exact⟨beg a m,by omega,by omega,Int.le_refl _,b3⟩
 rintro⟨m,g1,g2,rfl,x,x1,x2,x3,x4⟩;have hx:IsMo a x m:=⟨g1,g2,x3,x4⟩;exact⟨m,IsMo.le ha hb q1 hx x1,IsMo.le ha hb hx q2 (by omega),rfl⟩
theorem xS {a:Int} (ha:1<=a) (hb:a<=28) (m:Int):0<=(cyc a m).1/\(cyc a m).2<=12622780800:=⟨(QA ha hb).1,(QA ha hb).2⟩
theorem kF:∀{C:List (Int×Int)},Can C->C.Pairwise fun p q=>p.2<q.1
 | [],_=>List.Pairwise.nil
 |_::_,h=>List.pairwise_cons.2 ⟨h.2.1,kF h.2.2⟩
theorem EF {a:Int} (ha:1<=a) (hb:a<=28) {C:List (Int×Int)} (hin:∀p∈C,0<=p.1/\p.1<p.2/\p.2<=12622780800) {c:Int×Int}:
 c∈C.flatMap (q6 a)↔∃m,-1<=m/\m<=4799/\c=cyc a m/\∃x,MemP C x/\beg a m<=x/\x<beg a (m+1):=by
 rw[List.mem_flatMap];constructor
 · rintro⟨p,hp,hc⟩
   obtain⟨m,m1,m2,e,x,x1,x2,x3,x4⟩:=(qZ ha hb (hin p hp).1 (hin p hp).2.1 (hin p hp).2.2).1 hc;exact⟨m,m1,m2,e,x,⟨p,hp,x1,x2⟩,x3,x4⟩
 rintro⟨m,m1,m2,e,x,⟨p,hp,x1,x2⟩,x3,x4⟩;exact⟨p,hp,(qZ ha hb (hin p hp).1 (hin p hp).2.1 (hin p hp).2.2).2 ⟨m,m1,m2,e,x,x1,x2,x3,x4⟩⟩
theorem Ve {C:List (Int×Int)} {a b:List (Int×Int)} {ig inb:Bool} (h:C=vh a b ig inb):∀p∈C,0<=p.1/\p.1<p.2/\p.2<=12622780800:=by
 obtain⟨h1,h2⟩:=ZC a b ig inb;rw[<-h]at h1 h2;intro p hp;have hpp:=UB h1 p hp;have hs:∀x,p.1<=x->x<p.2->0<=x/\x<12622780800:=fun x hx1 hx2=>by
  have hm:=(h2 x).1 ⟨p,hp,hx1,hx2⟩;unfold selB at hm;rw[Bool.and_eq_true]at hm;obtain⟨q,-,hv,g1,g2⟩:=(uS _ _).1 hm.1;obtain⟨v1,v2,v3⟩:=(zw _ _).1 hv;omega
 have g1:=hs p.1 (Int.le_refl _) hpp;have g2:=hs (p.2-1) (by omega) (by omega);omega
noncomputable def vc (a t:Int) (p:Int×Int):List (Int×Int):=if yO p.1 p.2 0 (t+1)=true then q6 a (max p.1 0,min p.2 (t+1)) else []
theorem Gq {a:Int} (ha:1<=a) (hb:a<=28) {A:List (Int×Int)} (hA:∀p∈A,0<=p.1/\p.1<p.2/\p.2<=12622780800) {t:Int} (h0:0<=t) (h1:t<12622780800):
 vP a A t ((vh (A.flatMap (vc a t)) [] true false).flatMap (q6 a)):=by
 have hW:∀c,c∈A.flatMap (vc a t)↔∃m,-1<=m/\m<=4799/\c=cyc a m/\∃x,MemP A x/\0<=x/\x<=t/\beg a m<=x/\x<beg a (m+1):=fun c=>by
  rw[List.mem_flatMap];constructor
  · rintro⟨p,hp,hc⟩
    unfold vc at hc;split at hc
    · rename_i hme
      obtain⟨v1,v2,v3⟩:=(vf _ _ _ _).1 hme;obtain⟨w0,w1,w2⟩:=hA p hp;obtain⟨m,m1,m2,e,x,x1,x2,x3,x4⟩:=(qZ ha hb (p:=(max p.1 0,min p.2 (t+1))) (by dsimp only;omega) (by dsimp only;omega) (by dsimp only;omega)).1 hc;dsimp only at x1 x2;exact⟨m,m1,m2,e,x,⟨p,hp,by omega,by omega⟩,by omega,by omega,x3,x4⟩
    cases hc
  rintro⟨m,m1,m2,e,x,⟨p,hp,x1,x2⟩,y1,y2,x3,x4⟩;obtain⟨w0,w1,w2⟩:=hA p hp;refine⟨p,hp,?_⟩;unfold vc;rw[if_pos ((vf _ _ _ _).2 ⟨(zw _ _).2 ⟨w0,w1,w2⟩,(zw _ _).2 ⟨by decide,by omega,by omega⟩,by omega⟩)];exact(qZ ha hb (p:=(max p.1 0,min p.2 (t+1))) (by dsimp only;omega) (by dsimp only;omega) (by dsimp only;omega)).2 ⟨m,m1,m2,e,x,by dsimp only;omega,by dsimp only;omega,x3,x4⟩
 generalize A.flatMap (vc a t)=W at *;obtain⟨c1,c2⟩:=ZC W [] true false;have hin:=Ve (rfl:vh W [] true false=_);generalize vh W [] true false=C at *;have hm:∀x,MemP C x↔∃m,-1<=m/\m<=4799/\beg a m<=x/\x<beg a (m+1)/\∃y,MemP A y/\0<=y/\y<=t/\beg a m<=y/\y<beg a (m+1):=fun x=>by
  rw[c2];unfold selB;rw[Bool.true_or,Bool.and_true,uS];constructor
  · rintro⟨p,hp,-,p1,p2⟩
    obtain⟨m,m1,m2,rfl,y,hy⟩:=(hW p).1 hp;exact⟨m,m1,m2,p1,p2,y,hy⟩
  rintro⟨m,m1,m2,p1,p2,y,hy⟩;have:=xS ha hb m;exact⟨cyc a m,(hW _).2 ⟨m,m1,m2,rfl,y,hy⟩,(zw _ _).2 ⟨this.1,by unfold cyc;dsimp only;omega,this.2⟩,p1,p2⟩
 refine⟨?_,fun c=>?_⟩
 · refine List.pairwise_flatMap.2 ⟨fun p hp=>?_,(kF c1).imp_of_mem fun {p q} hp hq hpq c hc d hd=>?_⟩
   · unfold q6
     refine(Gr ha hb _ _).imp_of_mem fun {c d} hc hd h=>?_;obtain⟨m,-,-,rfl,x,-,-,x1,x2⟩:=(qZ ha hb (hin p hp).1 (hin p hp).2.1 (hin p hp).2.2).1 hc;unfold cyc at h⊢;dsimp only at h⊢;omega
   obtain⟨m,m1,m2,rfl,x,x1,x2,x3,x4⟩:=(qZ ha hb (hin p hp).1 (hin p hp).2.1 (hin p hp).2.2).1 hc;obtain⟨k,k1,k2,rfl,y,y1,y2,y3,y4⟩:=(qZ ha hb (hin q hq).1 (hin q hq).2.1 (hin q hq).2.2).1 hd;have hle:m<=k:=IsMo.le ha hb (t:=x) (u:=y) ⟨m1,m2,x3,x4⟩ ⟨k1,k2,y3,y4⟩ (by omega);have hne:m≠k:=by
    intro e;subst e;obtain⟨j,j1,j2,j3,j4,z,hz⟩:=(hm x).1 ⟨p,hp,x1,x2⟩;have ej:j=m:=IsMo.one ha hb (t:=x) ⟨j1,j2,j3,j4⟩ ⟨m1,m2,x3,x4⟩;subst ej;obtain⟨r,hr,r1,r2⟩:=(hm p.2).2 ⟨j,j1,j2,by omega,by omega,z,hz⟩;rcases Classical.em (r=p)with e|e;· subst e;omega
    have hall:∀u v,u∈C->v∈C->u≠v->u.2<v.1\/v.2<u.1:=fun u v hu hv huv=>by
     obtain⟨i,hi,rfl⟩:=List.mem_iff_getElem.1 hu;obtain⟨j,hj,rfl⟩:=List.mem_iff_getElem.1 hv;rcases Nat.lt_trichotomy i j with h|h|h;· exact Or.inl (List.pairwise_iff_getElem.1 (kF c1) i j hi hj h)
     · subst h;exact absurd rfl huv
     exact Or.inr (List.pairwise_iff_getElem.1 (kF c1) j i hj hi h)
    rcases hall r p hr hp e with h|h;· have:=(hin p hp).2.1;omega
    omega
   have h1:=vN ha hb (show m+1<=k by omega);show beg a m<beg a k;omega
 rw[EF ha hb hin];constructor
 · rintro⟨m,m1,m2,e,x,hx,x3,x4⟩
   obtain⟨j,j1,j2,j3,j4,y,hy⟩:=(hm x).1 hx;have ej:j=m:=IsMo.one ha hb (t:=x) ⟨j1,j2,j3,j4⟩ ⟨m1,m2,x3,x4⟩;subst ej;exact⟨j,m1,m2,e,y,hy⟩
 rintro⟨m,m1,m2,e,y,hy⟩;exact⟨m,m1,m2,e,y,(hm y).2 ⟨m,m1,m2,hy.2.2.2.1,hy.2.2.2.2,y,hy⟩,hy.2.2.2⟩
end Go.Proofs.YtngippiilgdnoaaGreat
namespace Go.Proofs.YtngippiilgdnoaaGreat
open Go.RowKit
structure BuX where
 b:Bu
 za:Option Addr
 zn:Nat
 zc:Nat
def zr (x:BuX):List Value:=[.int .i64 x.b.ac,.int .i64 x.b.sb,.string x.b.pr,.int .i64 x.b.ix,.int .i64 x.b.kd,.slice x.za x.zn x.zc,.int .i64 x.b.f,.int .i64 x.b.t,.int .i64 x.b.un,.int .i64 x.b.lf,.int .i64 x.b.pt,.bool x.b.sh]
def vi (x:BuX):Value:=.agg #[.int .i64 x.b.ac,.int .i64 x.b.sb,.string x.b.pr,.int .i64 x.b.ix,.int .i64 x.b.kd,.slice x.za x.zn x.zc,.int .i64 x.b.f,.int .i64 x.b.t,.int .i64 x.b.un,.int .i64 x.b.lf,.int .i64 x.b.pt,.bool x.b.sh]
theorem bu12 {w:World} {b o:Nat} {x:BuX} (h:RecR zr 12 w b o x):w.cell? ⟨b,o,none⟩=some (.int .i64 x.b.ac)/\w.cell? ⟨b,o+1,none⟩=some (.int .i64 x.b.sb)/\w.cell? ⟨b,o+2,none⟩=some (.string x.b.pr)/\w.cell? ⟨b,o+3,none⟩=some (.int .i64 x.b.ix)/\w.cell? ⟨b,o+4,none⟩=some (.int .i64 x.b.kd)/\w.cell? ⟨b,o+5,none⟩=some (.slice x.za x.zn x.zc)/\w.cell? ⟨b,o+6,none⟩=some (.int .i64 x.b.f)/\w.cell? ⟨b,o+7,none⟩=some (.int .i64 x.b.t)/\w.cell? ⟨b,o+8,none⟩=some (.int .i64 x.b.un)/\w.cell? ⟨b,o+9,none⟩=some (.int .i64 x.b.lf)/\w.cell? ⟨b,o+10,none⟩=some (.int .i64 x.b.pt)/\w.cell? ⟨b,o+11,none⟩=some (.bool x.b.sh):=⟨h 0 (by decide),h 1 (by decide),h 2 (by decide),h 3 (by decide),h 4 (by decide),h 5 (by decide),h 6 (by decide),h 7 (by decide),h 8 (by decide),h 9 (by decide),h 10 (by decide),h 11 (by decide)⟩
def uF (x:BuX):Obj:=Obj.cells #[.int .i64 x.b.ac,.int .i64 x.b.sb,.string x.b.pr,.int .i64 x.b.ix,.int .i64 x.b.kd,.slice x.za x.zn x.zc,.int .i64 x.b.f,.int .i64 x.b.t,.int .i64 x.b.un,.int .i64 x.b.lf,.int .i64 x.b.pt,.bool x.b.sh] 60
theorem jB {w:World} {g:Nat} {x:BuX} (h:w.heap[g]?=some (uF x)):w.cell? ⟨g,0,none⟩=some (.int .i64 x.b.ac)/\w.cell? ⟨g,1,none⟩=some (.int .i64 x.b.sb)/\w.cell? ⟨g,2,none⟩=some (.string x.b.pr)/\w.cell? ⟨g,3,none⟩=some (.int .i64 x.b.ix)/\w.cell? ⟨g,4,none⟩=some (.int .i64 x.b.kd)/\w.cell? ⟨g,5,none⟩=some (.slice x.za x.zn x.zc)/\w.cell? ⟨g,6,none⟩=some (.int .i64 x.b.f)/\w.cell? ⟨g,7,none⟩=some (.int .i64 x.b.t)/\w.cell? ⟨g,8,none⟩=some (.int .i64 x.b.un)/\w.cell? ⟨g,9,none⟩=some (.int .i64 x.b.lf)/\w.cell? ⟨g,10,none⟩=some (.int .i64 x.b.pt)/\w.cell? ⟨g,11,none⟩=some (.bool x.b.sh):=by unfold uF at h;exact⟨cell_of_row w _ 0 _ _ _ h,cell_of_row w _ 1 _ _ _ h,cell_of_row w _ 2 _ _ _ h,cell_of_row w _ 3 _ _ _ h,cell_of_row w _ 4 _ _ _ h,cell_of_row w _ 5 _ _ _ h,cell_of_row w _ 6 _ _ _ h,cell_of_row w _ 7 _ _ _ h,cell_of_row w _ 8 _ _ _ h,cell_of_row w _ 9 _ _ _ h,cell_of_row w _ 10 _ _ _ h,cell_of_row w _ 11 _ _ _ h⟩
structure BuRd (w:World) (x:BuX):Prop where
 z:zR w (.slice x.za x.zn x.zc) x.b.zs
 p:x.b.pr.size<=maxLen
 len:x.b.zs.length*16<=140737488355328
theorem BuRd.below {w w':World} {x:BuX} (h:BuRd w x) (hb:Below w.heap.size w w'):BuRd w' x:=⟨h.z.below hb,h.p,h.len⟩
def Nl (w:World) (v:Value) (X:List BuX):Prop:=zi zr 12 w v X/\∀x∈X,BuRd w x
theorem Nl.below {w w':World} {v:Value} {X:List BuX} (h:Nl w v X) (hb:Below w.heap.size w w'):Nl w' v X:=⟨h.1.below hb,fun x hx=>(h.2 x hx).below hb⟩
def plB (X:List BuX):List Bu:=X.map (·.b)
theorem jp (X:List BuX):(plB X).length=X.length:=List.length_map ..
theorem VZ (x y:BuX) (w:World):
 Calls Tryz.prog 94 #[vi x,vi y] w fun e w'=>e=.returned (.bool (yx x.b y.b))/\Below w.heap.size w w':=by
 obtain⟨W,hW,r0,r1,hw0,hz⟩:=vd w (uF x) (uF y);have HW:=zb hW;have Hb:=zb hw0;obtain⟨x0,x1,x2,x3,x4,-,x6,x7,-,-,-,-⟩:=jB r0;obtain⟨y0,y1,y2,y3,y4,-,y6,y7,-,-,-,-⟩:=jB r1;unfold uF at HW;have HD:=zb (show yx x.b y.b=yx x.b y.b from rfl);unfold yx at HD;clear hW r0 r1 hw0 hz;unfold vi;obtain⟨⟨a0,a1,a2,a3,a4,azs,a6,a7,a8,a9,a10,a11⟩,za,zn,zc⟩:=x;obtain⟨⟨b0,b1,b2,b3,b4,bzs,b6,b7,b8,b9,b10,b11⟩,ya,yn,yc⟩:=y;dsimp only at *;by_cases h0:a1=b1
 · have k0:(a1==b1)=true:=beq_iff_eq.2 h0
   by_cases h1:yt a2 b2=true
   · have k1:(a2.toList==b2.toList)=true:=h1
     by_cases h2:a3=b3
     · have k2:(a3==b3)=true:=beq_iff_eq.2 h2
       by_cases h3:a4=b4
       · have k3:(a4==b4)=true:=beq_iff_eq.2 h3
         by_cases h4:a7=b6
         · have k4:(a7==b6)=true:=beq_iff_eq.2 h4
           have HE:=zb (show yx ⟨a0,a1,a2,a3,a4,azs,a6,a7,a8,a9,a10,a11⟩ ⟨b0,b1,b2,b3,b4,bzs,b6,b7,b8,b9,b10,b11⟩=true by unfold yx;simp[h0,h1,h2,h3,h4]);rw[HE.out];clear HD h0 h1 h2 h3 h4;go_enter Tryz.func94,Tryz.ntmps94;go_upto_region 1 with(fail);rw[<-HW.out];go_wp2_with fail;go_ret;exact⟨zo (by first|rfl|simp),Hb.out⟩
         have k4:(a7==b6)=false:=beq_eq_false_iff_ne.2 h4;have HE:=zb (show yx ⟨a0,a1,a2,a3,a4,azs,a6,a7,a8,a9,a10,a11⟩ ⟨b0,b1,b2,b3,b4,bzs,b6,b7,b8,b9,b10,b11⟩=false by unfold yx;simp[h4]);rw[HE.out];clear HD h0 h1 h2 h3 h4;go_enter Tryz.func94,Tryz.ntmps94;go_upto_region 1 with(fail);rw[<-HW.out];go_wp2_with fail;go_ret;exact⟨zo (by first|rfl|simp),Hb.out⟩
       have k3:(a4==b4)=false:=beq_eq_false_iff_ne.2 h3;have HE:=zb (show yx ⟨a0,a1,a2,a3,a4,azs,a6,a7,a8,a9,a10,a11⟩ ⟨b0,b1,b2,b3,b4,bzs,b6,b7,b8,b9,b10,b11⟩=false by unfold yx;simp[h3]);rw[HE.out];clear HD h0 h1 h2 h3;go_enter Tryz.func94,Tryz.ntmps94;go_upto_region 1 with(fail);rw[<-HW.out];go_wp2_with fail;go_ret;exact⟨zo (by first|rfl|simp),Hb.out⟩
     have k2:(a3==b3)=false:=beq_eq_false_iff_ne.2 h2;have HE:=zb (show yx ⟨a0,a1,a2,a3,a4,azs,a6,a7,a8,a9,a10,a11⟩ ⟨b0,b1,b2,b3,b4,bzs,b6,b7,b8,b9,b10,b11⟩=false by unfold yx;simp[h2]);rw[HE.out];clear HD h0 h1 h2;go_enter Tryz.func94,Tryz.ntmps94;go_upto_region 1 with(fail);rw[<-HW.out];go_wp2_with fail;go_ret;exact⟨zo (by first|rfl|simp),Hb.out⟩
   have h1:yt a2 b2=false:=by simpa using h1
   have k1:(a2.toList==b2.toList)=false:=h1;have HE:=zb (show yx ⟨a0,a1,a2,a3,a4,azs,a6,a7,a8,a9,a10,a11⟩ ⟨b0,b1,b2,b3,b4,bzs,b6,b7,b8,b9,b10,b11⟩=false by unfold yx;simp[h1]);rw[HE.out];clear HD h0 h1;go_enter Tryz.func94,Tryz.ntmps94;go_upto_region 1 with(fail);rw[<-HW.out];go_wp2_with fail;go_ret;exact⟨zo (by first|rfl|simp),Hb.out⟩
 have k0:(a1==b1)=false:=beq_eq_false_iff_ne.2 h0;have HE:=zb (show yx ⟨a0,a1,a2,a3,a4,azs,a6,a7,a8,a9,a10,a11⟩ ⟨b0,b1,b2,b3,b4,bzs,b6,b7,b8,b9,b10,b11⟩=false by unfold yx;simp[h0]);rw[HE.out];clear HD h0;go_enter Tryz.func94,Tryz.ntmps94;go_upto_region 1 with(fail);rw[<-HW.out];go_wp2_with fail;go_ret;exact⟨zo (by first|rfl|simp),Hb.out⟩
theorem Qr (x y:BuX) (w:World):
 Calls Tryz.prog 96 #[vi x,vi y] w fun e w'=>e=.returned (.bool (yB x.b y.b))/\Below w.heap.size w w':=by
 obtain⟨W,hW,r0,r1,hw0,hz⟩:=vd w (uF x) (uF y);have HW:=zb hW;have Hb:=zb hw0;obtain⟨x0,x1,x2,x3,x4,-,x6,x7,-,-,-,-⟩:=jB r0;obtain⟨y0,y1,y2,y3,y4,-,y6,y7,-,-,-,-⟩:=jB r1;unfold uF at HW;have HD:=zb (show yB x.b y.b=yB x.b y.b from rfl);unfold yB at HD;clear hW r0 r1 hw0 hz;unfold vi;obtain⟨⟨a0,a1,a2,a3,a4,azs,a6,a7,a8,a9,a10,a11⟩,za,zn,zc⟩:=x;obtain⟨⟨b0,b1,b2,b3,b4,bzs,b6,b7,b8,b9,b10,b11⟩,ya,yn,yc⟩:=y;dsimp only at *;by_cases h0:a0=b0
 · have k0:(a0 != b0)=false:=bne_eq_false_iff_eq.2 h0
   by_cases h1:a1=b1
   · have k1:(a1 != b1)=false:=bne_eq_false_iff_eq.2 h1
     by_cases h2:yt a2 b2=true
     · have k2:(a2.toList==b2.toList)=true:=h2
       by_cases h3:a3=b3
       · have k3:(a3 != b3)=false:=bne_eq_false_iff_eq.2 h3
         have HE:=zb (show yB ⟨a0,a1,a2,a3,a4,azs,a6,a7,a8,a9,a10,a11⟩ ⟨b0,b1,b2,b3,b4,bzs,b6,b7,b8,b9,b10,b11⟩=decide (a6<b6) by unfold yB;simp[h0,h1,h2,h3]);clear HD h0 h1 h2 h3;rw[HE.out];go_enter Tryz.func96,Tryz.ntmps96;go_upto_region 1 with(fail);rw[<-HW.out];go_wp2_with fail;go_ret;exact⟨zo (by first|rfl|simp),Hb.out⟩
       have k3:(a3 != b3)=true:=bne_iff_ne.2 h3;have HE:=zb (show yB ⟨a0,a1,a2,a3,a4,azs,a6,a7,a8,a9,a10,a11⟩ ⟨b0,b1,b2,b3,b4,bzs,b6,b7,b8,b9,b10,b11⟩=decide (a3<b3) by unfold yB;simp[h0,h1,h2,h3]);clear HD h0 h1 h2 h3;rw[HE.out];go_enter Tryz.func96,Tryz.ntmps96;go_upto_region 1 with(fail);rw[<-HW.out];go_wp2_with fail;go_ret;exact⟨zo (by first|rfl|simp),Hb.out⟩
     have h2:yt a2 b2=false:=by simpa using h2
     have k2:(a2.toList==b2.toList)=false:=h2;have HE:=zb (show yB ⟨a0,a1,a2,a3,a4,azs,a6,a7,a8,a9,a10,a11⟩ ⟨b0,b1,b2,b3,b4,bzs,b6,b7,b8,b9,b10,b11⟩=ltS a2 b2 by unfold yB;simp[h0,h1,h2]);clear HD h0 h1 h2;rw[HE.out];go_enter Tryz.func96,Tryz.ntmps96;go_upto_region 1 with(fail);rw[<-HW.out];go_wp2_with fail;go_ret;exact⟨zo (by first|rfl|simp),Hb.out⟩
   have k1:(a1 != b1)=true:=bne_iff_ne.2 h1;have HE:=zb (show yB ⟨a0,a1,a2,a3,a4,azs,a6,a7,a8,a9,a10,a11⟩ ⟨b0,b1,b2,b3,b4,bzs,b6,b7,b8,b9,b10,b11⟩=decide (a1<b1) by unfold yB;simp[h0,h1]);clear HD h0 h1;rw[HE.out];go_enter Tryz.func96,Tryz.ntmps96;go_upto_region 1 with(fail);rw[<-HW.out];go_wp2_with fail;go_ret;exact⟨zo (by first|rfl|simp),Hb.out⟩
 have k0:(a0 != b0)=true:=bne_iff_ne.2 h0;have HE:=zb (show yB ⟨a0,a1,a2,a3,a4,azs,a6,a7,a8,a9,a10,a11⟩ ⟨b0,b1,b2,b3,b4,bzs,b6,b7,b8,b9,b10,b11⟩=decide (a0<b0) by unfold yB;simp[h0]);clear HD h0;rw[HE.out];go_enter Tryz.func96,Tryz.ntmps96;go_upto_region 1 with(fail);rw[<-HW.out];go_wp2_with fail;go_ret;exact⟨zo (by first|rfl|simp),Hb.out⟩
theorem GB {w:World} {ops:Array Oper} {rest:List Oper} {o:Oper} {a:Act} {Q:Exit->Act->World->Prop} (hgd:o.guard=none) (s x:Operand)
 (ho:o.op=.call { callee:=.builtin .append,args:=#[s,x],argTypes:=#[58,58] })
 (base:Nat) (hbase:base<=w.heap.size) (v vx:Value) (L X:List ByteArray) (hs:a.eval s=v) (hx:a.eval x=vx) (hown:w.ownsRow base 9 1 v L.length (L.flatMap zm)) (hX:zi zm 1 w vx X) (hlen:L.length+X.length<=maxLen) (hby:(L.length+X.length)*16<=140737488355328)
 (h:∀R:List ByteArray,RowKit.Hid (R=L++X)->∀v' w',w'.ownsRow base 9 1 v' R.length (R.flatMap zm)->Below base w w'->wpList Tryz.prog ops Q rest (a.put o.dst v') w'):wpList Tryz.prog ops Q (o::rest) a w:=
 ZG (c:=zm) (sz:=1) (fun _=>rfl) (fun a u hu=>by unfold zm at hu;rw[List.mem_singleton]at hu;subst hu;rfl) 9 58 _ 16 Tryz.underlying58 Tryz.stringInfo rfl (by decide) hgd s x ho base hbase v vx L X hs hx hown hX hlen hby h
structure BuO (base:Nat) (w:World) (x:BuX):Prop where
 row:w.ownsRow base 9 1 (.slice x.za x.zn x.zc) x.b.zs.length (x.b.zs.flatMap zm)
 sizes:∀s∈x.b.zs,s.size<=maxLen
 p:x.b.pr.size<=maxLen
 len:x.b.zs.length*16<=140737488355328
theorem BuO.below {base:Nat} {w w':World} {x:BuX} (h:BuO base w x) (hb:Below w.heap.size w w'):BuO base w' x:=⟨zd h.row hb,h.sizes,h.p,h.len⟩
theorem BuO.down {b b':Nat} {w:World} {x:BuX} (h:BuO b w x) (hb:b'<=b):BuO b' w x:=⟨zx h.row hb,h.sizes,h.p,h.len⟩
theorem BuO.rd {base:Nat} {w:World} {x:BuX} (h:BuO base w x):BuRd w x:=⟨ke (zi.own (fun _=>rfl) h.row) h.sizes,h.p,h.len⟩
theorem BuO.growT {base base':Nat} {w w':World} {x:BuX} (h:BuO base w x) {v:Value} {e:TypeId} {sz n:Nat} {xs:List Value} (ho:w.ownsRow base' e sz v n xs) (he:e≠9) (hg:w.grownBy w' v.ownBlock):BuO base w' x:=
 ⟨vw h.row hg (yk h.row ho he),h.sizes,h.p,h.len⟩
theorem BuO.turn {base:Nat} {w w':World} {x:BuX} (h:BuO base w x) {g:Nat} (hne:(Value.slice x.za x.zn x.zc).ownBlock≠some g) (hg:w.grownBy w' (some g)):BuO base w' x:=
 ⟨vw h.row hg (Or.inr hne),h.sizes,h.p,h.len⟩
def BuTo (b:Bu) (w:World) (e:Ending) (w':World):Prop:=∃x:BuX,e=.returned (vi x)/\x.b=b/\BuO w.heap.size w' x/\Below w.heap.size w w'
theorem ZM {w:World} {v:Value} {l:List ByteArray} (h:zR w v l):∀s∈l,s.size<=maxLen:=by obtain⟨av,cap,rfl,-,-,hx⟩:=h;intro s hs;obtain⟨i,hi,rfl⟩:=List.mem_iff_getElem.1 hs;obtain⟨b,o,-,-,hx⟩:=hx (by rintro rfl;cases hi);exact(hx i hi).2
theorem uD (x:BuX) (w:World) (h:BuRd w x):Calls Tryz.prog 51 #[vi x] w (BuTo x.b w):=by
 obtain⟨⟨a0,a1,a2,a3,a4,azs,a6,a7,a8,a9,a10,a11⟩,za,zn,zc⟩:=x;obtain⟨hz,hp,hl⟩:=h;dsimp only at hz hp hl;have hsz:=ZM hz;obtain⟨av,cap,e,hlc,hm,hzz⟩:=id hz;cases e;clear hzz;have hm:=hm.1;obtain⟨W,hW,r0,r1,hw0,hz1⟩:=vd w (Obj.cells #[.int .i64 a0,.int .i64 a1,.string a2,.int .i64 a3,.int .i64 a4,.slice za azs.length zc,.int .i64 a6,.int .i64 a7,.int .i64 a8,.int .i64 a9,.int .i64 a10,.bool a11] 60) (Obj.cells #[.int .i64 0,.int .i64 0,.string ⟨#[]⟩,.int .i64 0,.int .i64 0,.slice none 0 0,.int .i64 0,.int .i64 0,.int .i64 0,.int .i64 0,.int .i64 0,.bool false] 60);have HZ:=zb (qw (hz.below hw0));have HP:=zb (And.intro hsz (And.intro hp hl));unfold vi;dsimp only;have HW:=zb hW;have Hw0:=zb hw0;have R0:=zb r0;have R1:=zb r1;have x5:=cell_of_row W _ 5 _ _ _ r0;have f5:=frozen_of_row W _ 5 _ _ r0;have hbY:Below W.heap.size W W:=Below.refl _ _;have Hown0:=zb (show W.ownsRow W.heap.size 9 1 (.slice none 0 0) ([]:List ByteArray).length (([]:List ByteArray).flatMap zm)from World.ownsRow_nil _ _ _ _);have HbY:=zb hbY;have hbs:=hbY.size;clear hW r0 r1 hw0 hz hsz hp hl hbY;go_enter Tryz.func51,Tryz.ntmps51;go_upto_region 1 with(fail);rw[<-HW.out];go_wp2_with (at_builtin;refine GB rfl _ _ rfl W.heap.size hbs _ _ [] azs rfl rfl Hown0.out (HZ.out.below HbY.out) (by simpa using Nat.le_trans hlc hm) (by simpa using HP.out.2.2) ?_);intro R hR v1 w1 own1 hb1;obtain rfl:azs=R:=hR.out.symm;obtain⟨qa,qc,rfl,-,-⟩:=zf own1;have Own1:=zb own1;have hbW1:=HbY.out.trans hb1;have HbW1:=zb hbW1;have Hb1:=zb (Hw0.out.trans (hbW1.mono Hw0.out.size));have q0:=(hbW1.block _ (by omega)).trans R0.out;have q1:=(hbW1.block _ hz1).trans R1.out;have g5:=frozen_of_row w1 _ 5 _ _ q0;have c5:=cell_of_row w1 _ 5 _ _ _ q0;obtain⟨Z,hZ⟩:∃Z,Z=w1.setCell ⟨w.heap.size,5,none⟩ (.slice qa azs.length qc):=⟨_,rfl⟩;have Z0:=zb (show Z.heap[w.heap.size]?=some (Obj.cells #[.int .i64 a0,.int .i64 a1,.string a2,.int .i64 a3,.int .i64 a4,.slice qa azs.length qc,.int .i64 a6,.int .i64 a7,.int .i64 a8,.int .i64 a9,.int .i64 a10,.bool a11] 60) by rw[hZ];exact zU _ q0);have Z1:=zb (show Z.heap[w.heap.size+1]?=some (Obj.cells #[.int .i64 0,.int .i64 0,.string ⟨#[]⟩,.int .i64 0,.int .i64 0,.slice none 0 0,.int .i64 0,.int .i64 0,.int .i64 0,.int .i64 0,.int .i64 0,.bool false] 60) by rw[hZ];exact zF q1 (by omega));have HbZ:=zb (show Below w.heap.size w Z by rw[hZ];exact Hb1.out.setCell (Nat.le_refl _) _);have Hq:=zb (show Z.ownsRow W.heap.size 9 1 (.slice qa azs.length qc) _ _ by rw[hZ];exact zp Own1.out (zk Own1.out q0 (by decide)));have HZe:=zb hZ;clear hZ q0 q1 own1 hb1 hbW1 x5 f5 hR;go_upto_region 2 with(fail);rw[<-HZe.out];have tQ:=fun j=>cell_of_row Z _ j _ _ _ Z0.out;have z0:=tQ 0;have z1:=tQ 1;have z2:=tQ 2;have z3:=tQ 3;have z4:=tQ 4;have z5:=tQ 5;have z6:=tQ 6;have z7:=tQ 7;have z8:=tQ 8;have z9:=tQ 9;have z10:=tQ 10;have z11:=tQ 11;clear tQ;have HbF:=zb (zj HbZ.out (show w.heap.size<=w.heap.size+1 by omega) #[.int .i64 a0,.int .i64 a1,.string a2,.int .i64 a3,.int .i64 a4,.slice qa azs.length qc,.int .i64 a6,.int .i64 a7,.int .i64 a8,.int .i64 a9,.int .i64 a10,.bool a11]);have tQ:=fun j=>cell_setRow_same Z (w.heap.size+1) j _ #[.int .i64 a0,.int .i64 a1,.string a2,.int .i64 a3,.int .i64 a4,.slice qa azs.length qc,.int .i64 a6,.int .i64 a7,.int .i64 a8,.int .i64 a9,.int .i64 a10,.bool a11] _ _ Z1.out;have t0:=tQ 0;have t1:=tQ 1;have t2:=tQ 2;have t3:=tQ 3;have t4:=tQ 4;have t5:=tQ 5;have t6:=tQ 6;have t7:=tQ 7;have t8:=tQ 8;have t9:=tQ 9;have t10:=tQ 10;have t11:=tQ 11;clear tQ;repeat (first|refine wpList_store_row rfl _ _ _ rfl (w.heap.size+1) #[.int .i64 a0,.int .i64 a1,.string a2,.int .i64 a3,.int .i64 a4,.slice qa azs.length qc,.int .i64 a6,.int .i64 a7,.int .i64 a8,.int .i64 a9,.int .i64 a10,.bool a11] rfl rfl 60 _ Z1.out (by kernel_rfl) rfl (by simp[Value.oneCell']) ?_|go_step)
 refine bodyPost_ret (v:=.agg #[.int .i64 a0,.int .i64 a1,.string a2,.int .i64 a3,.int .i64 a4,.slice qa azs.length qc,.int .i64 a6,.int .i64 a7,.int .i64 a8,.int .i64 a9,.int .i64 a10,.bool a11]) (by simp[results,Tryz.results51,go_sem,t0,t1,t2,t3,t4,t5,t6,t7,t8,t9,t10,t11]) rfl ?_;have hq:=zt Hq.out (zk Hq.out Z1.out (by decide)) #[.int .i64 a0,.int .i64 a1,.string a2,.int .i64 a3,.int .i64 a4,.slice qa azs.length qc,.int .i64 a6,.int .i64 a7,.int .i64 a8,.int .i64 a9,.int .i64 a10,.bool a11];exact⟨⟨⟨a0,a1,a2,a3,a4,azs,a6,a7,a8,a9,a10,a11⟩,qa,azs.length,qc⟩,rfl,rfl,⟨zx hq Hw0.out.size,HP.out.1,HP.out.2.1,HP.out.2.2⟩,HbF.out⟩
theorem UA (x y:BuX) (r:Int) (w:World) (h:BuRd w y):Calls Tryz.prog 95 #[vi x,vi y,.int .i64 r] w (BuTo (ZD x.b y.b r) w):=by
 obtain⟨W,hW,r0,r1,r2,hw0,hz⟩:=qf w (uF x) (uF y) (Obj.cells #[.int .i64 0,.int .i64 0,.string ⟨#[]⟩,.int .i64 0,.int .i64 0,.slice none 0 0,.int .i64 0,.int .i64 0,.int .i64 0,.int .i64 0,.int .i64 0,.bool false] 60);have HCl:=zb (uD y W (h.below hw0));have HPr:=zb (fun(q:BuX) (w1:World)=>VZ x q w1);have Hx0:=zb r0;obtain⟨⟨a0,a1,a2,a3,a4,azs,a6,a7,a8,a9,a10,a11⟩,za,zn,zc⟩:=x;obtain⟨⟨b0,b1,b2,b3,b4,bzs,b6,b7,b8,b9,b10,b11⟩,ya,yn,yc⟩:=y;have HCy:=zb (show ZD ⟨a0,a1,a2,a3,a4,azs,a6,a7,a8,a9,a10,a11⟩ ⟨b0,b1,b2,b3,b4,bzs,b6,b7,b8,b9,b10,b11⟩ r=if yx ⟨a0,a1,a2,a3,a4,azs,a6,a7,a8,a9,a10,a11⟩ ⟨b0,b1,b2,b3,b4,bzs,b6,b7,b8,b9,b10,b11⟩=true then addN ⟨b0,b1,b2,b3,b4,bzs,b6,b7,b8,b9,b10,b11⟩ (KU ⟨a0,a1,a2,a3,a4,azs,a6,a7,a8,a9,a10,a11⟩ r) else ⟨b0,b1,b2,b3,b4,bzs,b6,b7,b8,b9,b10,b11⟩ from rfl);have HRo:=zb (show KU ⟨a0,a1,a2,a3,a4,azs,a6,a7,a8,a9,a10,a11⟩ r=max 0 (min a9 r)from rfl);unfold uF at hW r0 r1;unfold vi;unfold vi at HCl HPr;dsimp only at *;have HW:=zb hW;have Hw0:=zb hw0;have R0:=zb r0;have R1:=zb r1;have R2:=zb r2;have tQ:=fun j=>cell_of_row W _ j _ _ _ r1;have y0:=tQ 0;have y1:=tQ 1;have y2:=tQ 2;have y3:=tQ 3;have y4:=tQ 4;have y5:=tQ 5;have y6:=tQ 6;have y7:=tQ 7;have y8:=tQ 8;have y9:=tQ 9;have y10:=tQ 10;have y11:=tQ 11;clear tQ hW r0 r1 r2 hw0 h;go_enter Tryz.func95,Tryz.ntmps95;go_upto_region 1 with(fail);rw[<-HW.out];go_wp2_with fail;refine HCl.out.mono ?_;rintro e w1 ⟨⟨q,qa,qn,qc⟩,rfl,hq,hqo,hb1⟩;dsimp only at hq;subst hq;have Hqo:=zb hqo;have Hb1:=zb (Hw0.out.trans (hb1.mono Hw0.out.size));have hw1:=hb1.size;have q0:=(hb1.block _ (by omega)).trans R0.out;have q1:=(hb1.block _ (by omega)).trans R1.out;have q2:=(hb1.block _ hz).trans R2.out;unfold vi;dsimp only;obtain⟨Z,hZ⟩:∃Z,Z=w1.alloc (Obj.cells #[.int .i64 b0,.int .i64 b1,.string b2,.int .i64 b3,.int .i64 b4,.slice qa qn qc,.int .i64 b6,.int .i64 b7,.int .i64 b8,.int .i64 b9,.int .i64 b10,.bool b11] 60):=⟨_,rfl⟩;have hbZ:Below w1.heap.size w1 Z:=by rw[hZ];exact(Below.refl _ _).alloc (Nat.le_refl _) _
 have ZN:=zb (show Z.heap[w1.heap.size]?=some (Obj.cells #[.int .i64 b0,.int .i64 b1,.string b2,.int .i64 b3,.int .i64 b4,.slice qa qn qc,.int .i64 b6,.int .i64 b7,.int .i64 b8,.int .i64 b9,.int .i64 b10,.bool b11] 60) by rw[hZ];exact heap_alloc_new _ _);have Z0:=zb ((hbZ.block _ (by omega)).trans q0);have Z1:=zb ((hbZ.block _ (by omega)).trans q1);have Z2:=zb ((hbZ.block _ (by omega)).trans q2);have HbZ:=zb (Hb1.out.trans (hbZ.mono Hb1.out.size));have HqZ:=zb (hqo.below hbZ);have HZ:=zb hZ;have hzz:w1.heap.size<Z.heap.size:=(zu ZN.out);clear hZ hqo hb1 q0 q1 q2 hbZ y0 y1 y2 y3 y4 y5 y6 y7 y8 y9 y10 y11;go_upto_region 2 with(fail);rw[<-HZ.out];have tQ:=fun j=>cell_of_row Z _ j _ _ _ Z0.out;have x0:=tQ 0;have x1:=tQ 1;have x2:=tQ 2;have x3:=tQ 3;have x4:=tQ 4;have x5:=tQ 5;have x6:=tQ 6;have x7:=tQ 7;have x8:=tQ 8;have x9:=tQ 9;have x10:=tQ 10;have x11:=tQ 11;clear tQ;have tQ:=fun j=>cell_of_row Z _ j _ _ _ Z1.out;have z0:=tQ 0;have z1:=tQ 1;have z2:=tQ 2;have z3:=tQ 3;have z4:=tQ 4;have z5:=tQ 5;have z6:=tQ 6;have z7:=tQ 7;have z8:=tQ 8;have z9:=tQ 9;have z10:=tQ 10;have z11:=tQ 11;clear tQ;go_wp2_with fail;have HP1:=zb (HPr.out ⟨⟨b0,b1,b2,b3,b4,bzs,b6,b7,b8,b9,b10,b11⟩,ya,yn,yc⟩ Z);dsimp only at HP1;refine HP1.out.mono ?_;rintro e w2 ⟨rfl,hb2⟩;have hw2:=hb2.size;have N0:=zb ((hb2.block _ (by omega)).trans Z0.out);have NN:=zb ((hb2.block _ hzz).trans ZN.out);have N2:=zb ((hb2.block _ (by omega)).trans Z2.out);have HbN:=zb (HbZ.out.trans (hb2.mono HbZ.out.size));have HqN:=zb (HqZ.out.below hb2);have hnn:w1.heap.size<w2.heap.size:=by omega
 clear hb2 x0 x1 x2 x3 x4 x5 x6 x7 x8 x9 x10 x11 z0 z1 z2 z3 z4 z5 z6 z7 z8 z9 z10 z11;cases hp:yx ⟨a0,a1,a2,a3,a4,azs,a6,a7,a8,a9,a10,a11⟩ ⟨b0,b1,b2,b3,b4,bzs,b6,b7,b8,b9,b10,b11⟩ with
 |false=>
   have HE:=zb (HCy.out.trans (if_neg (by rw[hp];decide)));clear hp;have tQ:=fun j=>cell_of_row w2 _ j _ _ _ NN.out;have n0:=tQ 0;have n1:=tQ 1;have n2:=tQ 2;have n3:=tQ 3;have n4:=tQ 4;have n5:=tQ 5;have n6:=tQ 6;have n7:=tQ 7;have n8:=tQ 8;have n9:=tQ 9;have n10:=tQ 10;have n11:=tQ 11;clear tQ;have HbF:=zb (zj HbN.out (show w.heap.size<=w.heap.size+1+1 by omega) #[.int .i64 b0,.int .i64 b1,.string b2,.int .i64 b3,.int .i64 b4,.slice qa qn qc,.int .i64 b6,.int .i64 b7,.int .i64 b8,.int .i64 b9,.int .i64 b10,.bool b11]);go_upto_region 6 with(fail);have tQ:=fun j=>cell_setRow_same w2 (w.heap.size+1+1) j _ #[.int .i64 b0,.int .i64 b1,.string b2,.int .i64 b3,.int .i64 b4,.slice qa qn qc,.int .i64 b6,.int .i64 b7,.int .i64 b8,.int .i64 b9,.int .i64 b10,.bool b11] _ _ N2.out;have t0:=tQ 0;have t1:=tQ 1;have t2:=tQ 2;have t3:=tQ 3;have t4:=tQ 4;have t5:=tQ 5;have t6:=tQ 6;have t7:=tQ 7;have t8:=tQ 8;have t9:=tQ 9;have t10:=tQ 10;have t11:=tQ 11;clear tQ;repeat (first|refine wpList_store_row rfl _ _ _ rfl (w.heap.size+1+1) #[.int .i64 b0,.int .i64 b1,.string b2,.int .i64 b3,.int .i64 b4,.slice qa qn qc,.int .i64 b6,.int .i64 b7,.int .i64 b8,.int .i64 b9,.int .i64 b10,.bool b11] rfl rfl 60 _ N2.out (by kernel_rfl) rfl (by simp[Value.oneCell']) ?_|go_step)
   refine bodyPost_ret (v:=.agg #[.int .i64 b0,.int .i64 b1,.string b2,.int .i64 b3,.int .i64 b4,.slice qa qn qc,.int .i64 b6,.int .i64 b7,.int .i64 b8,.int .i64 b9,.int .i64 b10,.bool b11]) (by simp[results,Tryz.results95,go_sem,t0,t1,t2,t3,t4,t5,t6,t7,t8,t9,t10,t11]) rfl ?_;have hq:=zt HqN.out.row (zk HqN.out.row N2.out (by decide)) #[.int .i64 b0,.int .i64 b1,.string b2,.int .i64 b3,.int .i64 b4,.slice qa qn qc,.int .i64 b6,.int .i64 b7,.int .i64 b8,.int .i64 b9,.int .i64 b10,.bool b11];exact⟨⟨⟨b0,b1,b2,b3,b4,bzs,b6,b7,b8,b9,b10,b11⟩,qa,qn,qc⟩,rfl,HE.out.symm,⟨zx hq (by have:=Hw0.out.size;omega),HqN.out.sizes,HqN.out.p,HqN.out.len⟩,HbF.out⟩
 |true=>
   have HE:=zb (HCy.out.trans (if_pos hp));clear hp;obtain⟨m,hm⟩:∃m,m=KU ⟨a0,a1,a2,a3,a4,azs,a6,a7,a8,a9,a10,a11⟩ r:=⟨_,rfl⟩;have HM:=zb (show min (max a9 0) (max r 0)=m by rw[hm,HRo.out]<;>omega);rw[<-hm]at HE;have HA:=zb (show addN ⟨b0,b1,b2,b3,b4,bzs,b6,b7,b8,b9,b10,b11⟩ m=⟨b0,b1,b2,b3,b4,bzs,b6,b7,wrap64 (b8+m),wrap64 (b9+m),b10,b11⟩ from rfl);clear hm HRo;have x9:=cell_of_row w2 _ 9 _ _ _ N0.out;have tQ:=fun j=>cell_of_row w2 _ j _ _ _ NN.out;have n0:=tQ 0;have n1:=tQ 1;have n2:=tQ 2;have n3:=tQ 3;have n4:=tQ 4;have n5:=tQ 5;have n6:=tQ 6;have n7:=tQ 7;have n8:=tQ 8;have n9:=tQ 9;have n10:=tQ 10;have n11:=tQ 11;clear tQ;have f8:=frozen_of_row w2 _ 8 _ _ NN.out;go_upto_region 4 with(fail);rw[HM.out];obtain⟨U,hU⟩:∃U,U=w2.setCell ⟨w1.heap.size,8,none⟩ (.int .i64 (wrap64 (b8+m))):=⟨_,rfl⟩;have UN:=zb (show U.heap[w1.heap.size]?=some (Obj.cells #[.int .i64 b0,.int .i64 b1,.string b2,.int .i64 b3,.int .i64 b4,.slice qa qn qc,.int .i64 b6,.int .i64 b7,.int .i64 (wrap64 (b8+m)),.int .i64 b9,.int .i64 b10,.bool b11] 60) by rw[hU];exact zU _ NN.out);have U2:=zb (show U.heap[w.heap.size+1+1]?=some (Obj.cells #[.int .i64 0,.int .i64 0,.string ⟨#[]⟩,.int .i64 0,.int .i64 0,.slice none 0 0,.int .i64 0,.int .i64 0,.int .i64 0,.int .i64 0,.int .i64 0,.bool false] 60) by rw[hU];exact zF N2.out (by omega));have HbU:=zb (show Below w.heap.size w U by rw[hU];exact HbN.out.setCell (show w.heap.size<=w1.heap.size by have:=Hw0.out.size;omega) _);have HqU:=zb (show U.ownsRow W.heap.size 9 1 (.slice qa qn qc) bzs.length (bzs.flatMap zm) by rw[hU];exact zp HqN.out.row (zk HqN.out.row NN.out (by decide)));have HU:=zb hU;have hun:w1.heap.size<U.heap.size:=(zu UN.out);clear hU x9;go_upto_region 5 with(fail);rw[<-HU.out];clear n0 n1 n2 n3 n4 n5 n6 n7 n8 n9 n10 n11 f8;obtain⟨V,hV⟩:∃V,V=U.setCell ⟨w1.heap.size,9,none⟩ (.int .i64 (wrap64 (b9+m))):=⟨_,rfl⟩;have VN:=zb (show V.heap[w1.heap.size]?=some (Obj.cells #[.int .i64 b0,.int .i64 b1,.string b2,.int .i64 b3,.int .i64 b4,.slice qa qn qc,.int .i64 b6,.int .i64 b7,.int .i64 (wrap64 (b8+m)),.int .i64 (wrap64 (b9+m)),.int .i64 b10,.bool b11] 60) by rw[hV];exact zU _ UN.out);have V2:=zb (show V.heap[w.heap.size+1+1]?=some (Obj.cells #[.int .i64 0,.int .i64 0,.string ⟨#[]⟩,.int .i64 0,.int .i64 0,.slice none 0 0,.int .i64 0,.int .i64 0,.int .i64 0,.int .i64 0,.int .i64 0,.bool false] 60) by rw[hV];exact zF U2.out (by omega));have HbV:=zb (show Below w.heap.size w V by rw[hV];exact HbU.out.setCell (show w.heap.size<=w1.heap.size by have:=Hw0.out.size;omega) _);have HqV:=zb (show V.ownsRow W.heap.size 9 1 (.slice qa qn qc) bzs.length (bzs.flatMap zm) by rw[hV];exact zp HqU.out (zk HqU.out UN.out (by decide)));have HV:=zb hV;have hvn:w1.heap.size<V.heap.size:=(zu VN.out);clear hV;have u9:=cell_of_row U _ 9 _ _ _ UN.out;have g9:=frozen_of_row U _ 9 _ _ UN.out;go_upto_region 6 with(fail);rw[<-HV.out];clear u9 g9;have tQ:=fun j=>cell_of_row V _ j _ _ _ VN.out;have v0:=tQ 0;have v1:=tQ 1;have v2:=tQ 2;have v3:=tQ 3;have v4:=tQ 4;have v5:=tQ 5;have v6:=tQ 6;have v7:=tQ 7;have v8:=tQ 8;have v9:=tQ 9;have v10:=tQ 10;have v11:=tQ 11;clear tQ;have HbF:=zb (zj HbV.out (show w.heap.size<=w.heap.size+1+1 by omega) #[.int .i64 b0,.int .i64 b1,.string b2,.int .i64 b3,.int .i64 b4,.slice qa qn qc,.int .i64 b6,.int .i64 b7,.int .i64 (wrap64 (b8+m)),.int .i64 (wrap64 (b9+m)),.int .i64 b10,.bool b11]);have tQ:=fun j=>cell_setRow_same V (w.heap.size+1+1) j _ #[.int .i64 b0,.int .i64 b1,.string b2,.int .i64 b3,.int .i64 b4,.slice qa qn qc,.int .i64 b6,.int .i64 b7,.int .i64 (wrap64 (b8+m)),.int .i64 (wrap64 (b9+m)),.int .i64 b10,.bool b11] _ _ V2.out;have t0:=tQ 0;have t1:=tQ 1;have t2:=tQ 2;have t3:=tQ 3;have t4:=tQ 4;have t5:=tQ 5;have t6:=tQ 6;have t7:=tQ 7;have t8:=tQ 8;have t9:=tQ 9;have t10:=tQ 10;have t11:=tQ 11;clear tQ;repeat (first|refine wpList_store_row rfl _ _ _ rfl (w.heap.size+1+1) #[.int .i64 b0,.int .i64 b1,.string b2,.int .i64 b3,.int .i64 b4,.slice qa qn qc,.int .i64 b6,.int .i64 b7,.int .i64 (wrap64 (b8+m)),.int .i64 (wrap64 (b9+m)),.int .i64 b10,.bool b11] rfl rfl 60 _ V2.out (by kernel_rfl) rfl (by simp[Value.oneCell']) ?_|go_step)
   refine bodyPost_ret (v:=.agg #[.int .i64 b0,.int .i64 b1,.string b2,.int .i64 b3,.int .i64 b4,.slice qa qn qc,.int .i64 b6,.int .i64 b7,.int .i64 (wrap64 (b8+m)),.int .i64 (wrap64 (b9+m)),.int .i64 b10,.bool b11]) (by simp[results,Tryz.results95,go_sem,t0,t1,t2,t3,t4,t5,t6,t7,t8,t9,t10,t11]) rfl ?_;have hq:=zt HqV.out (zk HqV.out V2.out (by decide)) #[.int .i64 b0,.int .i64 b1,.string b2,.int .i64 b3,.int .i64 b4,.slice qa qn qc,.int .i64 b6,.int .i64 b7,.int .i64 (wrap64 (b8+m)),.int .i64 (wrap64 (b9+m)),.int .i64 b10,.bool b11];exact⟨⟨⟨b0,b1,b2,b3,b4,bzs,b6,b7,wrap64 (b8+m),wrap64 (b9+m),b10,b11⟩,qa,qn,qc⟩,rfl,(HE.out.trans HA.out).symm,⟨zx hq (by have:=Hw0.out.size;omega),HqN.out.sizes,HqN.out.p,HqN.out.len⟩,HbF.out⟩
end Go.Proofs.YtngippiilgdnoaaGreat
namespace Go.Proofs.YtngippiilgdnoaaGreat
theorem qP {α:Type} [DecidableEq α]:∀(T M:List α),T.Nodup->(∀x∈T,x∈M)->T.length<=M.length
 | [],_,_,_=>Nat.zero_le _
 |x::T,M,hT,hs=>by
   have h1:=List.nodup_cons.1 hT;have hx:=hs x List.mem_cons_self;have ih:=qP T (M.erase x) h1.2 fun y hy=>(List.mem_erase_of_ne (fun e=>by subst e;exact h1.1 hy)).2 (hs y (List.mem_cons_of_mem _ hy));rw[List.length_erase_of_mem hx]at ih;have:=List.length_pos_of_mem hx;rw[List.length_cons];omega
theorem JO {L:List (Int×Int)} (h:L.Pairwise fun c d=>c.1<d.1):(L.map (·.1)).Nodup:=
 List.pairwise_map.2 (h.imp fun h e=>by omega)
theorem Xs {a:Int} {A:List (Int×Int)} {t:Int} {O:List (Int×Int)} (h:vP a A t O):O.length<=4801:=by
 have h:=qP _ ((cycL a (-1) 4799).map (·.1)) (JO h.srt) fun x hx=>by
  obtain⟨c,hcm,rfl⟩:=List.mem_map.1 hx;obtain⟨m,m1,m2,rfl,-⟩:=(h.mem c).1 hcm;exact List.mem_map.2 ⟨_,Ut.2 ⟨m,m1,m2,rfl⟩,rfl⟩
 rw[List.length_map,List.length_map,Yd]at h;exact h
def Vj (s:ByteArray) (S:Sb):Prop:=S.id≠0/\hasT s S=true
theorem WF {L:List ByteArray} {n s:ByteArray} (h:(vq L n).any (fun x=>yt x s)=true):L.any (fun x=>yt x s)=true\/n=s:=by
 obtain⟨x,hx,he⟩:=List.any_eq_true.1 h;unfold vq at hx;rcases List.mem_append.1 hx with hx|hx
 · rcases List.mem_append.1 hx with hx|hx
   · exact Or.inl (List.any_eq_true.2 ⟨x,List.mem_of_mem_take hx,he⟩)
   rw[List.mem_singleton]at hx;subst hx;exact Or.inr ((zI _ _).1 he)
 exact Or.inl (List.any_eq_true.2 ⟨x,List.mem_of_mem_drop hx,he⟩)
theorem W8 {s:ByteArray} {S:Sb} {e:Ev} (h0:¬Vj s S) (h1:Vj s (yN S e)):e.kd=8/\e.nm=s:=by
 unfold Vj yN hasT at h1;unfold Vj hasT at h0;split at h1;· exact absurd h1.2 (by simp)
 split at h1;· exact absurd rfl h1.1
 split at h1;· exact absurd h1 h0
 split at h1
 · rename_i hk
   refine⟨hk,?_⟩;rcases WF h1.2 with h|h;· exact absurd ⟨h1.1,h⟩ h0
   exact h
 split at h1
 · exfalso
   refine h0 ⟨h1.1,?_⟩;obtain⟨x,hx,he⟩:=List.any_eq_true.1 h1.2;unfold yj at hx;exact List.any_eq_true.2 ⟨x,(List.mem_filter.1 hx).1,he⟩
 split at h1;· exact absurd h1 h0
 split at h1;iterate 2
  · exact absurd h1 h0
theorem YC {s:ByteArray} {n:Int}:∀(M:List Ev) (S:Sb),¬Vj s S->Vj s (M.foldl (fun s e=>if e.sb=n then yN s e else s) S)->∃e∈M,e.kd=8/\e.sb=n/\e.nm=s
 | [],_,h0,h1=>absurd h1 h0
 |e::M,S,h0,h1=>by
   rw[List.foldl_cons]at h1;by_cases he:e.sb=n
   · rw[if_pos he]at h1
     by_cases hh:Vj s (yN S e)
     · obtain⟨k1,k2⟩:=W8 h0 hh
       exact⟨e,List.mem_cons_self,k1,he,k2⟩
     obtain⟨f,hf,q⟩:=YC M _ hh h1;exact⟨f,List.mem_cons_of_mem _ hf,q⟩
   rw[if_neg he]at h1;obtain⟨f,hf,q⟩:=YC M _ h0 h1;exact⟨f,List.mem_cons_of_mem _ hf,q⟩
theorem YT (x:Int):∀l:List Ev,l.Pairwise (fun a b=>a.tm<=b.tm)->l.filter (fun e=>decide (e.tm<=x))=l.filter (fun e=>decide (e.tm<=x-1))++l.filter (fun e=>decide (e.tm=x))
 | [],_=>rfl
 |e::r,h=>by
   have hp:=List.pairwise_cons.1 h;have ih:=YT x r hp.2;by_cases h1:e.tm<=x-1
   · rw[List.filter_cons_of_pos (by simpa using(show e.tm<=x by omega)),List.filter_cons_of_pos (by simpa using h1),List.filter_cons_of_neg (by simpa using(show ¬e.tm=x by omega)),ih]
     rfl
   have h0:r.filter (fun e=>decide (e.tm<=x-1))=[]:=List.filter_eq_nil_iff.2 fun f hf=>by
    have:=hp.1 f hf;simp only[decide_eq_true_eq];omega
   rw[h0,List.nil_append]at ih;rw[List.filter_cons_of_neg (p:=fun e:Ev=>decide (e.tm<=x-1)) (by simpa using h1),h0,List.nil_append,List.filter_cons,List.filter_cons,ih];by_cases h2:e.tm=x;· rw[if_pos (by simpa using(show e.tm<=x by omega)),if_pos (by simpa using h2)]
   rw[if_neg (by simpa using(show ¬e.tm<=x by omega)),if_neg (by simpa using h2)]
theorem WJ {l:List Ev} (hr:yp l) (x:Int):∃M,yG l x=yG l (x-1)++M/\∀e∈M,e∈l/\e.tm=x:=by refine⟨l.filter (fun e=>decide (e.tm=x)),YT x l (List.pairwise_iff_getElem.2 fun i j hi hj hij=>qh hr i j hi hj (Nat.le_of_lt hij)),fun e he=>?_⟩;exact⟨(List.mem_filter.1 he).1,of_decide_eq_true (List.mem_filter.1 he).2⟩
theorem QF {l:List Ev} (hr:yp l) (n:Int) (s:ByteArray) {p:Int×Int} (hp:p∈actL n s l):∃e∈l,e.kd=8/\e.sb=n/\e.nm=s/\e.tm=p.1:=by
 obtain⟨q0,q1,q2⟩:=KE hr n s p hp;have hc:=Yk hr n s;have h1:=(QG hr n s p.1).1 ⟨p,hp,Int.le_refl _,q1⟩;have h0:¬Vj s (stAt n l (p.1-1)):=fun hh=>by
  have hm:=(QG hr n s (p.1-1)).2 ⟨by omega,hh.1,hh.2⟩;obtain⟨r,hrm,r1,r2⟩:=hm;obtain⟨i,hi,rfl⟩:=List.mem_iff_getElem.1 hp;obtain⟨j,hj,rfl⟩:=List.mem_iff_getElem.1 hrm;have hpw:=List.pairwise_iff_getElem.1 (kF hc);rcases Nat.lt_trichotomy i j with h|h|h;· have:=hpw i j hi hj h;omega
  · subst h;omega
  have:=hpw j i hj hi h;omega
 obtain⟨M,hM,hMe⟩:=WJ hr p.1;have hst:stAt n l p.1=M.foldl (fun s e=>if e.sb=n then yN s e else s) (stAt n l (p.1-1)):=by unfold stAt ug;rw[hM,List.foldl_append]
 obtain⟨e,he,k1,k2,k3⟩:=YC M _ h0 (by rw[<-hst];exact⟨h1.2.1,h1.2.2⟩);exact⟨e,(hMe e he).1,k1,k2,k3,(hMe e he).2⟩
def jl (h:Had) (e:Ev):Bool:=decide (e.kd=8)&&decide (e.sb=h.1)&&yt e.nm h.2
theorem GJ {l:List Ev} (hr:yp l) (h:Had):(actL h.1 h.2 l).length<=(l.filter (jl h)).length:=by
 have hc:=kF (Yk hr h.1 h.2);have hn:((actL h.1 h.2 l).map (·.1)).Nodup:=by refine List.pairwise_map.2 (hc.imp_of_mem fun {p q} hp hq hpq e=>?_);have:=(KE hr h.1 h.2 p hp).2.1;omega
 have:=qP _ ((l.filter (jl h)).map (·.tm)) hn fun x hx=>by
  obtain⟨p,hp,rfl⟩:=List.mem_map.1 hx;obtain⟨e,he,k1,k2,k3,k4⟩:=QF hr h.1 h.2 hp;refine List.mem_map.2 ⟨e,List.mem_filter.2 ⟨he,?_⟩,k4⟩;unfold jl;rw[k1,k2,k3,jf];simp
 rwa[List.length_map,List.length_map]at this
def vH (l:List Ev) (H:List Had):List (Int×Int):=H.flatMap fun h=>actL h.1 h.2 l
theorem KQ (H:List Had) (hH:H.Pairwise jz):∀l:List Ev,(H.flatMap fun h=>l.filter (jl h)).length<=l.length
 | []=>by
   have:(H.flatMap fun h=>([]:List Ev).filter (jl h))=[]:=by simp
   rw[this];exact Nat.le_refl _
 |e::l=>by
   have ih:=KQ H hH l;have key:∀H':List Had,H'.Pairwise jz->(H'.flatMap fun h=>(e::l).filter (jl h)).length<=(H'.flatMap fun h=>l.filter (jl h)).length+(if ∃h∈H',jl h e=true then 1 else 0):=by
    intro H';induction H' with
    |nil=>intro _;simp
    |cons h H' ihH=>
      intro hp;have hp1:=List.pairwise_cons.1 hp;have ih2:=ihH hp1.2;rw[List.flatMap_cons,List.flatMap_cons,List.length_append,List.length_append,List.filter_cons];by_cases he:jl h e=true
      · have hno:¬∃h'∈H',jl h' e=true:=fun⟨h',hh',hq⟩=>by
         have hlt:=hp1.1 h' hh';unfold jl at he hq;simp only[Bool.and_eq_true,decide_eq_true_eq,zI]at he hq;have:h=h':=Prod.ext (he.1.2.symm.trans hq.1.2) (he.2.symm.trans hq.2);subst this;exact kE _ hlt
        rw[if_neg hno]at ih2;rw[if_pos he,if_pos ⟨h,List.mem_cons_self,he⟩,List.length_cons];omega
      rw[if_neg he];by_cases hex:∃h'∈H',jl h' e=true
      · rw[if_pos hex]at ih2
        obtain⟨h',hh',hq⟩:=hex;rw[if_pos ⟨h',List.mem_cons_of_mem _ hh',hq⟩];omega
      rw[if_neg hex]at ih2;have:¬∃h'∈h::H',jl h' e=true:=fun⟨h',hh',hq⟩=>by
       rcases List.mem_cons.1 hh' with rfl|hh';· exact he hq
       exact hex ⟨h',hh',hq⟩
      rw[if_neg this];omega
   have:=key H hH;rw[List.length_cons];split at this<;>omega
theorem Gc {l:List Ev} (hr:yp l) {H:List Had} (hH:H.Pairwise jz):(vH l H).length<=l.length:=by
 refine Nat.le_trans ?_ (KQ H hH l);unfold vH;clear hH;induction H with
 |nil=>simp
 |cons h H ih=>rw[List.flatMap_cons,List.flatMap_cons,List.length_append,List.length_append];have:=GJ hr h;omega
theorem uA {l:List Ev} (hr:yp l) {H:List Had}:∀p∈vH l H,0<=p.1/\p.1<p.2/\p.2<=12622780800:=fun p hp=>by
 obtain⟨h,-,hp⟩:=List.mem_flatMap.1 hp;exact KE hr h.1 h.2 p hp
def QJ (l:List Ev) (t:Int):Prop:=l=[]\/t<69120000\/∀h:0<l.length,t-69120000<(l[0]).tm
theorem WG {a:Int} {l:List Ev} (hr:yp l) {t:Int} (hn:QJ l t) (h1:t<12622780800) {H:List Had} {p:Int×Int} (hp:p∈vH l H):(vc a t p).length<=40:=by
 unfold vc;split
 · rename_i hm
   obtain⟨w0,w1,w2⟩:=uA hr p hp;obtain⟨-,-,hlt⟩:=(vf _ _ _ _).1 hm;obtain⟨h,-,hp2⟩:=List.mem_flatMap.1 hp;obtain⟨e,he,-,-,-,k4⟩:=QF hr h.1 h.2 hp2;have hnear:t-69120000<p.1:=by
    rcases hn with h|h|h;· subst h;cases he
    · omega
    obtain⟨i,hi,rfl⟩:=List.mem_iff_getElem.1 he;have h0:0<l.length:=by omega
    have:=h h0;have:=qh hr 0 i h0 hi (Nat.zero_le _);omega
   unfold q6;rw[Yd];dsimp only;obtain⟨p1,p2,p3,p4⟩:=jq (a:=a) (t:=max p.1 0) (by omega) (by omega);obtain⟨q1,q2,q3,q4⟩:=jq (a:=a) (t:=min p.2 (t+1)-1) (by omega) (by omega);generalize moOf a (max p.1 0)=lo at *;generalize moOf a (min p.2 (t+1)-1)=hi at *;refine Classical.byContradiction fun hlen=>?_;have g1:0<=lo+1:=by omega
   have g2:lo+1<=hi:=by omega
   rw[ju (a:=a) (m:=lo+1) g1 (by omega)]at p4;rw[ju (a:=a) (m:=hi) (by omega) q2]at q3;have:=EC g1 g2;omega
 simp
theorem ub {α β:Type} (f:α->List β) (m:Nat):∀(L:List α),(∀x∈L,(f x).length<=m)->(L.flatMap f).length<=L.length*m
 | [],_=>by simp
 |x::L,h=>by
   have h1:=h x List.mem_cons_self;have h2:=ub f m L fun y hy=>h y (List.mem_cons_of_mem _ hy);rw[List.flatMap_cons,List.length_append,List.length_cons,Nat.succ_mul];omega
theorem VE {a:Int} {l:List Ev} (hr:yp l) (hl:l.length<=40) {t:Int} (hn:QJ l t) (h1:t<12622780800) {H:List Had} (hH:H.Pairwise jz):((vH l H).flatMap (vc a t)).length<=1600:=by have h2:=ub (vc a t) 40 (vH l H) fun p hp=>WG hr hn h1 hp;have h3:=Gc hr hH;have h4:=Nat.mul_le_mul_right 40 (Nat.le_trans h3 hl);omega
end Go.Proofs.YtngippiilgdnoaaGreat
