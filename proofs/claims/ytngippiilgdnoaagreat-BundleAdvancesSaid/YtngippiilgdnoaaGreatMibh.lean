/-
  How many periods the holdings of an account have, and how many cycles they touch: plainly.
-/
import Derived.Test.YtngippiilgdnoaaGreatMibg
import Derived.Test.YtngippiilgdnoaaGreatMiaz
set_option maxRecDepth 100000
set_option maxHeartbeats 25600000
namespace Go.Proofs.YtngippiilgdnoaaGreat
structure vH (a:Int) (A:List (Int×Int)) (t:Int) (O:List (Int×Int)):Prop where
 srt:O.Pairwise fun c d=>c.1<d.1
 mem:∀c,c∈O↔∃m,-1<=m/\m<=4799/\c=cyc a m/\∃x,MemP A x/\0<=x/\x<=t/\beg a m<=x/\x<beg a (m+1)
theorem vH.one {a:Int} {A:List (Int×Int)} {t:Int} {O Q:List (Int×Int)} (h:vH a A t O) (g:vH a A t Q):O=Q:=
 Zj (r:=fun c d:Int×Int=>c.1<d.1) (fun _=>Int.lt_irrefl _) (fun _ _ _ h g=>Int.lt_trans h g) _ _ h.srt g.srt fun c=>(h.mem c).trans (g.mem c).symm
noncomputable def vd (a:Int) (p:Int×Int):List (Int×Int):=cycL a (moOf a p.1) (moOf a (p.2-1))
theorem qp {a:Int} (ha:1<=a) (hb:a<=28) {p:Int×Int} (h0:0<=p.1) (h1:p.1<p.2) (h2:p.2<=12622780800) {c:Int×Int}:
 c∈vd a p↔∃m,-1<=m/\m<=4799/\c=cyc a m/\∃x,p.1<=x/\x<p.2/\beg a m<=x/\x<beg a (m+1):=by
 have q1:=ja (a:=a) h0 (show p.1<12622780800 by omega);have q2:=ja (a:=a) (t:=p.2-1) (by omega) (by omega);unfold vd;rw[QT];constructor
 · rintro⟨m,g1,g2,rfl⟩
   refine⟨m,by have:=q1.1;omega,by have:=q2.2.1;omega,rfl,?_⟩;by_cases e:m=moOf a p.1;· rw[e];exact⟨p.1,Int.le_refl _,h1,q1.2.2.1,q1.2.2.2⟩
   have b1:=vw ha hb (show moOf a p.1+1<=m by omega);have b2:=vw ha hb g2;have b3:=WB ha hb (m:=m) (by have:=q1.1;omega) (by have:=q2.2.1;omega);have:=q1.2.2.2;have:=q2.2.2.1;exact⟨beg a m,by omega,by omega,Int.le_refl _,b3⟩
 rintro⟨m,g1,g2,rfl,x,x1,x2,x3,x4⟩;have hx:IsMo a x m:=⟨g1,g2,x3,x4⟩;exact⟨m,IsMo.le ha hb q1 hx x1,IsMo.le ha hb hx q2 (by omega),rfl⟩
theorem z7b {a:Int} (ha:1<=a) (hb:a<=28) (m:Int):0<=(cyc a m).1/\(cyc a m).2<=12622780800:=⟨(WC ha hb).1,(WC ha hb).2⟩
def uv (O:List (Int×Int)) (c:Int×Int):List (Int×Int):=match O.getLast? with
 |some q=>if q.1<c.1 then O++[c] else O
 |none=>[c]
def dedL (L:List (Int×Int)):List (Int×Int):=L.foldl uv []
theorem Xp (L M:List (Int×Int)):dedL (L++M)=M.foldl uv (dedL L):=by unfold dedL;rw[List.foldl_append]
theorem Km (L:List (Int×Int)) (c:Int×Int):dedL (L++[c])=uv (dedL L) c:=by rw[Xp];rfl
theorem EM {α:Type} {p:List α->Prop} (h0:p []) (h1:∀l x,p l->p (l++[x])) (l:List α):p l:=by
 have h:∀r:List α,p r.reverse:=by
  intro r;induction r with
  |nil=>exact h0
  |cons x r ih=>rw[List.reverse_cons];exact h1 _ _ ih
 have:=h l.reverse;rwa[List.reverse_reverse]at this
theorem Xo (L:List (Int×Int)) (hL:L.Pairwise fun c d=>c.1<=d.1/\(c.1=d.1->c=d)):(dedL L).Pairwise (fun c d=>c.1<d.1)/\(∀c,c∈dedL L↔c∈L)/\(∀q,(dedL L).getLast?=some q->∀c∈L,c.1<=q.1):=by
 induction L using EM with
 |h0=>exact⟨List.Pairwise.nil,fun c=>Iff.rfl,fun q h=>by cases h⟩
 |h1 L x ih=>
   have hp:=List.pairwise_append.1 hL;obtain⟨i1,i2,i3⟩:=ih hp.1;have hx:∀c∈L,c.1<=x.1/\(c.1=x.1->c=x):=fun c hc=>hp.2.2 c hc x (by simp);rw[Km];unfold uv;cases hq:(dedL L).getLast? with
   |none=>
     have e:dedL L=[]:=List.getLast?_eq_none_iff.1 hq;have e2:L=[]:=by
      cases L with
      |nil=>rfl
      |cons y r=>have:=(i2 y).2 (by simp);rw[e]at this;cases this
     subst e2;exact⟨List.pairwise_singleton _ _,fun c=>by simp,fun q h c hc=>by
      simp at h hc;subst h;subst hc;exact Int.le_refl _⟩
   |some q=>
     have hqm:q∈dedL L:=List.mem_of_getLast? hq;have hqL:=(i2 q).1 hqm;dsimp only;split
     · rename_i hlt
       refine⟨List.pairwise_append.2 ⟨i1,List.pairwise_singleton _ _,fun c hc d hd=>?_⟩,fun c=>by rw[List.mem_append,List.mem_append,i2],fun r hr c hc=>?_⟩
       · rw[List.mem_singleton]at hd
         subst hd;have:=i3 q hq c ((i2 c).1 hc);omega
       rw[List.getLast?_append,List.getLast?_singleton]at hr;obtain rfl:x=r:=by simpa using hr
       rcases List.mem_append.1 hc with h|h;· exact(hx c h).1
       rw[List.mem_singleton]at h;subst h;exact Int.le_refl _
     rename_i hlt;have hqx:=hx q hqL;have hqe:q=x:=hqx.2 (by omega);refine⟨i1,fun c=>?_,fun r hr c hc=>?_⟩
     · rw[i2,List.mem_append,List.mem_singleton]
       refine⟨Or.inl,fun h=>?_⟩;rcases h with h|h;· exact h
       subst h;rw[<-hqe];exact hqL
     rw[hq]at hr;obtain rfl:q=r:=Option.some.inj hr;rcases List.mem_append.1 hc with h|h;· exact i3 q hq c h
     rw[List.mem_singleton]at h;subst h;rw[hqe];exact Int.le_refl _
theorem gj {a:Int} (ha:1<=a) (hb:a<=28) {m k x y:Int} (hm:IsMo a x m) (hk:IsMo a y k):(cyc a m).1<=(cyc a k).1->(cyc a m).1=(cyc a k).1->cyc a m=cyc a k:=by
 intro _ he;have:m=k:=by
  rcases Int.lt_trichotomy m k with h|h|h
  · exfalso
    have h1:=vw ha hb (show m+1<=k by omega);have:=hm.2.2;unfold cyc at he;dsimp only at he;omega
  · exact h
  exfalso;have h1:=vw ha hb (show k+1<=m by omega);have:=hk.2.2;unfold cyc at he;dsimp only at he;omega
 rw[this]
theorem Gq {a:Int} (ha:1<=a) (hb:a<=28) {C:List (Int×Int)} (hC:C.Pairwise fun p q=>p.2<=q.1) (hin:∀p∈C,0<=p.1/\p.1<p.2/\p.2<=12622780800):(C.flatMap (vd a)).Pairwise fun c d=>c.1<=d.1/\(c.1=d.1->c=d):=by
 refine List.pairwise_flatMap.2 ⟨fun p hp=>?_,hC.imp_of_mem fun {p q} hp hq hpq c hc d hd=>?_⟩
 · unfold vd
   refine(Kn ha hb _ _).imp_of_mem fun {c d} hc hd h=>?_;obtain⟨m,-,-,rfl,x,-,-,x1,x2⟩:=(qp ha hb (hin p hp).1 (hin p hp).2.1 (hin p hp).2.2).1 hc;unfold cyc at h⊢;dsimp only at h⊢;exact⟨by omega,fun e=>by omega⟩
 obtain⟨m,m1,m2,rfl,x,x1,x2,x3,x4⟩:=(qp ha hb (hin p hp).1 (hin p hp).2.1 (hin p hp).2.2).1 hc;obtain⟨k,k1,k2,rfl,y,y1,y2,y3,y4⟩:=(qp ha hb (hin q hq).1 (hin q hq).2.1 (hin q hq).2.2).1 hd;have hle:m<=k:=IsMo.le ha hb (t:=x) (u:=y) ⟨m1,m2,x3,x4⟩ ⟨k1,k2,y3,y4⟩ (by omega);have h1:(cyc a m).1<=(cyc a k).1:=vw ha hb hle;exact⟨h1,fun e=>gj ha hb (x:=x) (y:=y) ⟨m1,m2,x3,x4⟩ ⟨k1,k2,y3,y4⟩ h1 e⟩
theorem jT:∀{C:List (Int×Int)},Can C->C.Pairwise fun p q=>p.2<q.1
 | [],_=>List.Pairwise.nil
 |_::_,h=>List.pairwise_cons.2 ⟨h.2.1,jT h.2.2⟩
theorem QQ {a:Int} (ha:1<=a) (hb:a<=28) {C:List (Int×Int)} (hin:∀p∈C,0<=p.1/\p.1<p.2/\p.2<=12622780800) {c:Int×Int}:
 c∈C.flatMap (vd a)↔∃m,-1<=m/\m<=4799/\c=cyc a m/\∃x,MemP C x/\beg a m<=x/\x<beg a (m+1):=by
 rw[List.mem_flatMap];constructor
 · rintro⟨p,hp,hc⟩
   obtain⟨m,m1,m2,e,x,x1,x2,x3,x4⟩:=(qp ha hb (hin p hp).1 (hin p hp).2.1 (hin p hp).2.2).1 hc;exact⟨m,m1,m2,e,x,⟨p,hp,x1,x2⟩,x3,x4⟩
 rintro⟨m,m1,m2,e,x,⟨p,hp,x1,x2⟩,x3,x4⟩;exact⟨p,hp,(qp ha hb (hin p hp).1 (hin p hp).2.1 (hin p hp).2.2).2 ⟨m,m1,m2,e,x,x1,x2,x3,x4⟩⟩
theorem jm {C:List (Int×Int)} {a b:List (Int×Int)} {ig inb:Bool} (h:C=yH a b ig inb):∀p∈C,0<=p.1/\p.1<p.2/\p.2<=12622780800:=by
 obtain⟨h1,h2⟩:=ku a b ig inb;rw[<-h]at h1 h2;intro p hp;have hpp:=Xy h1 p hp;have hs:∀x,p.1<=x->x<p.2->0<=x/\x<12622780800:=fun x hx1 hx2=>by
  have hm:=(h2 x).1 ⟨p,hp,hx1,hx2⟩;unfold selB at hm;rw[Bool.and_eq_true]at hm;obtain⟨q,-,hv,g1,g2⟩:=(kE _ _).1 hm.1;obtain⟨v1,v2,v3⟩:=(zx _ _).1 hv;omega
 have g1:=hs p.1 (Int.le_refl _) hpp;have g2:=hs (p.2-1) (by omega) (by omega);omega
theorem NJ {a:Int} (ha:1<=a) (hb:a<=28) {A:List (Int×Int)} (hA:∀p∈A,0<=p.1/\p.1<p.2/\p.2<=12622780800) {t:Int} (h0:0<=t) (h1:t<12622780800):
 vH a A t (dedL ((yH A [(0,t+1)] false true).flatMap (vd a))):=by
 obtain⟨c1,c2⟩:=ku A [(0,t+1)] false true;have hin:=jm (rfl:yH A [(0,t+1)] false true=_);generalize yH A [(0,t+1)] false true=C at *;obtain⟨d1,d2,-⟩:=Xo _ (Gq ha hb ((jT c1).imp fun h=>Int.le_of_lt h) hin);refine⟨d1,fun c=>?_⟩;rw[d2,QQ ha hb hin];have hm:∀x,MemP C x↔MemP A x/\0<=x/\x<=t:=fun x=>by
  rw[c2];unfold selB;rw[Bool.false_or,Bool.and_eq_true,beq_iff_eq,kE,kE];constructor
  · rintro⟨⟨p,hp,-,p1,p2⟩,⟨q,hq,-,q1,q2⟩⟩
    rw[List.mem_singleton]at hq;subst hq;exact⟨⟨p,hp,p1,p2⟩,q1,by have:=q2;dsimp only at this;omega⟩
  rintro⟨⟨p,hp,p1,p2⟩,q1,q2⟩;exact⟨⟨p,hp,(zx _ _).2 (hA p hp),p1,p2⟩,⟨(0,t+1),by simp,(zx _ _).2 ⟨Int.le_refl _,by dsimp only;omega,by dsimp only;omega⟩,q1,by dsimp only;omega⟩⟩
 constructor
 · rintro⟨m,m1,m2,e,x,hx,x3,x4⟩
   obtain⟨y1,y2,y3⟩:=(hm x).1 hx;exact⟨m,m1,m2,e,x,y1,y2,y3,x3,x4⟩
 rintro⟨m,m1,m2,e,x,y1,y2,y3,x3,x4⟩;exact⟨m,m1,m2,e,x,(hm x).2 ⟨y1,y2,y3⟩,x3,x4⟩
noncomputable def vy (a t:Int) (p:Int×Int):List (Int×Int):=if yY p.1 p.2 0 (t+1)=true then vd a (max p.1 0,min p.2 (t+1)) else []
theorem En {a:Int} (ha:1<=a) (hb:a<=28) {A:List (Int×Int)} (hA:∀p∈A,0<=p.1/\p.1<p.2/\p.2<=12622780800) {t:Int} (h0:0<=t) (h1:t<12622780800):
 vH a A t ((yH (A.flatMap (vy a t)) [] true false).flatMap (vd a)):=by
 have hW:∀c,c∈A.flatMap (vy a t)↔∃m,-1<=m/\m<=4799/\c=cyc a m/\∃x,MemP A x/\0<=x/\x<=t/\beg a m<=x/\x<beg a (m+1):=fun c=>by
  rw[List.mem_flatMap];constructor
  · rintro⟨p,hp,hc⟩
    unfold vy at hc;split at hc
    · rename_i hme
      obtain⟨v1,v2,v3⟩:=(vz _ _ _ _).1 hme;obtain⟨w0,w1,w2⟩:=hA p hp;obtain⟨m,m1,m2,e,x,x1,x2,x3,x4⟩:=(qp ha hb (p:=(max p.1 0,min p.2 (t+1))) (by dsimp only;omega) (by dsimp only;omega) (by dsimp only;omega)).1 hc;dsimp only at x1 x2;exact⟨m,m1,m2,e,x,⟨p,hp,by omega,by omega⟩,by omega,by omega,x3,x4⟩
    cases hc
  rintro⟨m,m1,m2,e,x,⟨p,hp,x1,x2⟩,y1,y2,x3,x4⟩;obtain⟨w0,w1,w2⟩:=hA p hp;refine⟨p,hp,?_⟩;unfold vy;rw[if_pos ((vz _ _ _ _).2 ⟨(zx _ _).2 ⟨w0,w1,w2⟩,(zx _ _).2 ⟨by decide,by omega,by omega⟩,by omega⟩)];exact(qp ha hb (p:=(max p.1 0,min p.2 (t+1))) (by dsimp only;omega) (by dsimp only;omega) (by dsimp only;omega)).2 ⟨m,m1,m2,e,x,by dsimp only;omega,by dsimp only;omega,x3,x4⟩
 generalize A.flatMap (vy a t)=W at *;obtain⟨c1,c2⟩:=ku W [] true false;have hin:=jm (rfl:yH W [] true false=_);generalize yH W [] true false=C at *;have hm:∀x,MemP C x↔∃m,-1<=m/\m<=4799/\beg a m<=x/\x<beg a (m+1)/\∃y,MemP A y/\0<=y/\y<=t/\beg a m<=y/\y<beg a (m+1):=fun x=>by
  rw[c2];unfold selB;rw[Bool.true_or,Bool.and_true,kE];constructor
  · rintro⟨p,hp,-,p1,p2⟩
    obtain⟨m,m1,m2,rfl,y,hy⟩:=(hW p).1 hp;exact⟨m,m1,m2,p1,p2,y,hy⟩
  rintro⟨m,m1,m2,p1,p2,y,hy⟩;have:=z7b ha hb m;exact⟨cyc a m,(hW _).2 ⟨m,m1,m2,rfl,y,hy⟩,(zx _ _).2 ⟨this.1,by unfold cyc;dsimp only;omega,this.2⟩,p1,p2⟩
 refine⟨?_,fun c=>?_⟩
 · refine List.pairwise_flatMap.2 ⟨fun p hp=>?_,(jT c1).imp_of_mem fun {p q} hp hq hpq c hc d hd=>?_⟩
   · unfold vd
     refine(Kn ha hb _ _).imp_of_mem fun {c d} hc hd h=>?_;obtain⟨m,-,-,rfl,x,-,-,x1,x2⟩:=(qp ha hb (hin p hp).1 (hin p hp).2.1 (hin p hp).2.2).1 hc;unfold cyc at h⊢;dsimp only at h⊢;omega
   obtain⟨m,m1,m2,rfl,x,x1,x2,x3,x4⟩:=(qp ha hb (hin p hp).1 (hin p hp).2.1 (hin p hp).2.2).1 hc;obtain⟨k,k1,k2,rfl,y,y1,y2,y3,y4⟩:=(qp ha hb (hin q hq).1 (hin q hq).2.1 (hin q hq).2.2).1 hd;have hle:m<=k:=IsMo.le ha hb (t:=x) (u:=y) ⟨m1,m2,x3,x4⟩ ⟨k1,k2,y3,y4⟩ (by omega);have hne:m≠k:=by
    intro e;subst e;obtain⟨j,j1,j2,j3,j4,z,hz⟩:=(hm x).1 ⟨p,hp,x1,x2⟩;have ej:j=m:=IsMo.one ha hb (t:=x) ⟨j1,j2,j3,j4⟩ ⟨m1,m2,x3,x4⟩;subst ej;obtain⟨r,hr,r1,r2⟩:=(hm p.2).2 ⟨j,j1,j2,by omega,by omega,z,hz⟩;rcases Classical.em (r=p)with e|e;· subst e;omega
    have hall:∀u v,u∈C->v∈C->u≠v->u.2<v.1\/v.2<u.1:=fun u v hu hv huv=>by
     obtain⟨i,hi,rfl⟩:=List.mem_iff_getElem.1 hu;obtain⟨j,hj,rfl⟩:=List.mem_iff_getElem.1 hv;rcases Nat.lt_trichotomy i j with h|h|h;· exact Or.inl (List.pairwise_iff_getElem.1 (jT c1) i j hi hj h)
     · subst h;exact absurd rfl huv
     exact Or.inr (List.pairwise_iff_getElem.1 (jT c1) j i hj hi h)
    rcases hall r p hr hp e with h|h;· have:=(hin p hp).2.1;omega
    omega
   have h1:=vw ha hb (show m+1<=k by omega);show beg a m<beg a k;omega
 rw[QQ ha hb hin];constructor
 · rintro⟨m,m1,m2,e,x,hx,x3,x4⟩
   obtain⟨j,j1,j2,j3,j4,y,hy⟩:=(hm x).1 hx;have ej:j=m:=IsMo.one ha hb (t:=x) ⟨j1,j2,j3,j4⟩ ⟨m1,m2,x3,x4⟩;subst ej;exact⟨j,m1,m2,e,y,hy⟩
 rintro⟨m,m1,m2,e,y,hy⟩;exact⟨m,m1,m2,e,y,(hm y).2 ⟨m,m1,m2,hy.2.2.2.1,hy.2.2.2.2,y,hy⟩,hy.2.2.2⟩
end Go.Proofs.YtngippiilgdnoaaGreat
namespace Go.Proofs.YtngippiilgdnoaaGreat
open Go.RowKit
structure BuX where
 b:Bu
 za:Option Addr
 zn:Nat
 zc:Nat
def zt (x:BuX):List Value:=[.int .i64 x.b.ac,.int .i64 x.b.sb,.string x.b.pr,.int .i64 x.b.ix,.int .i64 x.b.kd,.slice x.za x.zn x.zc,.int .i64 x.b.f,.int .i64 x.b.t,.int .i64 x.b.un,.int .i64 x.b.lf,.int .i64 x.b.pt,.bool x.b.sh]
def ym (x:BuX):Value:=.agg #[.int .i64 x.b.ac,.int .i64 x.b.sb,.string x.b.pr,.int .i64 x.b.ix,.int .i64 x.b.kd,.slice x.za x.zn x.zc,.int .i64 x.b.f,.int .i64 x.b.t,.int .i64 x.b.un,.int .i64 x.b.lf,.int .i64 x.b.pt,.bool x.b.sh]
theorem bu12 {w:World} {b o:Nat} {x:BuX} (h:RecR zt 12 w b o x):w.cell? ⟨b,o,none⟩=some (.int .i64 x.b.ac)/\w.cell? ⟨b,o+1,none⟩=some (.int .i64 x.b.sb)/\w.cell? ⟨b,o+2,none⟩=some (.string x.b.pr)/\w.cell? ⟨b,o+3,none⟩=some (.int .i64 x.b.ix)/\w.cell? ⟨b,o+4,none⟩=some (.int .i64 x.b.kd)/\w.cell? ⟨b,o+5,none⟩=some (.slice x.za x.zn x.zc)/\w.cell? ⟨b,o+6,none⟩=some (.int .i64 x.b.f)/\w.cell? ⟨b,o+7,none⟩=some (.int .i64 x.b.t)/\w.cell? ⟨b,o+8,none⟩=some (.int .i64 x.b.un)/\w.cell? ⟨b,o+9,none⟩=some (.int .i64 x.b.lf)/\w.cell? ⟨b,o+10,none⟩=some (.int .i64 x.b.pt)/\w.cell? ⟨b,o+11,none⟩=some (.bool x.b.sh):=⟨h 0 (by decide),h 1 (by decide),h 2 (by decide),h 3 (by decide),h 4 (by decide),h 5 (by decide),h 6 (by decide),h 7 (by decide),h 8 (by decide),h 9 (by decide),h 10 (by decide),h 11 (by decide)⟩
def jo (x:BuX):Obj:=Obj.cells #[.int .i64 x.b.ac,.int .i64 x.b.sb,.string x.b.pr,.int .i64 x.b.ix,.int .i64 x.b.kd,.slice x.za x.zn x.zc,.int .i64 x.b.f,.int .i64 x.b.t,.int .i64 x.b.un,.int .i64 x.b.lf,.int .i64 x.b.pt,.bool x.b.sh] 60
theorem qE {w:World} {g:Nat} {x:BuX} (h:w.heap[g]?=some (jo x)):w.cell? ⟨g,0,none⟩=some (.int .i64 x.b.ac)/\w.cell? ⟨g,1,none⟩=some (.int .i64 x.b.sb)/\w.cell? ⟨g,2,none⟩=some (.string x.b.pr)/\w.cell? ⟨g,3,none⟩=some (.int .i64 x.b.ix)/\w.cell? ⟨g,4,none⟩=some (.int .i64 x.b.kd)/\w.cell? ⟨g,5,none⟩=some (.slice x.za x.zn x.zc)/\w.cell? ⟨g,6,none⟩=some (.int .i64 x.b.f)/\w.cell? ⟨g,7,none⟩=some (.int .i64 x.b.t)/\w.cell? ⟨g,8,none⟩=some (.int .i64 x.b.un)/\w.cell? ⟨g,9,none⟩=some (.int .i64 x.b.lf)/\w.cell? ⟨g,10,none⟩=some (.int .i64 x.b.pt)/\w.cell? ⟨g,11,none⟩=some (.bool x.b.sh):=by unfold jo at h;exact⟨cell_of_row w _ 0 _ _ _ h,cell_of_row w _ 1 _ _ _ h,cell_of_row w _ 2 _ _ _ h,cell_of_row w _ 3 _ _ _ h,cell_of_row w _ 4 _ _ _ h,cell_of_row w _ 5 _ _ _ h,cell_of_row w _ 6 _ _ _ h,cell_of_row w _ 7 _ _ _ h,cell_of_row w _ 8 _ _ _ h,cell_of_row w _ 9 _ _ _ h,cell_of_row w _ 10 _ _ _ h,cell_of_row w _ 11 _ _ _ h⟩
structure BuRd (w:World) (x:BuX):Prop where
 z:zY w (.slice x.za x.zn x.zc) x.b.zs
 p:x.b.pr.size<=maxLen
 len:x.b.zs.length*16<=140737488355328
theorem BuRd.below {w w':World} {x:BuX} (h:BuRd w x) (hb:Below w.heap.size w w'):BuRd w' x:=⟨h.z.below hb,h.p,h.len⟩
def xy (w:World) (v:Value) (X:List BuX):Prop:=zh zt 12 w v X/\∀x∈X,BuRd w x
theorem xy.below {w w':World} {v:Value} {X:List BuX} (h:xy w v X) (hb:Below w.heap.size w w'):xy w' v X:=⟨h.1.below hb,fun x hx=>(h.2 x hx).below hb⟩
def plB (X:List BuX):List Bu:=X.map (·.b)
theorem qf (X:List BuX):(plB X).length=X.length:=List.length_map ..
theorem Qn (x y:BuX) (w:World):
 Calls Tryz.prog 94 #[ym x,ym y] w fun e w'=>e=.returned (.bool (zQ x.b y.b))/\Below w.heap.size w w':=by
 obtain⟨W,hW,r0,r1,hw0,hz⟩:=yL w (jo x) (jo y);have HW:=zb hW;have Hb:=zb hw0;obtain⟨x0,x1,x2,x3,x4,-,x6,x7,-,-,-,-⟩:=qE r0;obtain⟨y0,y1,y2,y3,y4,-,y6,y7,-,-,-,-⟩:=qE r1;unfold jo at HW;have HD:=zb (show zQ x.b y.b=zQ x.b y.b from rfl);unfold zQ at HD;clear hW r0 r1 hw0 hz;unfold ym;obtain⟨⟨a0,a1,a2,a3,a4,azs,a6,a7,a8,a9,a10,a11⟩,za,zn,zc⟩:=x;obtain⟨⟨b0,b1,b2,b3,b4,bzs,b6,b7,b8,b9,b10,b11⟩,ya,yn,yc⟩:=y;dsimp only at *;by_cases h0:a1=b1
 · have k0:(a1==b1)=true:=beq_iff_eq.2 h0
   by_cases h1:ye a2 b2=true
   · have k1:(a2.toList==b2.toList)=true:=h1
     by_cases h2:a3=b3
     · have k2:(a3==b3)=true:=beq_iff_eq.2 h2
       by_cases h3:a4=b4
       · have k3:(a4==b4)=true:=beq_iff_eq.2 h3
         by_cases h4:a7=b6
         · have k4:(a7==b6)=true:=beq_iff_eq.2 h4
           have HE:=zb (show zQ ⟨a0,a1,a2,a3,a4,azs,a6,a7,a8,a9,a10,a11⟩ ⟨b0,b1,b2,b3,b4,bzs,b6,b7,b8,b9,b10,b11⟩=true by unfold zQ;simp[h0,h1,h2,h3,h4]);rw[HE.out];clear HD h0 h1 h2 h3 h4;go_enter Tryz.func94,Tryz.ntmps94;go_upto_region 1 with(fail);rw[<-HW.out];go_wp2_with fail;go_ret;exact⟨zo (by first|rfl|simp),Hb.out⟩
         have k4:(a7==b6)=false:=beq_eq_false_iff_ne.2 h4;have HE:=zb (show zQ ⟨a0,a1,a2,a3,a4,azs,a6,a7,a8,a9,a10,a11⟩ ⟨b0,b1,b2,b3,b4,bzs,b6,b7,b8,b9,b10,b11⟩=false by unfold zQ;simp[h4]);rw[HE.out];clear HD h0 h1 h2 h3 h4;go_enter Tryz.func94,Tryz.ntmps94;go_upto_region 1 with(fail);rw[<-HW.out];go_wp2_with fail;go_ret;exact⟨zo (by first|rfl|simp),Hb.out⟩
       have k3:(a4==b4)=false:=beq_eq_false_iff_ne.2 h3;have HE:=zb (show zQ ⟨a0,a1,a2,a3,a4,azs,a6,a7,a8,a9,a10,a11⟩ ⟨b0,b1,b2,b3,b4,bzs,b6,b7,b8,b9,b10,b11⟩=false by unfold zQ;simp[h3]);rw[HE.out];clear HD h0 h1 h2 h3;go_enter Tryz.func94,Tryz.ntmps94;go_upto_region 1 with(fail);rw[<-HW.out];go_wp2_with fail;go_ret;exact⟨zo (by first|rfl|simp),Hb.out⟩
     have k2:(a3==b3)=false:=beq_eq_false_iff_ne.2 h2;have HE:=zb (show zQ ⟨a0,a1,a2,a3,a4,azs,a6,a7,a8,a9,a10,a11⟩ ⟨b0,b1,b2,b3,b4,bzs,b6,b7,b8,b9,b10,b11⟩=false by unfold zQ;simp[h2]);rw[HE.out];clear HD h0 h1 h2;go_enter Tryz.func94,Tryz.ntmps94;go_upto_region 1 with(fail);rw[<-HW.out];go_wp2_with fail;go_ret;exact⟨zo (by first|rfl|simp),Hb.out⟩
   have h1:ye a2 b2=false:=by simpa using h1
   have k1:(a2.toList==b2.toList)=false:=h1;have HE:=zb (show zQ ⟨a0,a1,a2,a3,a4,azs,a6,a7,a8,a9,a10,a11⟩ ⟨b0,b1,b2,b3,b4,bzs,b6,b7,b8,b9,b10,b11⟩=false by unfold zQ;simp[h1]);rw[HE.out];clear HD h0 h1;go_enter Tryz.func94,Tryz.ntmps94;go_upto_region 1 with(fail);rw[<-HW.out];go_wp2_with fail;go_ret;exact⟨zo (by first|rfl|simp),Hb.out⟩
 have k0:(a1==b1)=false:=beq_eq_false_iff_ne.2 h0;have HE:=zb (show zQ ⟨a0,a1,a2,a3,a4,azs,a6,a7,a8,a9,a10,a11⟩ ⟨b0,b1,b2,b3,b4,bzs,b6,b7,b8,b9,b10,b11⟩=false by unfold zQ;simp[h0]);rw[HE.out];clear HD h0;go_enter Tryz.func94,Tryz.ntmps94;go_upto_region 1 with(fail);rw[<-HW.out];go_wp2_with fail;go_ret;exact⟨zo (by first|rfl|simp),Hb.out⟩
theorem Vk (x y:BuX) (w:World):
 Calls Tryz.prog 99 #[ym x,ym y] w fun e w'=>e=.returned (.bool (zQ x.b y.b))/\Below w.heap.size w w':=by
 obtain⟨W,hW,r0,r1,hw0,hz⟩:=yL w (jo x) (jo y);have HW:=zb hW;have Hb:=zb hw0;obtain⟨x0,x1,x2,x3,x4,-,x6,x7,-,-,-,-⟩:=qE r0;obtain⟨y0,y1,y2,y3,y4,-,y6,y7,-,-,-,-⟩:=qE r1;unfold jo at HW;have HD:=zb (show zQ x.b y.b=zQ x.b y.b from rfl);unfold zQ at HD;clear hW r0 r1 hw0 hz;unfold ym;obtain⟨⟨a0,a1,a2,a3,a4,azs,a6,a7,a8,a9,a10,a11⟩,za,zn,zc⟩:=x;obtain⟨⟨b0,b1,b2,b3,b4,bzs,b6,b7,b8,b9,b10,b11⟩,ya,yn,yc⟩:=y;dsimp only at *;by_cases h0:a1=b1
 · have k0:(a1==b1)=true:=beq_iff_eq.2 h0
   by_cases h1:ye a2 b2=true
   · have k1:(a2.toList==b2.toList)=true:=h1
     by_cases h2:a3=b3
     · have k2:(a3==b3)=true:=beq_iff_eq.2 h2
       by_cases h3:a4=b4
       · have k3:(a4==b4)=true:=beq_iff_eq.2 h3
         by_cases h4:a7=b6
         · have k4:(a7==b6)=true:=beq_iff_eq.2 h4
           have HE:=zb (show zQ ⟨a0,a1,a2,a3,a4,azs,a6,a7,a8,a9,a10,a11⟩ ⟨b0,b1,b2,b3,b4,bzs,b6,b7,b8,b9,b10,b11⟩=true by unfold zQ;simp[h0,h1,h2,h3,h4]);rw[HE.out];clear HD h0 h1 h2 h3 h4;go_enter Tryz.func99,Tryz.ntmps99;go_upto_region 1 with(fail);rw[<-HW.out];go_wp2_with fail;go_ret;exact⟨zo (by first|rfl|simp),Hb.out⟩
         have k4:(a7==b6)=false:=beq_eq_false_iff_ne.2 h4;have HE:=zb (show zQ ⟨a0,a1,a2,a3,a4,azs,a6,a7,a8,a9,a10,a11⟩ ⟨b0,b1,b2,b3,b4,bzs,b6,b7,b8,b9,b10,b11⟩=false by unfold zQ;simp[h4]);rw[HE.out];clear HD h0 h1 h2 h3 h4;go_enter Tryz.func99,Tryz.ntmps99;go_upto_region 1 with(fail);rw[<-HW.out];go_wp2_with fail;go_ret;exact⟨zo (by first|rfl|simp),Hb.out⟩
       have k3:(a4==b4)=false:=beq_eq_false_iff_ne.2 h3;have HE:=zb (show zQ ⟨a0,a1,a2,a3,a4,azs,a6,a7,a8,a9,a10,a11⟩ ⟨b0,b1,b2,b3,b4,bzs,b6,b7,b8,b9,b10,b11⟩=false by unfold zQ;simp[h3]);rw[HE.out];clear HD h0 h1 h2 h3;go_enter Tryz.func99,Tryz.ntmps99;go_upto_region 1 with(fail);rw[<-HW.out];go_wp2_with fail;go_ret;exact⟨zo (by first|rfl|simp),Hb.out⟩
     have k2:(a3==b3)=false:=beq_eq_false_iff_ne.2 h2;have HE:=zb (show zQ ⟨a0,a1,a2,a3,a4,azs,a6,a7,a8,a9,a10,a11⟩ ⟨b0,b1,b2,b3,b4,bzs,b6,b7,b8,b9,b10,b11⟩=false by unfold zQ;simp[h2]);rw[HE.out];clear HD h0 h1 h2;go_enter Tryz.func99,Tryz.ntmps99;go_upto_region 1 with(fail);rw[<-HW.out];go_wp2_with fail;go_ret;exact⟨zo (by first|rfl|simp),Hb.out⟩
   have h1:ye a2 b2=false:=by simpa using h1
   have k1:(a2.toList==b2.toList)=false:=h1;have HE:=zb (show zQ ⟨a0,a1,a2,a3,a4,azs,a6,a7,a8,a9,a10,a11⟩ ⟨b0,b1,b2,b3,b4,bzs,b6,b7,b8,b9,b10,b11⟩=false by unfold zQ;simp[h1]);rw[HE.out];clear HD h0 h1;go_enter Tryz.func99,Tryz.ntmps99;go_upto_region 1 with(fail);rw[<-HW.out];go_wp2_with fail;go_ret;exact⟨zo (by first|rfl|simp),Hb.out⟩
 have k0:(a1==b1)=false:=beq_eq_false_iff_ne.2 h0;have HE:=zb (show zQ ⟨a0,a1,a2,a3,a4,azs,a6,a7,a8,a9,a10,a11⟩ ⟨b0,b1,b2,b3,b4,bzs,b6,b7,b8,b9,b10,b11⟩=false by unfold zQ;simp[h0]);rw[HE.out];clear HD h0;go_enter Tryz.func99,Tryz.ntmps99;go_upto_region 1 with(fail);rw[<-HW.out];go_wp2_with fail;go_ret;exact⟨zo (by first|rfl|simp),Hb.out⟩
theorem QP (x y:BuX) (w:World):
 Calls Tryz.prog 96 #[ym x,ym y] w fun e w'=>e=.returned (.bool (zK x.b y.b))/\Below w.heap.size w w':=by
 obtain⟨W,hW,r0,r1,hw0,hz⟩:=yL w (jo x) (jo y);have HW:=zb hW;have Hb:=zb hw0;obtain⟨x0,x1,x2,x3,x4,-,x6,x7,-,-,-,-⟩:=qE r0;obtain⟨y0,y1,y2,y3,y4,-,y6,y7,-,-,-,-⟩:=qE r1;unfold jo at HW;have HD:=zb (show zK x.b y.b=zK x.b y.b from rfl);unfold zK at HD;clear hW r0 r1 hw0 hz;unfold ym;obtain⟨⟨a0,a1,a2,a3,a4,azs,a6,a7,a8,a9,a10,a11⟩,za,zn,zc⟩:=x;obtain⟨⟨b0,b1,b2,b3,b4,bzs,b6,b7,b8,b9,b10,b11⟩,ya,yn,yc⟩:=y;dsimp only at *;by_cases h0:a0=b0
 · have k0:(a0 != b0)=false:=bne_eq_false_iff_eq.2 h0
   by_cases h1:a1=b1
   · have k1:(a1 != b1)=false:=bne_eq_false_iff_eq.2 h1
     by_cases h2:ye a2 b2=true
     · have k2:(a2.toList==b2.toList)=true:=h2
       by_cases h3:a3=b3
       · have k3:(a3 != b3)=false:=bne_eq_false_iff_eq.2 h3
         have HE:=zb (show zK ⟨a0,a1,a2,a3,a4,azs,a6,a7,a8,a9,a10,a11⟩ ⟨b0,b1,b2,b3,b4,bzs,b6,b7,b8,b9,b10,b11⟩=decide (a6<b6) by unfold zK;simp[h0,h1,h2,h3]);clear HD h0 h1 h2 h3;rw[HE.out];go_enter Tryz.func96,Tryz.ntmps96;go_upto_region 1 with(fail);rw[<-HW.out];go_wp2_with fail;go_ret;exact⟨zo (by first|rfl|simp),Hb.out⟩
       have k3:(a3 != b3)=true:=bne_iff_ne.2 h3;have HE:=zb (show zK ⟨a0,a1,a2,a3,a4,azs,a6,a7,a8,a9,a10,a11⟩ ⟨b0,b1,b2,b3,b4,bzs,b6,b7,b8,b9,b10,b11⟩=decide (a3<b3) by unfold zK;simp[h0,h1,h2,h3]);clear HD h0 h1 h2 h3;rw[HE.out];go_enter Tryz.func96,Tryz.ntmps96;go_upto_region 1 with(fail);rw[<-HW.out];go_wp2_with fail;go_ret;exact⟨zo (by first|rfl|simp),Hb.out⟩
     have h2:ye a2 b2=false:=by simpa using h2
     have k2:(a2.toList==b2.toList)=false:=h2;have HE:=zb (show zK ⟨a0,a1,a2,a3,a4,azs,a6,a7,a8,a9,a10,a11⟩ ⟨b0,b1,b2,b3,b4,bzs,b6,b7,b8,b9,b10,b11⟩=ltS a2 b2 by unfold zK;simp[h0,h1,h2]);clear HD h0 h1 h2;rw[HE.out];go_enter Tryz.func96,Tryz.ntmps96;go_upto_region 1 with(fail);rw[<-HW.out];go_wp2_with fail;go_ret;exact⟨zo (by first|rfl|simp),Hb.out⟩
   have k1:(a1 != b1)=true:=bne_iff_ne.2 h1;have HE:=zb (show zK ⟨a0,a1,a2,a3,a4,azs,a6,a7,a8,a9,a10,a11⟩ ⟨b0,b1,b2,b3,b4,bzs,b6,b7,b8,b9,b10,b11⟩=decide (a1<b1) by unfold zK;simp[h0,h1]);clear HD h0 h1;rw[HE.out];go_enter Tryz.func96,Tryz.ntmps96;go_upto_region 1 with(fail);rw[<-HW.out];go_wp2_with fail;go_ret;exact⟨zo (by first|rfl|simp),Hb.out⟩
 have k0:(a0 != b0)=true:=bne_iff_ne.2 h0;have HE:=zb (show zK ⟨a0,a1,a2,a3,a4,azs,a6,a7,a8,a9,a10,a11⟩ ⟨b0,b1,b2,b3,b4,bzs,b6,b7,b8,b9,b10,b11⟩=decide (a0<b0) by unfold zK;simp[h0]);clear HD h0;rw[HE.out];go_enter Tryz.func96,Tryz.ntmps96;go_upto_region 1 with(fail);rw[<-HW.out];go_wp2_with fail;go_ret;exact⟨zo (by first|rfl|simp),Hb.out⟩
theorem Vo (x y:BuX) (w:World):
 Calls Tryz.prog 48 #[ym x,ym y] w fun e w'=>e=.returned (.bool (zK x.b y.b))/\Below w.heap.size w w':=by
 obtain⟨W,hW,r0,r1,hw0,hz⟩:=yL w (jo x) (jo y);have HW:=zb hW;have Hb:=zb hw0;obtain⟨x0,x1,x2,x3,x4,-,x6,x7,-,-,-,-⟩:=qE r0;obtain⟨y0,y1,y2,y3,y4,-,y6,y7,-,-,-,-⟩:=qE r1;unfold jo at HW;have HD:=zb (show zK x.b y.b=zK x.b y.b from rfl);unfold zK at HD;clear hW r0 r1 hw0 hz;unfold ym;obtain⟨⟨a0,a1,a2,a3,a4,azs,a6,a7,a8,a9,a10,a11⟩,za,zn,zc⟩:=x;obtain⟨⟨b0,b1,b2,b3,b4,bzs,b6,b7,b8,b9,b10,b11⟩,ya,yn,yc⟩:=y;dsimp only at *;by_cases h0:a0=b0
 · have k0:(a0 != b0)=false:=bne_eq_false_iff_eq.2 h0
   by_cases h1:a1=b1
   · have k1:(a1 != b1)=false:=bne_eq_false_iff_eq.2 h1
     by_cases h2:ye a2 b2=true
     · have k2:(a2.toList==b2.toList)=true:=h2
       by_cases h3:a3=b3
       · have k3:(a3 != b3)=false:=bne_eq_false_iff_eq.2 h3
         have HE:=zb (show zK ⟨a0,a1,a2,a3,a4,azs,a6,a7,a8,a9,a10,a11⟩ ⟨b0,b1,b2,b3,b4,bzs,b6,b7,b8,b9,b10,b11⟩=decide (a6<b6) by unfold zK;simp[h0,h1,h2,h3]);clear HD h0 h1 h2 h3;rw[HE.out];go_enter Tryz.func48,Tryz.ntmps48;go_upto_region 1 with(fail);rw[<-HW.out];go_wp2_with fail;go_ret;exact⟨zo (by first|rfl|simp),Hb.out⟩
       have k3:(a3 != b3)=true:=bne_iff_ne.2 h3;have HE:=zb (show zK ⟨a0,a1,a2,a3,a4,azs,a6,a7,a8,a9,a10,a11⟩ ⟨b0,b1,b2,b3,b4,bzs,b6,b7,b8,b9,b10,b11⟩=decide (a3<b3) by unfold zK;simp[h0,h1,h2,h3]);clear HD h0 h1 h2 h3;rw[HE.out];go_enter Tryz.func48,Tryz.ntmps48;go_upto_region 1 with(fail);rw[<-HW.out];go_wp2_with fail;go_ret;exact⟨zo (by first|rfl|simp),Hb.out⟩
     have h2:ye a2 b2=false:=by simpa using h2
     have k2:(a2.toList==b2.toList)=false:=h2;have HE:=zb (show zK ⟨a0,a1,a2,a3,a4,azs,a6,a7,a8,a9,a10,a11⟩ ⟨b0,b1,b2,b3,b4,bzs,b6,b7,b8,b9,b10,b11⟩=ltS a2 b2 by unfold zK;simp[h0,h1,h2]);clear HD h0 h1 h2;rw[HE.out];go_enter Tryz.func48,Tryz.ntmps48;go_upto_region 1 with(fail);rw[<-HW.out];go_wp2_with fail;go_ret;exact⟨zo (by first|rfl|simp),Hb.out⟩
   have k1:(a1 != b1)=true:=bne_iff_ne.2 h1;have HE:=zb (show zK ⟨a0,a1,a2,a3,a4,azs,a6,a7,a8,a9,a10,a11⟩ ⟨b0,b1,b2,b3,b4,bzs,b6,b7,b8,b9,b10,b11⟩=decide (a1<b1) by unfold zK;simp[h0,h1]);clear HD h0 h1;rw[HE.out];go_enter Tryz.func48,Tryz.ntmps48;go_upto_region 1 with(fail);rw[<-HW.out];go_wp2_with fail;go_ret;exact⟨zo (by first|rfl|simp),Hb.out⟩
 have k0:(a0 != b0)=true:=bne_iff_ne.2 h0;have HE:=zb (show zK ⟨a0,a1,a2,a3,a4,azs,a6,a7,a8,a9,a10,a11⟩ ⟨b0,b1,b2,b3,b4,bzs,b6,b7,b8,b9,b10,b11⟩=decide (a0<b0) by unfold zK;simp[h0]);clear HD h0;rw[HE.out];go_enter Tryz.func48,Tryz.ntmps48;go_upto_region 1 with(fail);rw[<-HW.out];go_wp2_with fail;go_ret;exact⟨zo (by first|rfl|simp),Hb.out⟩
theorem Kr {w:World} {ops:Array Oper} {rest:List Oper} {o:Oper} {a:Act} {Q:Exit->Act->World->Prop} (hgd:o.guard=none) (s x:Operand)
 (ho:o.op=.call { callee:=.builtin .append,args:=#[s,x],argTypes:=#[58,58] })
 (base:Nat) (hbase:base<=w.heap.size) (v vx:Value) (L X:List ByteArray) (hs:a.eval s=v) (hx:a.eval x=vx) (hown:w.ownsRow base 9 1 v L.length (L.flatMap zm)) (hX:zh zm 1 w vx X) (hlen:L.length+X.length<=maxLen) (hby:(L.length+X.length)*16<=140737488355328)
 (h:∀R:List ByteArray,RowKit.Hid (R=L++X)->∀v' w',w'.ownsRow base 9 1 v' R.length (R.flatMap zm)->Below base w w'->wpList Tryz.prog ops Q rest (a.put o.dst v') w'):wpList Tryz.prog ops Q (o::rest) a w:=
 kw (c:=zm) (sz:=1) (fun _=>rfl) (fun a u hu=>by unfold zm at hu;rw[List.mem_singleton]at hu;subst hu;rfl) 9 58 _ 16 Tryz.underlying58 Tryz.stringInfo rfl (by decide) hgd s x ho base hbase v vx L X hs hx hown hX hlen hby h
structure BuO (base:Nat) (w:World) (x:BuX):Prop where
 row:w.ownsRow base 9 1 (.slice x.za x.zn x.zc) x.b.zs.length (x.b.zs.flatMap zm)
 sizes:∀s∈x.b.zs,s.size<=maxLen
 p:x.b.pr.size<=maxLen
 len:x.b.zs.length*16<=140737488355328
theorem BuO.below {base:Nat} {w w':World} {x:BuX} (h:BuO base w x) (hb:Below w.heap.size w w'):BuO base w' x:=⟨ze h.row hb,h.sizes,h.p,h.len⟩
theorem BuO.down {b b':Nat} {w:World} {x:BuX} (h:BuO b w x) (hb:b'<=b):BuO b' w x:=⟨zr h.row hb,h.sizes,h.p,h.len⟩
theorem BuO.rd {base:Nat} {w:World} {x:BuX} (h:BuO base w x):BuRd w x:=⟨kA (zh.own (fun _=>rfl) h.row) h.sizes,h.p,h.len⟩
theorem BuO.growT {base base':Nat} {w w':World} {x:BuX} (h:BuO base w x) {v:Value} {e:TypeId} {sz n:Nat} {xs:List Value} (ho:w.ownsRow base' e sz v n xs) (he:e≠9) (hg:w.grownBy w' v.ownBlock):BuO base w' x:=
 ⟨yX h.row hg (yo h.row ho he),h.sizes,h.p,h.len⟩
theorem BuO.turn {base:Nat} {w w':World} {x:BuX} (h:BuO base w x) {g:Nat} (hne:(Value.slice x.za x.zn x.zc).ownBlock≠some g) (hg:w.grownBy w' (some g)):BuO base w' x:=
 ⟨yX h.row hg (Or.inr hne),h.sizes,h.p,h.len⟩
def BuTo (b:Bu) (w:World) (e:Ending) (w':World):Prop:=∃x:BuX,e=.returned (ym x)/\x.b=b/\BuO w.heap.size w' x/\Below w.heap.size w w'
theorem uh {w:World} {v:Value} {l:List ByteArray} (h:zY w v l):∀s∈l,s.size<=maxLen:=by obtain⟨av,cap,rfl,-,-,hx⟩:=h;intro s hs;obtain⟨i,hi,rfl⟩:=List.mem_iff_getElem.1 hs;obtain⟨b,o,-,-,hx⟩:=hx (by rintro rfl;cases hi);exact(hx i hi).2
theorem uV (x:BuX) (w:World) (h:BuRd w x):Calls Tryz.prog 51 #[ym x] w (BuTo x.b w):=by
 obtain⟨⟨a0,a1,a2,a3,a4,azs,a6,a7,a8,a9,a10,a11⟩,za,zn,zc⟩:=x;obtain⟨hz,hp,hl⟩:=h;dsimp only at hz hp hl;have hsz:=uh hz;obtain⟨av,cap,e,hlc,hm,hzz⟩:=id hz;cases e;clear hzz;have hm:=hm.1;obtain⟨W,hW,r0,r1,hw0,hz1⟩:=yL w (Obj.cells #[.int .i64 a0,.int .i64 a1,.string a2,.int .i64 a3,.int .i64 a4,.slice za azs.length zc,.int .i64 a6,.int .i64 a7,.int .i64 a8,.int .i64 a9,.int .i64 a10,.bool a11] 60) (Obj.cells #[.int .i64 0,.int .i64 0,.string ⟨#[]⟩,.int .i64 0,.int .i64 0,.slice none 0 0,.int .i64 0,.int .i64 0,.int .i64 0,.int .i64 0,.int .i64 0,.bool false] 60);have HZ:=zb (qt (hz.below hw0));have HP:=zb (And.intro hsz (And.intro hp hl));unfold ym;dsimp only;have HW:=zb hW;have Hw0:=zb hw0;have R0:=zb r0;have R1:=zb r1;have x5:=cell_of_row W _ 5 _ _ _ r0;have f5:=frozen_of_row W _ 5 _ _ r0;have hbY:Below W.heap.size W W:=Below.refl _ _;have Hown0:=zb (show W.ownsRow W.heap.size 9 1 (.slice none 0 0) ([]:List ByteArray).length (([]:List ByteArray).flatMap zm)from World.ownsRow_nil _ _ _ _);have HbY:=zb hbY;have hbs:=hbY.size;clear hW r0 r1 hw0 hz hsz hp hl hbY;go_enter Tryz.func51,Tryz.ntmps51;go_upto_region 1 with(fail);rw[<-HW.out];go_wp2_with (at_builtin;refine Kr rfl _ _ rfl W.heap.size hbs _ _ [] azs rfl rfl Hown0.out (HZ.out.below HbY.out) (by simpa using Nat.le_trans hlc hm) (by simpa using HP.out.2.2) ?_);intro R hR v1 w1 own1 hb1;obtain rfl:azs=R:=hR.out.symm;obtain⟨qa,qc,rfl,-,-⟩:=zf own1;have Own1:=zb own1;have hbW1:=HbY.out.trans hb1;have HbW1:=zb hbW1;have Hb1:=zb (Hw0.out.trans (hbW1.mono Hw0.out.size));have q0:=(hbW1.block _ (by omega)).trans R0.out;have q1:=(hbW1.block _ hz1).trans R1.out;have g5:=frozen_of_row w1 _ 5 _ _ q0;have c5:=cell_of_row w1 _ 5 _ _ _ q0;obtain⟨Z,hZ⟩:∃Z,Z=w1.setCell ⟨w.heap.size,5,none⟩ (.slice qa azs.length qc):=⟨_,rfl⟩;have Z0:=zb (show Z.heap[w.heap.size]?=some (Obj.cells #[.int .i64 a0,.int .i64 a1,.string a2,.int .i64 a3,.int .i64 a4,.slice qa azs.length qc,.int .i64 a6,.int .i64 a7,.int .i64 a8,.int .i64 a9,.int .i64 a10,.bool a11] 60) by rw[hZ];exact zU _ q0);have Z1:=zb (show Z.heap[w.heap.size+1]?=some (Obj.cells #[.int .i64 0,.int .i64 0,.string ⟨#[]⟩,.int .i64 0,.int .i64 0,.slice none 0 0,.int .i64 0,.int .i64 0,.int .i64 0,.int .i64 0,.int .i64 0,.bool false] 60) by rw[hZ];exact zF q1 (by omega));have HbZ:=zb (show Below w.heap.size w Z by rw[hZ];exact Hb1.out.setCell (Nat.le_refl _) _);have Hq:=zb (show Z.ownsRow W.heap.size 9 1 (.slice qa azs.length qc) _ _ by rw[hZ];exact zq Own1.out (zi Own1.out q0 (by decide)));have HZe:=zb hZ;clear hZ q0 q1 own1 hb1 hbW1 x5 f5 hR;go_upto_region 2 with(fail);rw[<-HZe.out];have tQ:=fun j=>cell_of_row Z _ j _ _ _ Z0.out;have z0:=tQ 0;have z1:=tQ 1;have z2:=tQ 2;have z3:=tQ 3;have z4:=tQ 4;have z5:=tQ 5;have z6:=tQ 6;have z7:=tQ 7;have z8:=tQ 8;have z9:=tQ 9;have z10:=tQ 10;have z11:=tQ 11;clear tQ;have HbF:=zb (zk HbZ.out (show w.heap.size<=w.heap.size+1 by omega) #[.int .i64 a0,.int .i64 a1,.string a2,.int .i64 a3,.int .i64 a4,.slice qa azs.length qc,.int .i64 a6,.int .i64 a7,.int .i64 a8,.int .i64 a9,.int .i64 a10,.bool a11]);have tQ:=fun j=>cell_setRow_same Z (w.heap.size+1) j _ #[.int .i64 a0,.int .i64 a1,.string a2,.int .i64 a3,.int .i64 a4,.slice qa azs.length qc,.int .i64 a6,.int .i64 a7,.int .i64 a8,.int .i64 a9,.int .i64 a10,.bool a11] _ _ Z1.out;have t0:=tQ 0;have t1:=tQ 1;have t2:=tQ 2;have t3:=tQ 3;have t4:=tQ 4;have t5:=tQ 5;have t6:=tQ 6;have t7:=tQ 7;have t8:=tQ 8;have t9:=tQ 9;have t10:=tQ 10;have t11:=tQ 11;clear tQ;repeat (first|refine wpList_store_row rfl _ _ _ rfl (w.heap.size+1) #[.int .i64 a0,.int .i64 a1,.string a2,.int .i64 a3,.int .i64 a4,.slice qa azs.length qc,.int .i64 a6,.int .i64 a7,.int .i64 a8,.int .i64 a9,.int .i64 a10,.bool a11] rfl rfl 60 _ Z1.out (by kernel_rfl) rfl (by simp[Value.oneCell']) ?_|go_step)
 refine bodyPost_ret (v:=.agg #[.int .i64 a0,.int .i64 a1,.string a2,.int .i64 a3,.int .i64 a4,.slice qa azs.length qc,.int .i64 a6,.int .i64 a7,.int .i64 a8,.int .i64 a9,.int .i64 a10,.bool a11]) (by simp[results,Tryz.results51,go_sem,t0,t1,t2,t3,t4,t5,t6,t7,t8,t9,t10,t11]) rfl ?_;have hq:=zp Hq.out (zi Hq.out Z1.out (by decide)) #[.int .i64 a0,.int .i64 a1,.string a2,.int .i64 a3,.int .i64 a4,.slice qa azs.length qc,.int .i64 a6,.int .i64 a7,.int .i64 a8,.int .i64 a9,.int .i64 a10,.bool a11];exact⟨⟨⟨a0,a1,a2,a3,a4,azs,a6,a7,a8,a9,a10,a11⟩,qa,azs.length,qc⟩,rfl,rfl,⟨zr hq Hw0.out.size,HP.out.1,HP.out.2.1,HP.out.2.2⟩,HbF.out⟩
theorem Vp (x:BuX) (w:World) (h:BuRd w x):Calls Tryz.prog 138 #[ym x] w (BuTo x.b w):=by
 obtain⟨⟨a0,a1,a2,a3,a4,azs,a6,a7,a8,a9,a10,a11⟩,za,zn,zc⟩:=x;obtain⟨hz,hp,hl⟩:=h;dsimp only at hz hp hl;have hsz:=uh hz;obtain⟨av,cap,e,hlc,hm,hzz⟩:=id hz;cases e;clear hzz;have hm:=hm.1;obtain⟨W,hW,r0,r1,hw0,hz1⟩:=yL w (Obj.cells #[.int .i64 a0,.int .i64 a1,.string a2,.int .i64 a3,.int .i64 a4,.slice za azs.length zc,.int .i64 a6,.int .i64 a7,.int .i64 a8,.int .i64 a9,.int .i64 a10,.bool a11] 60) (Obj.cells #[.int .i64 0,.int .i64 0,.string ⟨#[]⟩,.int .i64 0,.int .i64 0,.slice none 0 0,.int .i64 0,.int .i64 0,.int .i64 0,.int .i64 0,.int .i64 0,.bool false] 60);have HZ:=zb (qt (hz.below hw0));have HP:=zb (And.intro hsz (And.intro hp hl));unfold ym;dsimp only;have HW:=zb hW;have Hw0:=zb hw0;have R0:=zb r0;have R1:=zb r1;have x5:=cell_of_row W _ 5 _ _ _ r0;have f5:=frozen_of_row W _ 5 _ _ r0;obtain⟨Y,hY⟩:∃Y,Y=W.alloc (Obj.cells #[] 9):=⟨_,rfl⟩;have hbY:Below W.heap.size W Y:=by rw[hY];exact(Below.refl _ _).alloc (Nat.le_refl _) _
 have Hown0:=zb (show Y.ownsRow W.heap.size 9 1 (.slice (some ⟨W.heap.size,0,none⟩) 0 0) ([]:List ByteArray).length (([]:List ByteArray).flatMap zm) by rw[hY];exact yx _ _);have HY:=zb hY;clear hY;have hwl:w.heap.size<W.heap.size:=by omega
 have hwn:¬w.heap.size=W.heap.size:=by omega
 have HbY:=zb hbY;have hbs:=hbY.size;clear hW r0 r1 hw0 hz hsz hp hl hbY;go_enter Tryz.func138,Tryz.ntmps138;go_upto_region 1 with(fail);rw[<-HW.out];go_wp2_with (at_builtin;rw[<-HY.out];refine Kr rfl _ _ rfl W.heap.size hbs _ _ [] azs rfl rfl Hown0.out (HZ.out.below HbY.out) (by simpa using Nat.le_trans hlc hm) (by simpa using HP.out.2.2) ?_);intro R hR v1 w1 own1 hb1;obtain rfl:azs=R:=hR.out.symm;obtain⟨qa,qc,rfl,-,-⟩:=zf own1;have Own1:=zb own1;have hbW1:=HbY.out.trans hb1;have HbW1:=zb hbW1;have Hb1:=zb (Hw0.out.trans (hbW1.mono Hw0.out.size));have q0:=(hbW1.block _ (by omega)).trans R0.out;have q1:=(hbW1.block _ hz1).trans R1.out;have g5:=frozen_of_row w1 _ 5 _ _ q0;have c5:=cell_of_row w1 _ 5 _ _ _ q0;obtain⟨Z,hZ⟩:∃Z,Z=w1.setCell ⟨w.heap.size,5,none⟩ (.slice qa azs.length qc):=⟨_,rfl⟩;have Z0:=zb (show Z.heap[w.heap.size]?=some (Obj.cells #[.int .i64 a0,.int .i64 a1,.string a2,.int .i64 a3,.int .i64 a4,.slice qa azs.length qc,.int .i64 a6,.int .i64 a7,.int .i64 a8,.int .i64 a9,.int .i64 a10,.bool a11] 60) by rw[hZ];exact zU _ q0);have Z1:=zb (show Z.heap[w.heap.size+1]?=some (Obj.cells #[.int .i64 0,.int .i64 0,.string ⟨#[]⟩,.int .i64 0,.int .i64 0,.slice none 0 0,.int .i64 0,.int .i64 0,.int .i64 0,.int .i64 0,.int .i64 0,.bool false] 60) by rw[hZ];exact zF q1 (by omega));have HbZ:=zb (show Below w.heap.size w Z by rw[hZ];exact Hb1.out.setCell (Nat.le_refl _) _);have Hq:=zb (show Z.ownsRow W.heap.size 9 1 (.slice qa azs.length qc) _ _ by rw[hZ];exact zq Own1.out (zi Own1.out q0 (by decide)));have HZe:=zb hZ;clear hZ q0 q1 own1 hb1 hbW1 x5 f5 hR;go_upto_region 2 with(fail);rw[<-HZe.out];have tQ:=fun j=>cell_of_row Z _ j _ _ _ Z0.out;have z0:=tQ 0;have z1:=tQ 1;have z2:=tQ 2;have z3:=tQ 3;have z4:=tQ 4;have z5:=tQ 5;have z6:=tQ 6;have z7:=tQ 7;have z8:=tQ 8;have z9:=tQ 9;have z10:=tQ 10;have z11:=tQ 11;clear tQ;have HbF:=zb (zk HbZ.out (show w.heap.size<=w.heap.size+1 by omega) #[.int .i64 a0,.int .i64 a1,.string a2,.int .i64 a3,.int .i64 a4,.slice qa azs.length qc,.int .i64 a6,.int .i64 a7,.int .i64 a8,.int .i64 a9,.int .i64 a10,.bool a11]);have tQ:=fun j=>cell_setRow_same Z (w.heap.size+1) j _ #[.int .i64 a0,.int .i64 a1,.string a2,.int .i64 a3,.int .i64 a4,.slice qa azs.length qc,.int .i64 a6,.int .i64 a7,.int .i64 a8,.int .i64 a9,.int .i64 a10,.bool a11] _ _ Z1.out;have t0:=tQ 0;have t1:=tQ 1;have t2:=tQ 2;have t3:=tQ 3;have t4:=tQ 4;have t5:=tQ 5;have t6:=tQ 6;have t7:=tQ 7;have t8:=tQ 8;have t9:=tQ 9;have t10:=tQ 10;have t11:=tQ 11;clear tQ;repeat (first|refine wpList_store_row rfl _ _ _ rfl (w.heap.size+1) #[.int .i64 a0,.int .i64 a1,.string a2,.int .i64 a3,.int .i64 a4,.slice qa azs.length qc,.int .i64 a6,.int .i64 a7,.int .i64 a8,.int .i64 a9,.int .i64 a10,.bool a11] rfl rfl 60 _ Z1.out (by kernel_rfl) rfl (by simp[Value.oneCell']) ?_|go_step)
 refine bodyPost_ret (v:=.agg #[.int .i64 a0,.int .i64 a1,.string a2,.int .i64 a3,.int .i64 a4,.slice qa azs.length qc,.int .i64 a6,.int .i64 a7,.int .i64 a8,.int .i64 a9,.int .i64 a10,.bool a11]) (by simp[results,Tryz.results138,go_sem,t0,t1,t2,t3,t4,t5,t6,t7,t8,t9,t10,t11]) rfl ?_;have hq:=zp Hq.out (zi Hq.out Z1.out (by decide)) #[.int .i64 a0,.int .i64 a1,.string a2,.int .i64 a3,.int .i64 a4,.slice qa azs.length qc,.int .i64 a6,.int .i64 a7,.int .i64 a8,.int .i64 a9,.int .i64 a10,.bool a11];exact⟨⟨⟨a0,a1,a2,a3,a4,azs,a6,a7,a8,a9,a10,a11⟩,qa,azs.length,qc⟩,rfl,rfl,⟨zr hq Hw0.out.size,HP.out.1,HP.out.2.1,HP.out.2.2⟩,HbF.out⟩
theorem Xx (x y:BuX) (r:Int) (w:World) (h:BuRd w y):Calls Tryz.prog 95 #[ym x,ym y,.int .i64 r] w (BuTo (jv x.b y.b r) w):=by
 obtain⟨W,hW,r0,r1,r2,hw0,hz⟩:=qe w (jo x) (jo y) (Obj.cells #[.int .i64 0,.int .i64 0,.string ⟨#[]⟩,.int .i64 0,.int .i64 0,.slice none 0 0,.int .i64 0,.int .i64 0,.int .i64 0,.int .i64 0,.int .i64 0,.bool false] 60);have HCl:=zb (uV y W (h.below hw0));have HPr:=zb (fun(q:BuX) (w1:World)=>Qn x q w1);have Hx0:=zb r0;obtain⟨⟨a0,a1,a2,a3,a4,azs,a6,a7,a8,a9,a10,a11⟩,za,zn,zc⟩:=x;obtain⟨⟨b0,b1,b2,b3,b4,bzs,b6,b7,b8,b9,b10,b11⟩,ya,yn,yc⟩:=y;have HCy:=zb (show jv ⟨a0,a1,a2,a3,a4,azs,a6,a7,a8,a9,a10,a11⟩ ⟨b0,b1,b2,b3,b4,bzs,b6,b7,b8,b9,b10,b11⟩ r=if zQ ⟨a0,a1,a2,a3,a4,azs,a6,a7,a8,a9,a10,a11⟩ ⟨b0,b1,b2,b3,b4,bzs,b6,b7,b8,b9,b10,b11⟩=true then addN ⟨b0,b1,b2,b3,b4,bzs,b6,b7,b8,b9,b10,b11⟩ (Vl ⟨a0,a1,a2,a3,a4,azs,a6,a7,a8,a9,a10,a11⟩ r) else ⟨b0,b1,b2,b3,b4,bzs,b6,b7,b8,b9,b10,b11⟩ from rfl);have HRo:=zb (show Vl ⟨a0,a1,a2,a3,a4,azs,a6,a7,a8,a9,a10,a11⟩ r=max 0 (min a9 r)from rfl);unfold jo at hW r0 r1;unfold ym;unfold ym at HCl HPr;dsimp only at *;have HW:=zb hW;have Hw0:=zb hw0;have R0:=zb r0;have R1:=zb r1;have R2:=zb r2;have tQ:=fun j=>cell_of_row W _ j _ _ _ r1;have y0:=tQ 0;have y1:=tQ 1;have y2:=tQ 2;have y3:=tQ 3;have y4:=tQ 4;have y5:=tQ 5;have y6:=tQ 6;have y7:=tQ 7;have y8:=tQ 8;have y9:=tQ 9;have y10:=tQ 10;have y11:=tQ 11;clear tQ hW r0 r1 r2 hw0 h;go_enter Tryz.func95,Tryz.ntmps95;go_upto_region 1 with(fail);rw[<-HW.out];go_wp2_with fail;refine HCl.out.mono ?_;rintro e w1 ⟨⟨q,qa,qn,qc⟩,rfl,hq,hqo,hb1⟩;dsimp only at hq;subst hq;have Hqo:=zb hqo;have Hb1:=zb (Hw0.out.trans (hb1.mono Hw0.out.size));have hw1:=hb1.size;have q0:=(hb1.block _ (by omega)).trans R0.out;have q1:=(hb1.block _ (by omega)).trans R1.out;have q2:=(hb1.block _ hz).trans R2.out;unfold ym;dsimp only;obtain⟨Z,hZ⟩:∃Z,Z=w1.alloc (Obj.cells #[.int .i64 b0,.int .i64 b1,.string b2,.int .i64 b3,.int .i64 b4,.slice qa qn qc,.int .i64 b6,.int .i64 b7,.int .i64 b8,.int .i64 b9,.int .i64 b10,.bool b11] 60):=⟨_,rfl⟩;have hbZ:Below w1.heap.size w1 Z:=by rw[hZ];exact(Below.refl _ _).alloc (Nat.le_refl _) _
 have ZN:=zb (show Z.heap[w1.heap.size]?=some (Obj.cells #[.int .i64 b0,.int .i64 b1,.string b2,.int .i64 b3,.int .i64 b4,.slice qa qn qc,.int .i64 b6,.int .i64 b7,.int .i64 b8,.int .i64 b9,.int .i64 b10,.bool b11] 60) by rw[hZ];exact heap_alloc_new _ _);have Z0:=zb ((hbZ.block _ (by omega)).trans q0);have Z1:=zb ((hbZ.block _ (by omega)).trans q1);have Z2:=zb ((hbZ.block _ (by omega)).trans q2);have HbZ:=zb (Hb1.out.trans (hbZ.mono Hb1.out.size));have HqZ:=zb (hqo.below hbZ);have HZ:=zb hZ;have hzz:w1.heap.size<Z.heap.size:=(zw ZN.out);clear hZ hqo hb1 q0 q1 q2 hbZ y0 y1 y2 y3 y4 y5 y6 y7 y8 y9 y10 y11;go_upto_region 2 with(fail);rw[<-HZ.out];have tQ:=fun j=>cell_of_row Z _ j _ _ _ Z0.out;have x0:=tQ 0;have x1:=tQ 1;have x2:=tQ 2;have x3:=tQ 3;have x4:=tQ 4;have x5:=tQ 5;have x6:=tQ 6;have x7:=tQ 7;have x8:=tQ 8;have x9:=tQ 9;have x10:=tQ 10;have x11:=tQ 11;clear tQ;have tQ:=fun j=>cell_of_row Z _ j _ _ _ Z1.out;have z0:=tQ 0;have z1:=tQ 1;have z2:=tQ 2;have z3:=tQ 3;have z4:=tQ 4;have z5:=tQ 5;have z6:=tQ 6;have z7:=tQ 7;have z8:=tQ 8;have z9:=tQ 9;have z10:=tQ 10;have z11:=tQ 11;clear tQ;go_wp2_with fail;have HP1:=zb (HPr.out ⟨⟨b0,b1,b2,b3,b4,bzs,b6,b7,b8,b9,b10,b11⟩,ya,yn,yc⟩ Z);dsimp only at HP1;refine HP1.out.mono ?_;rintro e w2 ⟨rfl,hb2⟩;have hw2:=hb2.size;have N0:=zb ((hb2.block _ (by omega)).trans Z0.out);have NN:=zb ((hb2.block _ hzz).trans ZN.out);have N2:=zb ((hb2.block _ (by omega)).trans Z2.out);have HbN:=zb (HbZ.out.trans (hb2.mono HbZ.out.size));have HqN:=zb (HqZ.out.below hb2);have hnn:w1.heap.size<w2.heap.size:=by omega
 clear hb2 x0 x1 x2 x3 x4 x5 x6 x7 x8 x9 x10 x11 z0 z1 z2 z3 z4 z5 z6 z7 z8 z9 z10 z11;cases hp:zQ ⟨a0,a1,a2,a3,a4,azs,a6,a7,a8,a9,a10,a11⟩ ⟨b0,b1,b2,b3,b4,bzs,b6,b7,b8,b9,b10,b11⟩ with
 |false=>
   have HE:=zb (HCy.out.trans (if_neg (by rw[hp];decide)));clear hp;have tQ:=fun j=>cell_of_row w2 _ j _ _ _ NN.out;have n0:=tQ 0;have n1:=tQ 1;have n2:=tQ 2;have n3:=tQ 3;have n4:=tQ 4;have n5:=tQ 5;have n6:=tQ 6;have n7:=tQ 7;have n8:=tQ 8;have n9:=tQ 9;have n10:=tQ 10;have n11:=tQ 11;clear tQ;have HbF:=zb (zk HbN.out (show w.heap.size<=w.heap.size+1+1 by omega) #[.int .i64 b0,.int .i64 b1,.string b2,.int .i64 b3,.int .i64 b4,.slice qa qn qc,.int .i64 b6,.int .i64 b7,.int .i64 b8,.int .i64 b9,.int .i64 b10,.bool b11]);go_upto_region 6 with(fail);have tQ:=fun j=>cell_setRow_same w2 (w.heap.size+1+1) j _ #[.int .i64 b0,.int .i64 b1,.string b2,.int .i64 b3,.int .i64 b4,.slice qa qn qc,.int .i64 b6,.int .i64 b7,.int .i64 b8,.int .i64 b9,.int .i64 b10,.bool b11] _ _ N2.out;have t0:=tQ 0;have t1:=tQ 1;have t2:=tQ 2;have t3:=tQ 3;have t4:=tQ 4;have t5:=tQ 5;have t6:=tQ 6;have t7:=tQ 7;have t8:=tQ 8;have t9:=tQ 9;have t10:=tQ 10;have t11:=tQ 11;clear tQ;repeat (first|refine wpList_store_row rfl _ _ _ rfl (w.heap.size+1+1) #[.int .i64 b0,.int .i64 b1,.string b2,.int .i64 b3,.int .i64 b4,.slice qa qn qc,.int .i64 b6,.int .i64 b7,.int .i64 b8,.int .i64 b9,.int .i64 b10,.bool b11] rfl rfl 60 _ N2.out (by kernel_rfl) rfl (by simp[Value.oneCell']) ?_|go_step)
   refine bodyPost_ret (v:=.agg #[.int .i64 b0,.int .i64 b1,.string b2,.int .i64 b3,.int .i64 b4,.slice qa qn qc,.int .i64 b6,.int .i64 b7,.int .i64 b8,.int .i64 b9,.int .i64 b10,.bool b11]) (by simp[results,Tryz.results95,go_sem,t0,t1,t2,t3,t4,t5,t6,t7,t8,t9,t10,t11]) rfl ?_;have hq:=zp HqN.out.row (zi HqN.out.row N2.out (by decide)) #[.int .i64 b0,.int .i64 b1,.string b2,.int .i64 b3,.int .i64 b4,.slice qa qn qc,.int .i64 b6,.int .i64 b7,.int .i64 b8,.int .i64 b9,.int .i64 b10,.bool b11];exact⟨⟨⟨b0,b1,b2,b3,b4,bzs,b6,b7,b8,b9,b10,b11⟩,qa,qn,qc⟩,rfl,HE.out.symm,⟨zr hq (by have:=Hw0.out.size;omega),HqN.out.sizes,HqN.out.p,HqN.out.len⟩,HbF.out⟩
 |true=>
   have HE:=zb (HCy.out.trans (if_pos hp));clear hp;obtain⟨m,hm⟩:∃m,m=Vl ⟨a0,a1,a2,a3,a4,azs,a6,a7,a8,a9,a10,a11⟩ r:=⟨_,rfl⟩;have HM:=zb (show min (max a9 0) (max r 0)=m by rw[hm,HRo.out]<;>omega);rw[<-hm]at HE;have HA:=zb (show addN ⟨b0,b1,b2,b3,b4,bzs,b6,b7,b8,b9,b10,b11⟩ m=⟨b0,b1,b2,b3,b4,bzs,b6,b7,wrap64 (b8+m),wrap64 (b9+m),b10,b11⟩ from rfl);clear hm HRo;have x9:=cell_of_row w2 _ 9 _ _ _ N0.out;have tQ:=fun j=>cell_of_row w2 _ j _ _ _ NN.out;have n0:=tQ 0;have n1:=tQ 1;have n2:=tQ 2;have n3:=tQ 3;have n4:=tQ 4;have n5:=tQ 5;have n6:=tQ 6;have n7:=tQ 7;have n8:=tQ 8;have n9:=tQ 9;have n10:=tQ 10;have n11:=tQ 11;clear tQ;have f8:=frozen_of_row w2 _ 8 _ _ NN.out;go_upto_region 4 with(fail);rw[HM.out];obtain⟨U,hU⟩:∃U,U=w2.setCell ⟨w1.heap.size,8,none⟩ (.int .i64 (wrap64 (b8+m))):=⟨_,rfl⟩;have UN:=zb (show U.heap[w1.heap.size]?=some (Obj.cells #[.int .i64 b0,.int .i64 b1,.string b2,.int .i64 b3,.int .i64 b4,.slice qa qn qc,.int .i64 b6,.int .i64 b7,.int .i64 (wrap64 (b8+m)),.int .i64 b9,.int .i64 b10,.bool b11] 60) by rw[hU];exact zU _ NN.out);have U2:=zb (show U.heap[w.heap.size+1+1]?=some (Obj.cells #[.int .i64 0,.int .i64 0,.string ⟨#[]⟩,.int .i64 0,.int .i64 0,.slice none 0 0,.int .i64 0,.int .i64 0,.int .i64 0,.int .i64 0,.int .i64 0,.bool false] 60) by rw[hU];exact zF N2.out (by omega));have HbU:=zb (show Below w.heap.size w U by rw[hU];exact HbN.out.setCell (show w.heap.size<=w1.heap.size by have:=Hw0.out.size;omega) _);have HqU:=zb (show U.ownsRow W.heap.size 9 1 (.slice qa qn qc) bzs.length (bzs.flatMap zm) by rw[hU];exact zq HqN.out.row (zi HqN.out.row NN.out (by decide)));have HU:=zb hU;have hun:w1.heap.size<U.heap.size:=(zw UN.out);clear hU x9;go_upto_region 5 with(fail);rw[<-HU.out];clear n0 n1 n2 n3 n4 n5 n6 n7 n8 n9 n10 n11 f8;obtain⟨V,hV⟩:∃V,V=U.setCell ⟨w1.heap.size,9,none⟩ (.int .i64 (wrap64 (b9+m))):=⟨_,rfl⟩;have VN:=zb (show V.heap[w1.heap.size]?=some (Obj.cells #[.int .i64 b0,.int .i64 b1,.string b2,.int .i64 b3,.int .i64 b4,.slice qa qn qc,.int .i64 b6,.int .i64 b7,.int .i64 (wrap64 (b8+m)),.int .i64 (wrap64 (b9+m)),.int .i64 b10,.bool b11] 60) by rw[hV];exact zU _ UN.out);have V2:=zb (show V.heap[w.heap.size+1+1]?=some (Obj.cells #[.int .i64 0,.int .i64 0,.string ⟨#[]⟩,.int .i64 0,.int .i64 0,.slice none 0 0,.int .i64 0,.int .i64 0,.int .i64 0,.int .i64 0,.int .i64 0,.bool false] 60) by rw[hV];exact zF U2.out (by omega));have HbV:=zb (show Below w.heap.size w V by rw[hV];exact HbU.out.setCell (show w.heap.size<=w1.heap.size by have:=Hw0.out.size;omega) _);have HqV:=zb (show V.ownsRow W.heap.size 9 1 (.slice qa qn qc) bzs.length (bzs.flatMap zm) by rw[hV];exact zq HqU.out (zi HqU.out UN.out (by decide)));have HV:=zb hV;have hvn:w1.heap.size<V.heap.size:=(zw VN.out);clear hV;have u9:=cell_of_row U _ 9 _ _ _ UN.out;have g9:=frozen_of_row U _ 9 _ _ UN.out;go_upto_region 6 with(fail);rw[<-HV.out];clear u9 g9;have tQ:=fun j=>cell_of_row V _ j _ _ _ VN.out;have v0:=tQ 0;have v1:=tQ 1;have v2:=tQ 2;have v3:=tQ 3;have v4:=tQ 4;have v5:=tQ 5;have v6:=tQ 6;have v7:=tQ 7;have v8:=tQ 8;have v9:=tQ 9;have v10:=tQ 10;have v11:=tQ 11;clear tQ;have HbF:=zb (zk HbV.out (show w.heap.size<=w.heap.size+1+1 by omega) #[.int .i64 b0,.int .i64 b1,.string b2,.int .i64 b3,.int .i64 b4,.slice qa qn qc,.int .i64 b6,.int .i64 b7,.int .i64 (wrap64 (b8+m)),.int .i64 (wrap64 (b9+m)),.int .i64 b10,.bool b11]);have tQ:=fun j=>cell_setRow_same V (w.heap.size+1+1) j _ #[.int .i64 b0,.int .i64 b1,.string b2,.int .i64 b3,.int .i64 b4,.slice qa qn qc,.int .i64 b6,.int .i64 b7,.int .i64 (wrap64 (b8+m)),.int .i64 (wrap64 (b9+m)),.int .i64 b10,.bool b11] _ _ V2.out;have t0:=tQ 0;have t1:=tQ 1;have t2:=tQ 2;have t3:=tQ 3;have t4:=tQ 4;have t5:=tQ 5;have t6:=tQ 6;have t7:=tQ 7;have t8:=tQ 8;have t9:=tQ 9;have t10:=tQ 10;have t11:=tQ 11;clear tQ;repeat (first|refine wpList_store_row rfl _ _ _ rfl (w.heap.size+1+1) #[.int .i64 b0,.int .i64 b1,.string b2,.int .i64 b3,.int .i64 b4,.slice qa qn qc,.int .i64 b6,.int .i64 b7,.int .i64 (wrap64 (b8+m)),.int .i64 (wrap64 (b9+m)),.int .i64 b10,.bool b11] rfl rfl 60 _ V2.out (by kernel_rfl) rfl (by simp[Value.oneCell']) ?_|go_step)
   refine bodyPost_ret (v:=.agg #[.int .i64 b0,.int .i64 b1,.string b2,.int .i64 b3,.int .i64 b4,.slice qa qn qc,.int .i64 b6,.int .i64 b7,.int .i64 (wrap64 (b8+m)),.int .i64 (wrap64 (b9+m)),.int .i64 b10,.bool b11]) (by simp[results,Tryz.results95,go_sem,t0,t1,t2,t3,t4,t5,t6,t7,t8,t9,t10,t11]) rfl ?_;have hq:=zp HqV.out (zi HqV.out V2.out (by decide)) #[.int .i64 b0,.int .i64 b1,.string b2,.int .i64 b3,.int .i64 b4,.slice qa qn qc,.int .i64 b6,.int .i64 b7,.int .i64 (wrap64 (b8+m)),.int .i64 (wrap64 (b9+m)),.int .i64 b10,.bool b11];exact⟨⟨⟨b0,b1,b2,b3,b4,bzs,b6,b7,wrap64 (b8+m),wrap64 (b9+m),b10,b11⟩,qa,qn,qc⟩,rfl,(HE.out.trans HA.out).symm,⟨zr hq (by have:=Hw0.out.size;omega),HqN.out.sizes,HqN.out.p,HqN.out.len⟩,HbF.out⟩
theorem KL (x y:BuX) (r:Int) (w:World) (h:BuRd w y):Calls Tryz.prog 101 #[ym x,ym y,.int .i64 r] w (BuTo (jv x.b y.b r) w):=by
 obtain⟨W,hW,r0,r1,r2,hw0,hz⟩:=qe w (jo x) (jo y) (Obj.cells #[.int .i64 0,.int .i64 0,.string ⟨#[]⟩,.int .i64 0,.int .i64 0,.slice none 0 0,.int .i64 0,.int .i64 0,.int .i64 0,.int .i64 0,.int .i64 0,.bool false] 60);have HCl:=zb (Vp y W (h.below hw0));have HPr:=zb (fun(q:BuX) (w1:World)=>Vk x q w1);have Hx0:=zb r0;obtain⟨⟨a0,a1,a2,a3,a4,azs,a6,a7,a8,a9,a10,a11⟩,za,zn,zc⟩:=x;obtain⟨⟨b0,b1,b2,b3,b4,bzs,b6,b7,b8,b9,b10,b11⟩,ya,yn,yc⟩:=y;have HCy:=zb (show jv ⟨a0,a1,a2,a3,a4,azs,a6,a7,a8,a9,a10,a11⟩ ⟨b0,b1,b2,b3,b4,bzs,b6,b7,b8,b9,b10,b11⟩ r=if zQ ⟨a0,a1,a2,a3,a4,azs,a6,a7,a8,a9,a10,a11⟩ ⟨b0,b1,b2,b3,b4,bzs,b6,b7,b8,b9,b10,b11⟩=true then addN ⟨b0,b1,b2,b3,b4,bzs,b6,b7,b8,b9,b10,b11⟩ (Vl ⟨a0,a1,a2,a3,a4,azs,a6,a7,a8,a9,a10,a11⟩ r) else ⟨b0,b1,b2,b3,b4,bzs,b6,b7,b8,b9,b10,b11⟩ from rfl);have HRo:=zb (show Vl ⟨a0,a1,a2,a3,a4,azs,a6,a7,a8,a9,a10,a11⟩ r=max 0 (min a9 r)from rfl);unfold jo at hW r0 r1;unfold ym;unfold ym at HCl HPr;dsimp only at *;have HW:=zb hW;have Hw0:=zb hw0;have R0:=zb r0;have R1:=zb r1;have R2:=zb r2;have tQ:=fun j=>cell_of_row W _ j _ _ _ r1;have y0:=tQ 0;have y1:=tQ 1;have y2:=tQ 2;have y3:=tQ 3;have y4:=tQ 4;have y5:=tQ 5;have y6:=tQ 6;have y7:=tQ 7;have y8:=tQ 8;have y9:=tQ 9;have y10:=tQ 10;have y11:=tQ 11;clear tQ hW r0 r1 r2 hw0 h;go_enter Tryz.func101,Tryz.ntmps101;go_upto_region 1 with(fail);rw[<-HW.out];go_wp2_with fail;refine HCl.out.mono ?_;rintro e w1 ⟨⟨q,qa,qn,qc⟩,rfl,hq,hqo,hb1⟩;dsimp only at hq;subst hq;have Hqo:=zb hqo;have Hb1:=zb (Hw0.out.trans (hb1.mono Hw0.out.size));have hw1:=hb1.size;have q0:=(hb1.block _ (by omega)).trans R0.out;have q1:=(hb1.block _ (by omega)).trans R1.out;have q2:=(hb1.block _ hz).trans R2.out;unfold ym;dsimp only;obtain⟨Z,hZ⟩:∃Z,Z=w1.alloc (Obj.cells #[.int .i64 b0,.int .i64 b1,.string b2,.int .i64 b3,.int .i64 b4,.slice qa qn qc,.int .i64 b6,.int .i64 b7,.int .i64 b8,.int .i64 b9,.int .i64 b10,.bool b11] 60):=⟨_,rfl⟩;have hbZ:Below w1.heap.size w1 Z:=by rw[hZ];exact(Below.refl _ _).alloc (Nat.le_refl _) _
 have ZN:=zb (show Z.heap[w1.heap.size]?=some (Obj.cells #[.int .i64 b0,.int .i64 b1,.string b2,.int .i64 b3,.int .i64 b4,.slice qa qn qc,.int .i64 b6,.int .i64 b7,.int .i64 b8,.int .i64 b9,.int .i64 b10,.bool b11] 60) by rw[hZ];exact heap_alloc_new _ _);have Z0:=zb ((hbZ.block _ (by omega)).trans q0);have Z1:=zb ((hbZ.block _ (by omega)).trans q1);have Z2:=zb ((hbZ.block _ (by omega)).trans q2);have HbZ:=zb (Hb1.out.trans (hbZ.mono Hb1.out.size));have HqZ:=zb (hqo.below hbZ);have HZ:=zb hZ;have hzz:w1.heap.size<Z.heap.size:=(zw ZN.out);clear hZ hqo hb1 q0 q1 q2 hbZ y0 y1 y2 y3 y4 y5 y6 y7 y8 y9 y10 y11;go_upto_region 2 with(fail);rw[<-HZ.out];have tQ:=fun j=>cell_of_row Z _ j _ _ _ Z0.out;have x0:=tQ 0;have x1:=tQ 1;have x2:=tQ 2;have x3:=tQ 3;have x4:=tQ 4;have x5:=tQ 5;have x6:=tQ 6;have x7:=tQ 7;have x8:=tQ 8;have x9:=tQ 9;have x10:=tQ 10;have x11:=tQ 11;clear tQ;have tQ:=fun j=>cell_of_row Z _ j _ _ _ Z1.out;have z0:=tQ 0;have z1:=tQ 1;have z2:=tQ 2;have z3:=tQ 3;have z4:=tQ 4;have z5:=tQ 5;have z6:=tQ 6;have z7:=tQ 7;have z8:=tQ 8;have z9:=tQ 9;have z10:=tQ 10;have z11:=tQ 11;clear tQ;go_wp2_with fail;have HP1:=zb (HPr.out ⟨⟨b0,b1,b2,b3,b4,bzs,b6,b7,b8,b9,b10,b11⟩,ya,yn,yc⟩ Z);dsimp only at HP1;refine HP1.out.mono ?_;rintro e w2 ⟨rfl,hb2⟩;have hw2:=hb2.size;have N0:=zb ((hb2.block _ (by omega)).trans Z0.out);have NN:=zb ((hb2.block _ hzz).trans ZN.out);have N2:=zb ((hb2.block _ (by omega)).trans Z2.out);have HbN:=zb (HbZ.out.trans (hb2.mono HbZ.out.size));have HqN:=zb (HqZ.out.below hb2);have hnn:w1.heap.size<w2.heap.size:=by omega
 clear hb2 x0 x1 x2 x3 x4 x5 x6 x7 x8 x9 x10 x11 z0 z1 z2 z3 z4 z5 z6 z7 z8 z9 z10 z11;cases hp:zQ ⟨a0,a1,a2,a3,a4,azs,a6,a7,a8,a9,a10,a11⟩ ⟨b0,b1,b2,b3,b4,bzs,b6,b7,b8,b9,b10,b11⟩ with
 |false=>
   have HE:=zb (HCy.out.trans (if_neg (by rw[hp];decide)));clear hp;have tQ:=fun j=>cell_of_row w2 _ j _ _ _ NN.out;have n0:=tQ 0;have n1:=tQ 1;have n2:=tQ 2;have n3:=tQ 3;have n4:=tQ 4;have n5:=tQ 5;have n6:=tQ 6;have n7:=tQ 7;have n8:=tQ 8;have n9:=tQ 9;have n10:=tQ 10;have n11:=tQ 11;clear tQ;have HbF:=zb (zk HbN.out (show w.heap.size<=w.heap.size+1+1 by omega) #[.int .i64 b0,.int .i64 b1,.string b2,.int .i64 b3,.int .i64 b4,.slice qa qn qc,.int .i64 b6,.int .i64 b7,.int .i64 b8,.int .i64 b9,.int .i64 b10,.bool b11]);go_upto_region 6 with(fail);have tQ:=fun j=>cell_setRow_same w2 (w.heap.size+1+1) j _ #[.int .i64 b0,.int .i64 b1,.string b2,.int .i64 b3,.int .i64 b4,.slice qa qn qc,.int .i64 b6,.int .i64 b7,.int .i64 b8,.int .i64 b9,.int .i64 b10,.bool b11] _ _ N2.out;have t0:=tQ 0;have t1:=tQ 1;have t2:=tQ 2;have t3:=tQ 3;have t4:=tQ 4;have t5:=tQ 5;have t6:=tQ 6;have t7:=tQ 7;have t8:=tQ 8;have t9:=tQ 9;have t10:=tQ 10;have t11:=tQ 11;clear tQ;repeat (first|refine wpList_store_row rfl _ _ _ rfl (w.heap.size+1+1) #[.int .i64 b0,.int .i64 b1,.string b2,.int .i64 b3,.int .i64 b4,.slice qa qn qc,.int .i64 b6,.int .i64 b7,.int .i64 b8,.int .i64 b9,.int .i64 b10,.bool b11] rfl rfl 60 _ N2.out (by kernel_rfl) rfl (by simp[Value.oneCell']) ?_|go_step)
   refine bodyPost_ret (v:=.agg #[.int .i64 b0,.int .i64 b1,.string b2,.int .i64 b3,.int .i64 b4,.slice qa qn qc,.int .i64 b6,.int .i64 b7,.int .i64 b8,.int .i64 b9,.int .i64 b10,.bool b11]) (by simp[results,Tryz.results101,go_sem,t0,t1,t2,t3,t4,t5,t6,t7,t8,t9,t10,t11]) rfl ?_;have hq:=zp HqN.out.row (zi HqN.out.row N2.out (by decide)) #[.int .i64 b0,.int .i64 b1,.string b2,.int .i64 b3,.int .i64 b4,.slice qa qn qc,.int .i64 b6,.int .i64 b7,.int .i64 b8,.int .i64 b9,.int .i64 b10,.bool b11];exact⟨⟨⟨b0,b1,b2,b3,b4,bzs,b6,b7,b8,b9,b10,b11⟩,qa,qn,qc⟩,rfl,HE.out.symm,⟨zr hq (by have:=Hw0.out.size;omega),HqN.out.sizes,HqN.out.p,HqN.out.len⟩,HbF.out⟩
 |true=>
   have HE:=zb (HCy.out.trans (if_pos hp));clear hp;obtain⟨m,hm⟩:∃m,m=Vl ⟨a0,a1,a2,a3,a4,azs,a6,a7,a8,a9,a10,a11⟩ r:=⟨_,rfl⟩;have HM:=zb (show max 0 (min a9 r)=m by rw[hm,HRo.out]<;>omega);rw[<-hm]at HE;have HA:=zb (show addN ⟨b0,b1,b2,b3,b4,bzs,b6,b7,b8,b9,b10,b11⟩ m=⟨b0,b1,b2,b3,b4,bzs,b6,b7,wrap64 (b8+m),wrap64 (b9+m),b10,b11⟩ from rfl);clear hm HRo;have x9:=cell_of_row w2 _ 9 _ _ _ N0.out;have tQ:=fun j=>cell_of_row w2 _ j _ _ _ NN.out;have n0:=tQ 0;have n1:=tQ 1;have n2:=tQ 2;have n3:=tQ 3;have n4:=tQ 4;have n5:=tQ 5;have n6:=tQ 6;have n7:=tQ 7;have n8:=tQ 8;have n9:=tQ 9;have n10:=tQ 10;have n11:=tQ 11;clear tQ;have f8:=frozen_of_row w2 _ 8 _ _ NN.out;go_upto_region 4 with(fail);rw[HM.out];obtain⟨U,hU⟩:∃U,U=w2.setCell ⟨w1.heap.size,8,none⟩ (.int .i64 (wrap64 (b8+m))):=⟨_,rfl⟩;have UN:=zb (show U.heap[w1.heap.size]?=some (Obj.cells #[.int .i64 b0,.int .i64 b1,.string b2,.int .i64 b3,.int .i64 b4,.slice qa qn qc,.int .i64 b6,.int .i64 b7,.int .i64 (wrap64 (b8+m)),.int .i64 b9,.int .i64 b10,.bool b11] 60) by rw[hU];exact zU _ NN.out);have U2:=zb (show U.heap[w.heap.size+1+1]?=some (Obj.cells #[.int .i64 0,.int .i64 0,.string ⟨#[]⟩,.int .i64 0,.int .i64 0,.slice none 0 0,.int .i64 0,.int .i64 0,.int .i64 0,.int .i64 0,.int .i64 0,.bool false] 60) by rw[hU];exact zF N2.out (by omega));have HbU:=zb (show Below w.heap.size w U by rw[hU];exact HbN.out.setCell (show w.heap.size<=w1.heap.size by have:=Hw0.out.size;omega) _);have HqU:=zb (show U.ownsRow W.heap.size 9 1 (.slice qa qn qc) bzs.length (bzs.flatMap zm) by rw[hU];exact zq HqN.out.row (zi HqN.out.row NN.out (by decide)));have HU:=zb hU;have hun:w1.heap.size<U.heap.size:=(zw UN.out);clear hU x9;go_upto_region 5 with(fail);rw[<-HU.out];clear n0 n1 n2 n3 n4 n5 n6 n7 n8 n9 n10 n11 f8;obtain⟨V,hV⟩:∃V,V=U.setCell ⟨w1.heap.size,9,none⟩ (.int .i64 (wrap64 (b9+m))):=⟨_,rfl⟩;have VN:=zb (show V.heap[w1.heap.size]?=some (Obj.cells #[.int .i64 b0,.int .i64 b1,.string b2,.int .i64 b3,.int .i64 b4,.slice qa qn qc,.int .i64 b6,.int .i64 b7,.int .i64 (wrap64 (b8+m)),.int .i64 (wrap64 (b9+m)),.int .i64 b10,.bool b11] 60) by rw[hV];exact zU _ UN.out);have V2:=zb (show V.heap[w.heap.size+1+1]?=some (Obj.cells #[.int .i64 0,.int .i64 0,.string ⟨#[]⟩,.int .i64 0,.int .i64 0,.slice none 0 0,.int .i64 0,.int .i64 0,.int .i64 0,.int .i64 0,.int .i64 0,.bool false] 60) by rw[hV];exact zF U2.out (by omega));have HbV:=zb (show Below w.heap.size w V by rw[hV];exact HbU.out.setCell (show w.heap.size<=w1.heap.size by have:=Hw0.out.size;omega) _);have HqV:=zb (show V.ownsRow W.heap.size 9 1 (.slice qa qn qc) bzs.length (bzs.flatMap zm) by rw[hV];exact zq HqU.out (zi HqU.out UN.out (by decide)));have HV:=zb hV;have hvn:w1.heap.size<V.heap.size:=(zw VN.out);clear hV;have u9:=cell_of_row U _ 9 _ _ _ UN.out;have g9:=frozen_of_row U _ 9 _ _ UN.out;go_upto_region 6 with(fail);rw[<-HV.out];clear u9 g9;have tQ:=fun j=>cell_of_row V _ j _ _ _ VN.out;have v0:=tQ 0;have v1:=tQ 1;have v2:=tQ 2;have v3:=tQ 3;have v4:=tQ 4;have v5:=tQ 5;have v6:=tQ 6;have v7:=tQ 7;have v8:=tQ 8;have v9:=tQ 9;have v10:=tQ 10;have v11:=tQ 11;clear tQ;have HbF:=zb (zk HbV.out (show w.heap.size<=w.heap.size+1+1 by omega) #[.int .i64 b0,.int .i64 b1,.string b2,.int .i64 b3,.int .i64 b4,.slice qa qn qc,.int .i64 b6,.int .i64 b7,.int .i64 (wrap64 (b8+m)),.int .i64 (wrap64 (b9+m)),.int .i64 b10,.bool b11]);have tQ:=fun j=>cell_setRow_same V (w.heap.size+1+1) j _ #[.int .i64 b0,.int .i64 b1,.string b2,.int .i64 b3,.int .i64 b4,.slice qa qn qc,.int .i64 b6,.int .i64 b7,.int .i64 (wrap64 (b8+m)),.int .i64 (wrap64 (b9+m)),.int .i64 b10,.bool b11] _ _ V2.out;have t0:=tQ 0;have t1:=tQ 1;have t2:=tQ 2;have t3:=tQ 3;have t4:=tQ 4;have t5:=tQ 5;have t6:=tQ 6;have t7:=tQ 7;have t8:=tQ 8;have t9:=tQ 9;have t10:=tQ 10;have t11:=tQ 11;clear tQ;repeat (first|refine wpList_store_row rfl _ _ _ rfl (w.heap.size+1+1) #[.int .i64 b0,.int .i64 b1,.string b2,.int .i64 b3,.int .i64 b4,.slice qa qn qc,.int .i64 b6,.int .i64 b7,.int .i64 (wrap64 (b8+m)),.int .i64 (wrap64 (b9+m)),.int .i64 b10,.bool b11] rfl rfl 60 _ V2.out (by kernel_rfl) rfl (by simp[Value.oneCell']) ?_|go_step)
   refine bodyPost_ret (v:=.agg #[.int .i64 b0,.int .i64 b1,.string b2,.int .i64 b3,.int .i64 b4,.slice qa qn qc,.int .i64 b6,.int .i64 b7,.int .i64 (wrap64 (b8+m)),.int .i64 (wrap64 (b9+m)),.int .i64 b10,.bool b11]) (by simp[results,Tryz.results101,go_sem,t0,t1,t2,t3,t4,t5,t6,t7,t8,t9,t10,t11]) rfl ?_;have hq:=zp HqV.out (zi HqV.out V2.out (by decide)) #[.int .i64 b0,.int .i64 b1,.string b2,.int .i64 b3,.int .i64 b4,.slice qa qn qc,.int .i64 b6,.int .i64 b7,.int .i64 (wrap64 (b8+m)),.int .i64 (wrap64 (b9+m)),.int .i64 b10,.bool b11];exact⟨⟨⟨b0,b1,b2,b3,b4,bzs,b6,b7,wrap64 (b8+m),wrap64 (b9+m),b10,b11⟩,qa,qn,qc⟩,rfl,(HE.out.trans HA.out).symm,⟨zr hq (by have:=Hw0.out.size;omega),HqN.out.sizes,HqN.out.p,HqN.out.len⟩,HbF.out⟩
end Go.Proofs.YtngippiilgdnoaaGreat
namespace Go.Proofs.YtngippiilgdnoaaGreat
theorem qH {α:Type} [DecidableEq α]:∀(T M:List α),T.Nodup->(∀x∈T,x∈M)->T.length<=M.length
 | [],_,_,_=>Nat.zero_le _
 |x::T,M,hT,hs=>by
   have h1:=List.nodup_cons.1 hT;have hx:=hs x List.mem_cons_self;have ih:=qH T (M.erase x) h1.2 fun y hy=>(List.mem_erase_of_ne (fun e=>by subst e;exact h1.1 hy)).2 (hs y (List.mem_cons_of_mem _ hy));rw[List.length_erase_of_mem hx]at ih;have:=List.length_pos_of_mem hx;rw[List.length_cons];omega
theorem Y5 {L:List (Int×Int)} (h:L.Pairwise fun c d=>c.1<d.1):(L.map (·.1)).Nodup:=
 List.pairwise_map.2 (h.imp fun h e=>by omega)
theorem Ek {a:Int} {L:List (Int×Int)} (hL:L.Pairwise fun c d=>c.1<=d.1/\(c.1=d.1->c=d)) (hc:∀c∈L,∃m,-1<=m/\m<=4799/\c=cyc a m):(dedL L).length<=4801:=by
 obtain⟨h1,h2,-⟩:=Xo L hL;have h:=qH _ ((cycL a (-1) 4799).map (·.1)) (Y5 h1) fun x hx=>by
  obtain⟨c,hcm,rfl⟩:=List.mem_map.1 hx;obtain⟨m,m1,m2,rfl⟩:=hc c ((h2 c).1 hcm);exact List.mem_map.2 ⟨_,QT.2 ⟨m,m1,m2,rfl⟩,rfl⟩
 rw[List.length_map,List.length_map,ub]at h;exact h
theorem Wt {a:Int} {A:List (Int×Int)} {t:Int} {O:List (Int×Int)} (h:vH a A t O):O.length<=4801:=by
 have h:=qH _ ((cycL a (-1) 4799).map (·.1)) (Y5 h.srt) fun x hx=>by
  obtain⟨c,hcm,rfl⟩:=List.mem_map.1 hx;obtain⟨m,m1,m2,rfl,-⟩:=(h.mem c).1 hcm;exact List.mem_map.2 ⟨_,QT.2 ⟨m,m1,m2,rfl⟩,rfl⟩
 rw[List.length_map,List.length_map,ub]at h;exact h
def VE (s:ByteArray) (S:Sb):Prop:=S.id≠0/\hasT s S=true
theorem GF {L:List ByteArray} {n s:ByteArray} (h:(vI L n).any (fun x=>ye x s)=true):L.any (fun x=>ye x s)=true\/n=s:=by
 obtain⟨x,hx,he⟩:=List.any_eq_true.1 h;unfold vI at hx;rcases List.mem_append.1 hx with hx|hx
 · rcases List.mem_append.1 hx with hx|hx
   · exact Or.inl (List.any_eq_true.2 ⟨x,List.mem_of_mem_take hx,he⟩)
   rw[List.mem_singleton]at hx;subst hx;exact Or.inr ((zH _ _).1 he)
 exact Or.inl (List.any_eq_true.2 ⟨x,List.mem_of_mem_drop hx,he⟩)
theorem G7 {s:ByteArray} {S:Sb} {e:Ev} (h0:¬VE s S) (h1:VE s (yV S e)):e.kd=8/\e.nm=s:=by
 unfold VE yV hasT at h1;unfold VE hasT at h0;split at h1;· exact absurd h1.2 (by simp)
 split at h1;· exact absurd rfl h1.1
 split at h1;· exact absurd h1 h0
 split at h1
 · rename_i hk
   refine⟨hk,?_⟩;rcases GF h1.2 with h|h;· exact absurd ⟨h1.1,h⟩ h0
   exact h
 split at h1
 · exfalso
   refine h0 ⟨h1.1,?_⟩;obtain⟨x,hx,he⟩:=List.any_eq_true.1 h1.2;unfold yw at hx;exact List.any_eq_true.2 ⟨x,(List.mem_filter.1 hx).1,he⟩
 split at h1;· exact absurd h1 h0
 split at h1;iterate 2
  · exact absurd h1 h0
theorem YZ {s:ByteArray} {n:Int}:∀(M:List Ev) (S:Sb),¬VE s S->VE s (M.foldl (fun s e=>if e.sb=n then yV s e else s) S)->∃e∈M,e.kd=8/\e.sb=n/\e.nm=s
 | [],_,h0,h1=>absurd h1 h0
 |e::M,S,h0,h1=>by
   rw[List.foldl_cons]at h1;by_cases he:e.sb=n
   · rw[if_pos he]at h1
     by_cases hh:VE s (yV S e)
     · obtain⟨k1,k2⟩:=G7 h0 hh
       exact⟨e,List.mem_cons_self,k1,he,k2⟩
     obtain⟨f,hf,q⟩:=YZ M _ hh h1;exact⟨f,List.mem_cons_of_mem _ hf,q⟩
   rw[if_neg he]at h1;obtain⟨f,hf,q⟩:=YZ M _ h0 h1;exact⟨f,List.mem_cons_of_mem _ hf,q⟩
theorem Vg (x:Int):∀l:List Ev,l.Pairwise (fun a b=>a.tm<=b.tm)->l.filter (fun e=>decide (e.tm<=x))=l.filter (fun e=>decide (e.tm<=x-1))++l.filter (fun e=>decide (e.tm=x))
 | [],_=>rfl
 |e::r,h=>by
   have hp:=List.pairwise_cons.1 h;have ih:=Vg x r hp.2;by_cases h1:e.tm<=x-1
   · rw[List.filter_cons_of_pos (by simpa using(show e.tm<=x by omega)),List.filter_cons_of_pos (by simpa using h1),List.filter_cons_of_neg (by simpa using(show ¬e.tm=x by omega)),ih]
     rfl
   have h0:r.filter (fun e=>decide (e.tm<=x-1))=[]:=List.filter_eq_nil_iff.2 fun f hf=>by
    have:=hp.1 f hf;simp only[decide_eq_true_eq];omega
   rw[h0,List.nil_append]at ih;rw[List.filter_cons_of_neg (p:=fun e:Ev=>decide (e.tm<=x-1)) (by simpa using h1),h0,List.nil_append,List.filter_cons,List.filter_cons,ih];by_cases h2:e.tm=x;· rw[if_pos (by simpa using(show e.tm<=x by omega)),if_pos (by simpa using h2)]
   rw[if_neg (by simpa using(show ¬e.tm<=x by omega)),if_neg (by simpa using h2)]
theorem GK {l:List Ev} (hr:yB l) (x:Int):∃M,yM l x=yM l (x-1)++M/\∀e∈M,e∈l/\e.tm=x:=by refine⟨l.filter (fun e=>decide (e.tm=x)),Vg x l (List.pairwise_iff_getElem.2 fun i j hi hj hij=>qA hr i j hi hj (Nat.le_of_lt hij)),fun e he=>?_⟩;exact⟨(List.mem_filter.1 he).1,of_decide_eq_true (List.mem_filter.1 he).2⟩
theorem Ja {l:List Ev} (hr:yB l) (n:Int) (s:ByteArray) {p:Int×Int} (hp:p∈actL n s l):∃e∈l,e.kd=8/\e.sb=n/\e.nm=s/\e.tm=p.1:=by
 obtain⟨q0,q1,q2⟩:=Uk hr n s p hp;have hc:=YE hr n s;have h1:=(Jb hr n s p.1).1 ⟨p,hp,Int.le_refl _,q1⟩;have h0:¬VE s (stAt n l (p.1-1)):=fun hh=>by
  have hm:=(Jb hr n s (p.1-1)).2 ⟨by omega,hh.1,hh.2⟩;obtain⟨r,hrm,r1,r2⟩:=hm;obtain⟨i,hi,rfl⟩:=List.mem_iff_getElem.1 hp;obtain⟨j,hj,rfl⟩:=List.mem_iff_getElem.1 hrm;have hpw:=List.pairwise_iff_getElem.1 (jT hc);rcases Nat.lt_trichotomy i j with h|h|h;· have:=hpw i j hi hj h;omega
  · subst h;omega
  have:=hpw j i hj hi h;omega
 obtain⟨M,hM,hMe⟩:=GK hr p.1;have hst:stAt n l p.1=M.foldl (fun s e=>if e.sb=n then yV s e else s) (stAt n l (p.1-1)):=by unfold stAt uz;rw[hM,List.foldl_append]
 obtain⟨e,he,k1,k2,k3⟩:=YZ M _ h0 (by rw[<-hst];exact⟨h1.2.1,h1.2.2⟩);exact⟨e,(hMe e he).1,k1,k2,k3,(hMe e he).2⟩
def jF (h:Had) (e:Ev):Bool:=decide (e.kd=8)&&decide (e.sb=h.1)&&ye e.nm h.2
theorem EE {l:List Ev} (hr:yB l) (h:Had):(actL h.1 h.2 l).length<=(l.filter (jF h)).length:=by
 have hc:=jT (YE hr h.1 h.2);have hn:((actL h.1 h.2 l).map (·.1)).Nodup:=by refine List.pairwise_map.2 (hc.imp_of_mem fun {p q} hp hq hpq e=>?_);have:=(Uk hr h.1 h.2 p hp).2.1;omega
 have:=qH _ ((l.filter (jF h)).map (·.tm)) hn fun x hx=>by
  obtain⟨p,hp,rfl⟩:=List.mem_map.1 hx;obtain⟨e,he,k1,k2,k3,k4⟩:=Ja hr h.1 h.2 hp;refine List.mem_map.2 ⟨e,List.mem_filter.2 ⟨he,?_⟩,k4⟩;unfold jF;rw[k1,k2,k3,jz];simp
 rwa[List.length_map,List.length_map]at this
def vu (l:List Ev) (H:List Had):List (Int×Int):=H.flatMap fun h=>actL h.1 h.2 l
theorem Uv (H:List Had) (hH:H.Pairwise jR):∀l:List Ev,(H.flatMap fun h=>l.filter (jF h)).length<=l.length
 | []=>by
   have:(H.flatMap fun h=>([]:List Ev).filter (jF h))=[]:=by simp
   rw[this];exact Nat.le_refl _
 |e::l=>by
   have ih:=Uv H hH l;have key:∀H':List Had,H'.Pairwise jR->(H'.flatMap fun h=>(e::l).filter (jF h)).length<=(H'.flatMap fun h=>l.filter (jF h)).length+(if ∃h∈H',jF h e=true then 1 else 0):=by
    intro H';induction H' with
    |nil=>intro _;simp
    |cons h H' ihH=>
      intro hp;have hp1:=List.pairwise_cons.1 hp;have ih2:=ihH hp1.2;rw[List.flatMap_cons,List.flatMap_cons,List.length_append,List.length_append,List.filter_cons];by_cases he:jF h e=true
      · have hno:¬∃h'∈H',jF h' e=true:=fun⟨h',hh',hq⟩=>by
         have hlt:=hp1.1 h' hh';unfold jF at he hq;simp only[Bool.and_eq_true,decide_eq_true_eq,zH]at he hq;have:h=h':=Prod.ext (he.1.2.symm.trans hq.1.2) (he.2.symm.trans hq.2);subst this;exact k9 _ hlt
        rw[if_neg hno]at ih2;rw[if_pos he,if_pos ⟨h,List.mem_cons_self,he⟩,List.length_cons];omega
      rw[if_neg he];by_cases hex:∃h'∈H',jF h' e=true
      · rw[if_pos hex]at ih2
        obtain⟨h',hh',hq⟩:=hex;rw[if_pos ⟨h',List.mem_cons_of_mem _ hh',hq⟩];omega
      rw[if_neg hex]at ih2;have:¬∃h'∈h::H',jF h' e=true:=fun⟨h',hh',hq⟩=>by
       rcases List.mem_cons.1 hh' with rfl|hh';· exact he hq
       exact hex ⟨h',hh',hq⟩
      rw[if_neg this];omega
   have:=key H hH;rw[List.length_cons];split at this<;>omega
theorem Kd {l:List Ev} (hr:yB l) {H:List Had} (hH:H.Pairwise jR):(vu l H).length<=l.length:=by
 refine Nat.le_trans ?_ (Uv H hH l);unfold vu;clear hH;induction H with
 |nil=>simp
 |cons h H ih=>rw[List.flatMap_cons,List.flatMap_cons,List.length_append,List.length_append];have:=EE hr h;omega
theorem uS {l:List Ev} (hr:yB l) {H:List Had}:∀p∈vu l H,0<=p.1/\p.1<p.2/\p.2<=12622780800:=fun p hp=>by
 obtain⟨h,-,hp⟩:=List.mem_flatMap.1 hp;exact Uk hr h.1 h.2 p hp
def ZC (l:List Ev) (t:Int):Prop:=l=[]\/t<69120000\/∀h:0<l.length,t-69120000<(l[0]).tm
theorem GH {a:Int} {l:List Ev} (hr:yB l) {t:Int} (hn:ZC l t) (h1:t<12622780800) {H:List Had} {p:Int×Int} (hp:p∈vu l H):(vy a t p).length<=40:=by
 unfold vy;split
 · rename_i hm
   obtain⟨w0,w1,w2⟩:=uS hr p hp;obtain⟨-,-,hlt⟩:=(vz _ _ _ _).1 hm;obtain⟨h,-,hp2⟩:=List.mem_flatMap.1 hp;obtain⟨e,he,-,-,-,k4⟩:=Ja hr h.1 h.2 hp2;have hnear:t-69120000<p.1:=by
    rcases hn with h|h|h;· subst h;cases he
    · omega
    obtain⟨i,hi,rfl⟩:=List.mem_iff_getElem.1 he;have h0:0<l.length:=by omega
    have:=h h0;have:=qA hr 0 i h0 hi (Nat.zero_le _);omega
   unfold vd;rw[ub];dsimp only;obtain⟨p1,p2,p3,p4⟩:=ja (a:=a) (t:=max p.1 0) (by omega) (by omega);obtain⟨q1,q2,q3,q4⟩:=ja (a:=a) (t:=min p.2 (t+1)-1) (by omega) (by omega);generalize moOf a (max p.1 0)=lo at *;generalize moOf a (min p.2 (t+1)-1)=hi at *;refine Classical.byContradiction fun hlen=>?_;have g1:0<=lo+1:=by omega
   have g2:lo+1<=hi:=by omega
   rw[jM (a:=a) (m:=lo+1) g1 (by omega)]at p4;rw[jM (a:=a) (m:=hi) (by omega) q2]at q3;have:=NG g1 g2;omega
 simp
theorem uu {α β:Type} (f:α->List β) (m:Nat):∀(L:List α),(∀x∈L,(f x).length<=m)->(L.flatMap f).length<=L.length*m
 | [],_=>by simp
 |x::L,h=>by
   have h1:=h x List.mem_cons_self;have h2:=uu f m L fun y hy=>h y (List.mem_cons_of_mem _ hy);rw[List.flatMap_cons,List.length_append,List.length_cons,Nat.succ_mul];omega
theorem VY {a:Int} {l:List Ev} (hr:yB l) (hl:l.length<=40) {t:Int} (hn:ZC l t) (h1:t<12622780800) {H:List Had} (hH:H.Pairwise jR):((vu l H).flatMap (vy a t)).length<=1600:=by have h2:=uu (vy a t) 40 (vu l H) fun p hp=>GH hr hn h1 hp;have h3:=Kd hr hH;have h4:=Nat.mul_le_mul_right 40 (Nat.le_trans h3 hl);omega
end Go.Proofs.YtngippiilgdnoaaGreat
