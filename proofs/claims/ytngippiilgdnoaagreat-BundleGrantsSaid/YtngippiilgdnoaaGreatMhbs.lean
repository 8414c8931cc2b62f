/-
  States in memory, and the two Advances as the laws of chapter 35 want them.
-/
import Derived.Test.YtngippiilgdnoaaGreatMhbr
import Derived.Test.YtngippiilgdnoaaGreatMhbo
set_option maxRecDepth 100000
set_option maxHeartbeats 25600000
namespace Go.Proofs.YtngippiilgdnoaaGreat
open Go.RowKit Go.Maps
theorem uo {α:Type} {sz:Nat} {R:World->Nat->Nat->α->Prop} {p:Value->Prop} (hR:∀(w w':World) b o x,(∀j,w'.cell? ⟨b,j,none⟩=w.cell? ⟨b,j,none⟩)->R w b o x->R w' b o x) (hp:∀(w:World) b o x,R w b o x->∃j u,w.cell? ⟨b,j,none⟩=some u/\p u)
 {w w':World} {v:Value} {L:List α} {S M:Nat} (h:zz sz R w v L) (hS:ks w S p) (hM:ks w M p) (hk:yP S M w w'):zz sz R w' v L:=by
 obtain⟨av,cap,rfl,h1,h2,h3⟩:=h;refine⟨av,cap,rfl,h1,h2,fun hne=>?_⟩;obtain⟨b,o,rfl,hB,hx⟩:=h3 hne;have hpos:0<L.length:=List.length_pos_iff.2 hne;obtain⟨j,u,hu,hpu⟩:=hp _ _ _ _ (hx 0 hpos);have hbS:b≠S:=by rintro rfl;exact hS j u hu hpu
 have hbM:b≠M:=by rintro rfl;exact hM j u hu hpu
 exact⟨b,o,rfl,Nat.lt_of_lt_of_le hB hk.size,fun i hi=>hR w w' b _ _ (fun j=>JM (hk.block b hB hbS hbM)) (hx i hi)⟩
structure Za (S M:Nat) (w:World):Prop where
 si:ks w S jX
 mi:ks w M jX
 ss:ks w S Wh
 ms:ks w M Wh
theorem je.noCells {S M base:Nat} {L:List Bu} {w:World} (h:je S M base L w):Za S M w:=by
 obtain⟨la,lc,X,h1,-⟩:=h.row;obtain⟨Kl,k1,-⟩:=h.has;obtain⟨es,c,hm⟩:=k1.map;have hI:∀u∈#[Value.slice la X.length lc,Value.map (some M)],¬jX u:=fun u hu=>by
  rintro⟨q,n,rfl⟩;simp at hu
 have hS:∀u∈#[Value.slice la X.length lc,Value.map (some M)],¬Wh u:=fun u hu=>by
  rintro⟨s,rfl⟩;simp at hu
 exact⟨YF h1 hI,kG hm _,YF h1 hS,kG hm _⟩
theorem V1 {S M:Nat} {w w':World} {v:Value} {L:List (Int×Int)} (h:yd w v L) (hn:Za S M w) (hk:yP S M w w'):yd w' v L:=
 uo (R:=PerR) (p:=jX) (fun _ _ _ _ _ hj h=>⟨(hj _).trans h.1,(hj _).trans h.2⟩) (fun _ _ _ _ h=>⟨_,_,h.1,_,_,rfl⟩) h hn.si hn.mi hk
theorem WV {α:Type} {c:α->List Value} {sz:Nat} (hsz:0<sz) (hc:∀x,∃u,(c x)[0]?=some u/\jX u) {S M:Nat} {w w':World} {v:Value} {L:List α} (h:zi c sz w v L) (hn:Za S M w) (hk:yP S M w w'):zi c sz w' v L:=
 uo (R:=RecR c sz) (p:=jX) (fun _ _ _ _ _ hj h j hjs=>(hj _).trans (h j hjs)) (fun _ _ _ x h=>by
  obtain⟨u,hu,hpu⟩:=hc x;exact⟨_,u,(h 0 hsz).trans hu,hpu⟩) h hn.si hn.mi hk
theorem Ep {l:List Ev} {S M:Nat} {w w':World} {x:HoX} (h:HoRd l w x) (hn:Za S M w) (hk:yP S M w w'):HoRd l w' x:=⟨V1 h.1 hn hk,h.2⟩
theorem UT {S M:Nat} {w w':World} {v:Value} {L:List ByteArray} (h:zR w v L) (hn:Za S M w) (hk:yP S M w w'):zR w' v L:=
 uo (R:=StrR) (p:=Wh) (fun _ _ _ _ _ hj h=>⟨(hj _).trans h.1,h.2⟩) (fun _ _ _ _ h=>⟨_,_,h.1,_,rfl⟩) h hn.ss hn.ms hk
theorem EQ {S M:Nat} {w w':World} {x:BuX} (h:BuRd w x) (hn:Za S M w) (hk:yP S M w w'):BuRd w' x:=⟨UT h.z hn hk,h.p,h.len⟩
theorem J5 {S M base b:Nat} {L:List Bu} {e:TypeId} {sz n:Nat} {v:Value} {xs:List Value} {w w':World} (h:w.ownsRow b e sz v n xs) (hs:je S M base L w) (he:e≠108) (hk:yP S M w w'):w'.ownsRow b e sz v n xs:=by
 obtain⟨la,lc,X,h1,-⟩:=hs.row;obtain⟨Kl,k1,-⟩:=hs.has;obtain⟨es,c,hm⟩:=k1.map;obtain⟨g1,g2⟩:=h;refine⟨g1,?_⟩;rcases g2 with g2|⟨g,cap,cur,hv,hg,hh,r⟩;· exact Or.inl g2
 refine Or.inr ⟨g,cap,cur,hv,hg,?_,r⟩;rw[hk.block g (zu hh) ?_ ?_];· exact hh
 · rintro rfl
   rw[hh]at h1;cases h1;exact he rfl
 rintro rfl;rw[hh]at hm;cases hm
structure I5 where
 a:Int
 b:Int
 c:Int
 d:Int
 e:Int
def zW (x:I5):List Value:=[.int .i64 x.a,.int .i64 x.b,.int .i64 x.c,.int .i64 x.d,.int .i64 x.e]
theorem En (x:I5):∀u∈zW x,u.oneCell'=true:=by intro u hu;unfold zW at hu;simp only[List.mem_cons,List.not_mem_nil,or_false]at hu;rcases hu with h|h|h|h|h<;>(subst h;rfl)
theorem G7 (X:List BuX) (k:Nat) (h:k<X.length):plB (X.take (k+1))=plB (X.take k)++[(X[k]).b]:=by unfold plB;rw[List.take_succ_eq_append_getElem h,List.map_append];rfl
theorem Xa (X Y:List BuX):plB (X++Y)=plB X++plB Y:=List.map_append ..
theorem Qq (L:List Bu) (c b:Bu):yF (L++[c]) b=(yF L b||yz c b):=by unfold yF;rw[List.any_append];simp
noncomputable def vI (l:List Ev) (P:List Pd) (ac t:Int) (H:List Had) (c:Int×Int):List (Bu×Int):=H.flatMap fun h=>(yr P ac h (actL h.1 h.2 l) c).filter fun g=>decide (g.1.f<=t)
noncomputable def zP (l:List Ev) (P:List Pd) (ac t:Int) (H:List Had) (O:List (Int×Int)):List (Bu×Int):=O.flatMap (vI l P ac t H)
structure AdFr (S M base B b0:Nat) (l:List Ev) (ac:Int) (cv hv:Value) (O:List (Int×Int)) (H:List HoX) (row:Array Value) (wa ca:Option Addr) (wc cc:Nat) (WL CL:List I5) (L:List Bu) (w0 w:World):Prop where
 st:je S M base L w
 cyc:yd w cv O
 hos:zi (yK ac) 4 w hv H
 hrd:∀x∈H,HoRd l w x
 box:w.heap[B]?=some (Obj.cells row 45)
 bS:B≠S
 bM:B≠M
 wal:w.ownsRow base 102 5 (.slice wa WL.length wc) WL.length (WL.flatMap zW)
 cnt:w.ownsRow base 104 5 (.slice ca CL.length cc) CL.length (CL.flatMap zW)
 bel:Below b0 w0 w
 sz:b0<=w0.heap.size
 s0:b0<=S
 m0:b0<=M
section
variable {S M base B b0:Nat} {l:List Ev} {ac:Int} {cv hv:Value} {O:List (Int×Int)} {H:List HoX} {row:Array Value} {wa ca:Option Addr} {wc cc:Nat} {WL CL:List I5} {L:List Bu} {w0 w w':World}
theorem AdFr.go (h:AdFr S M base B b0 l ac cv hv O H row wa ca wc cc WL CL L w0 w) (hb:Below w.heap.size w w'):AdFr S M base B b0 l ac cv hv O H row wa ca wc cc WL CL L w0 w':=
 ⟨h.st.keep hb,h.cyc.below hb,h.hos.below hb,fun x hx=>⟨(h.hrd x hx).1.below hb,(h.hrd x hx).2⟩,(hb.block _ (zu h.box)).trans h.box,h.bS,h.bM,zd h.wal hb,zd h.cnt hb,h.bel.trans (hb.mono (Nat.le_trans h.sz h.bel.size)),h.sz,h.s0,h.m0⟩
theorem AdFr.two {L':List Bu} (h:AdFr S M base B b0 l ac cv hv O H row wa ca wc cc WL CL L w0 w) (hs:je S M base L' w') (hk:yP S M w w'):AdFr S M base B b0 l ac cv hv O H row wa ca wc cc WL CL L' w0 w':=
 have hn:=h.st.noCells
 ⟨hs,V1 h.cyc hn hk,WV (by decide) (fun x=>⟨_,rfl,_,_,rfl⟩) h.hos hn hk,fun x hx=>Ep (h.hrd x hx) hn hk,(hk.block _ (zu h.box) h.bS h.bM).trans h.box,h.bS,h.bM,J5 h.wal h.st (by decide) hk,J5 h.cnt h.st (by decide) hk,h.bel.trans (hk.below (Nat.le_trans h.sz h.bel.size) h.s0 h.m0),h.sz,h.s0,h.m0⟩
end
end Go.Proofs.YtngippiilgdnoaaGreat
namespace Go.Proofs.YtngippiilgdnoaaGreat
open Go.RowKit
theorem QZ (x y:BuX) (w:World) (hx:BuRd w x) (hy:BuRd w y) (he:y.b=x.b):Calls Tryz.prog 28 #[vi x,vi y] w fun e w'=>e=.returned (.bool true)/\Below w.heap.size w w':=by
 obtain⟨b0,xa,xn,xv⟩:=x;obtain⟨b,ya,yn,yv⟩:=y;obtain rfl:b=b0:=he;obtain⟨a1,c1,e1,hl1,hm1,-⟩:=hx.z;dsimp only at e1 hl1;injection e1 with q1 q2 q3;subst q1;subst q2;subst q3;obtain⟨a2,c2,e2,hl2,hm2,-⟩:=hy.z;dsimp only at e2 hl2;injection e2 with q1 q2 q3;subst q1;subst q2;subst q3;obtain⟨W,hW,r0,r1,hw0,hz⟩:=vd w (Obj.cells #[.int .i64 b.ac,.int .i64 b.sb,.string b.pr,.int .i64 b.ix,.int .i64 b.kd,.slice xa b.zs.length xv,.int .i64 b.f,.int .i64 b.t,.int .i64 b.un,.int .i64 b.lf,.int .i64 b.pt,.bool b.sh] 60) (Obj.cells #[.int .i64 b.ac,.int .i64 b.sb,.string b.pr,.int .i64 b.ix,.int .i64 b.kd,.slice ya b.zs.length yv,.int .i64 b.f,.int .i64 b.t,.int .i64 b.un,.int .i64 b.lf,.int .i64 b.pt,.bool b.sh] 60);have HW:=zb hW;have R0:=zb r0;have R1:=zb r1;have Hb:=zb hw0;have HX:=zb (hx.z.below hw0);have HY:=zb (hy.z.below hw0);have Hz:=zb hz;have hm1:=hm1.1;have hm2:=hm2.1;unfold maxLen at hm1 hm2;unfold vi;clear hW r0 r1 hw0 hx hy hz;have HAw:=zb (show ∀Z,Below W.heap.size W Z->(Z.cell? ⟨w.heap.size,0,none⟩=some (.int .i64 b.ac)/\Z.cell? ⟨w.heap.size,1,none⟩=some (.int .i64 b.sb)/\Z.cell? ⟨w.heap.size,2,none⟩=some (.string b.pr)/\Z.cell? ⟨w.heap.size,3,none⟩=some (.int .i64 b.ix)/\Z.cell? ⟨w.heap.size,4,none⟩=some (.int .i64 b.kd)/\Z.cell? ⟨w.heap.size,5,none⟩=some (.slice xa b.zs.length xv)/\Z.cell? ⟨w.heap.size,6,none⟩=some (.int .i64 b.f)/\Z.cell? ⟨w.heap.size,7,none⟩=some (.int .i64 b.t)/\Z.cell? ⟨w.heap.size,8,none⟩=some (.int .i64 b.un)/\Z.cell? ⟨w.heap.size,9,none⟩=some (.int .i64 b.lf)/\Z.cell? ⟨w.heap.size,10,none⟩=some (.int .i64 b.pt)/\Z.cell? ⟨w.heap.size,11,none⟩=some (.bool b.sh))/\(Z.cell? ⟨w.heap.size+1,0,none⟩=some (.int .i64 b.ac)/\Z.cell? ⟨w.heap.size+1,1,none⟩=some (.int .i64 b.sb)/\Z.cell? ⟨w.heap.size+1,2,none⟩=some (.string b.pr)/\Z.cell? ⟨w.heap.size+1,3,none⟩=some (.int .i64 b.ix)/\Z.cell? ⟨w.heap.size+1,4,none⟩=some (.int .i64 b.kd)/\Z.cell? ⟨w.heap.size+1,5,none⟩=some (.slice ya b.zs.length yv)/\Z.cell? ⟨w.heap.size+1,6,none⟩=some (.int .i64 b.f)/\Z.cell? ⟨w.heap.size+1,7,none⟩=some (.int .i64 b.t)/\Z.cell? ⟨w.heap.size+1,8,none⟩=some (.int .i64 b.un)/\Z.cell? ⟨w.heap.size+1,9,none⟩=some (.int .i64 b.lf)/\Z.cell? ⟨w.heap.size+1,10,none⟩=some (.int .i64 b.pt)/\Z.cell? ⟨w.heap.size+1,11,none⟩=some (.bool b.sh))from fun Z hZ=>by
  have q0:=(hZ.block _ (by have:=Hz.out;omega)).trans R0.out;have q1:=(hZ.block _ Hz.out).trans R1.out;exact⟨⟨cell_of_row Z _ 0 _ _ _ q0,cell_of_row Z _ 1 _ _ _ q0,cell_of_row Z _ 2 _ _ _ q0,cell_of_row Z _ 3 _ _ _ q0,cell_of_row Z _ 4 _ _ _ q0,cell_of_row Z _ 5 _ _ _ q0,cell_of_row Z _ 6 _ _ _ q0,cell_of_row Z _ 7 _ _ _ q0,cell_of_row Z _ 8 _ _ _ q0,cell_of_row Z _ 9 _ _ _ q0,cell_of_row Z _ 10 _ _ _ q0,cell_of_row Z _ 11 _ _ _ q0⟩,⟨cell_of_row Z _ 0 _ _ _ q1,cell_of_row Z _ 1 _ _ _ q1,cell_of_row Z _ 2 _ _ _ q1,cell_of_row Z _ 3 _ _ _ q1,cell_of_row Z _ 4 _ _ _ q1,cell_of_row Z _ 5 _ _ _ q1,cell_of_row Z _ 6 _ _ _ q1,cell_of_row Z _ 7 _ _ _ q1,cell_of_row Z _ 8 _ _ _ q1,cell_of_row Z _ 9 _ _ _ q1,cell_of_row Z _ 10 _ _ _ q1,cell_of_row Z _ 11 _ _ _ q1⟩⟩);obtain⟨⟨x0,x1,x2,x3,x4,x5,x6,x7,x8,x9,x10,x11⟩,⟨y0,y1,y2,y3,y4,y5,y6,y7,y8,y9,y10,y11⟩⟩:=HAw.out W (Below.refl _ _);go_enter Tryz.func28,Tryz.ntmps28;go_upto_region 1 with(fail);rw[<-HW.out];go_wp2_with fail;go_loopw [5] (fun i wr=>∃k:Nat,k<=b.zs.length/\i=.int .i64 k/\Below W.heap.size W wr) (fun i _=>b.zs.length-(intOf i).toNat);case atStart=>exact⟨0,Nat.zero_le _,rfl,Below.refl _ _⟩
 case round=>
  obtain⟨k,hk,rfl,hb⟩:=hrel;have hk0:(0:Int)<=(k:Int):=Int.natCast_nonneg _;clear x0 x1 x2 x3 x4 x5 x6 x7 x8 x9 x10 x11 y0 y1 y2 y3 y4 y5 y6 y7 y8 y9 y10 y11;by_cases hlt:k<b.zs.length
  · have hk1:(k:Int)<(b.zs.length:Int):=by omega
    obtain⟨av2,cap2,ee,-,-,hxx⟩:=HX.out.below hb;cases ee;obtain⟨b1,o1,rfl,hB1,hxx⟩:=hxx (fun h=>by rw[h]at hlt;cases hlt);obtain⟨u0,-⟩:=hxx k hlt;obtain⟨av3,cap3,ee,-,-,hyy⟩:=HY.out.below hb;cases ee;obtain⟨b2,o2,rfl,hB2,hyy⟩:=hyy (fun h=>by rw[h]at hlt;cases hlt);obtain⟨v0,-⟩:=hyy k hlt;rw[Nat.mul_one]at u0 v0;obtain⟨⟨-,-,-,-,-,s5,-⟩,⟨-,-,-,-,-,t5,-⟩⟩:=HAw.out wr hb;have Hb2:=zb hb;have hn0:w.heap.size<wr.heap.size:=by have:=hb.size;have:=Hz.out;omega
    have hn1:w.heap.size+1<wr.heap.size:=by have:=hb.size;have:=Hz.out;omega
    have f0:=fun p:ze wr=>ze.cell (a:=⟨w.heap.size,5,none⟩) hn0 s5 p;have f1:=fun p:ze wr=>ze.cell (a:=⟨w.heap.size+1,5,none⟩) hn1 t5 p;have f2:=fun p:ze wr=>ze.cell (a:=⟨b1,o1+k,none⟩) hB1 u0 p;have f3:=fun p:ze wr=>ze.cell (a:=⟨b2,o2+k,none⟩) hB2 v0 p;clear hxx hyy hb;generalize b.zs[k]=q at *;go_upto_region 6 with(fail);refine zl (Below.refl wr.heap.size wr) (by kernel_rfl) (by kernel_rfl) ?_;repeat (go_big_quiet_step (fail))
    refine wpQuiet_nil ?_;intro wz hw';have hYa:Below wr.heap.size wr wz:=by obtain⟨pq,rfl⟩:=hw';exact pq.h
    have Hbz:=zb (Hb2.out.trans (hYa.mono Hb2.out.size));clear hw' hYa f0 f1 f2 f3 hn0 hn1 hB1 hB2;obtain⟨⟨-,-,-,-,-,s5,-⟩,⟨-,-,-,-,-,t5,-⟩⟩:=HAw.out wz Hbz.out;go_wp2;exact⟨⟨k+1,hlt,by go_num,Hbz.out⟩,by simp[intOf];omega⟩
  obtain⟨⟨s0,s1,s2,s3,s4,s5,s6,s7,s8,s9,s10,s11⟩,⟨t0,t1,t2,t3,t4,t5,t6,t7,t8,t9,t10,t11⟩⟩:=HAw.out wr hb;have Hb2:=zb (Hb.out.trans (hb.mono (show w.heap.size<=W.heap.size by have:=Hz.out;omega)));clear hb;go_wp2;go_ret;exact⟨rfl,Hb2.out⟩
theorem JZ (v1 v2:Value) (X Y:List BuX) (w:World) (hX:zi zr 12 w v1 X) (hY:zi zr 12 w v2 Y) (hx:∀x∈X,BuRd w x) (hy:∀y∈Y,BuRd w y) (he:plB Y=plB X):Calls Tryz.prog 33 #[v1,v2] w fun e w'=>e=.returned (.bool true)/\Below w.heap.size w w':=by
 have HX:=zb hX;have HY:=zb hY;have Hx:=zb hx;have Hy:=zb hy;have hlen:Y.length=X.length:=by rw[<-jp,he,jp]
 have HE:=zb (show ∀k (h1:k<X.length) (h2:k<Y.length),(Y[k]).b=(X[k]).b from fun k h1 h2=>by
  have h3:(plB Y)[k]?=(plB X)[k]?:=by rw[he]
  unfold plB at h3;rw[List.getElem?_map,List.getElem?_map,List.getElem?_eq_getElem h2,List.getElem?_eq_getElem h1]at h3;exact Option.some.inj h3);obtain⟨a1,c1,rfl,hl1,hm1,-⟩:=hX;obtain⟨a2,c2,rfl,hl2,hm2,-⟩:=hY;have hm1:=hm1.1;have hm2:=hm2.1;unfold maxLen at hm1 hm2;have Hlen:=zb hlen;rw[hlen]at hl2;rw[hlen];clear hx hy he hlen;go_enter Tryz.func33,Tryz.ntmps33;go_wp2_with fail;go_loopw [5] (fun i wr=>∃k:Nat,k<=X.length/\i=.int .i64 k/\Below w.heap.size w wr) (fun i _=>X.length-(intOf i).toNat);case atStart=>exact⟨0,Nat.zero_le _,rfl,Below.refl _ _⟩
 case round=>
  obtain⟨k,hk,rfl,hb⟩:=hrel;have hk0:(0:Int)<=(k:Int):=Int.natCast_nonneg _;by_cases hlt:k<X.length
  · have hk1:(k:Int)<(X.length:Int):=by omega
    have hlt2:k<Y.length:=by have:=Hlen.out;omega
    obtain⟨a3,c3,e3,-,-,hxx⟩:=HX.out.below hb;cases e3;obtain⟨b1,o1,rfl,hB1,hxx⟩:=hxx (fun h=>by rw[h]at hlt;cases hlt);have hxx:=hxx k hlt;obtain⟨a4,c4,e4,-,-,hyy⟩:=HY.out.below hb;injection e4 with q1 q2 q3;subst q1;subst q3;obtain⟨b2,o2,rfl,hB2,hyy⟩:=hyy (fun h=>by rw[h]at hlt2;cases hlt2);have hyy:=hyy k hlt2;obtain⟨qQ0,qQ1,qQ2,qQ3,qQ4,qQ5,qQ6,qQ7,qQ8,qQ9,qQ10,qQ11⟩:=bu12 hxx;have x0:=fun p:ze wr=>ze.cell hB1 qQ0 p;have x1:=fun p:ze wr=>ze.cell hB1 qQ1 p;have x2:=fun p:ze wr=>ze.cell hB1 qQ2 p;have x3:=fun p:ze wr=>ze.cell hB1 qQ3 p;have x4:=fun p:ze wr=>ze.cell hB1 qQ4 p;have x5:=fun p:ze wr=>ze.cell hB1 qQ5 p;have x6:=fun p:ze wr=>ze.cell hB1 qQ6 p;have x7:=fun p:ze wr=>ze.cell hB1 qQ7 p;have x8:=fun p:ze wr=>ze.cell hB1 qQ8 p;have x9:=fun p:ze wr=>ze.cell hB1 qQ9 p;have x10:=fun p:ze wr=>ze.cell hB1 qQ10 p;have x11:=fun p:ze wr=>ze.cell hB1 qQ11 p;clear qQ0 qQ1 qQ2 qQ3 qQ4 qQ5 qQ6 qQ7 qQ8 qQ9 qQ10 qQ11;obtain⟨qQ0,qQ1,qQ2,qQ3,qQ4,qQ5,qQ6,qQ7,qQ8,qQ9,qQ10,qQ11⟩:=bu12 hyy;have y0:=fun p:ze wr=>ze.cell hB2 qQ0 p;have y1:=fun p:ze wr=>ze.cell hB2 qQ1 p;have y2:=fun p:ze wr=>ze.cell hB2 qQ2 p;have y3:=fun p:ze wr=>ze.cell hB2 qQ3 p;have y4:=fun p:ze wr=>ze.cell hB2 qQ4 p;have y5:=fun p:ze wr=>ze.cell hB2 qQ5 p;have y6:=fun p:ze wr=>ze.cell hB2 qQ6 p;have y7:=fun p:ze wr=>ze.cell hB2 qQ7 p;have y8:=fun p:ze wr=>ze.cell hB2 qQ8 p;have y9:=fun p:ze wr=>ze.cell hB2 qQ9 p;have y10:=fun p:ze wr=>ze.cell hB2 qQ10 p;have y11:=fun p:ze wr=>ze.cell hB2 qQ11 p;clear qQ0 qQ1 qQ2 qQ3 qQ4 qQ5 qQ6 qQ7 qQ8 qQ9 qQ10 qQ11;have HQ:=zb (HE.out k hlt hlt2);have HRx:=zb ((Hx.out _ (List.getElem_mem hlt)).below hb);have HRy:=zb ((Hy.out _ (List.getElem_mem hlt2)).below hb);have Hb2:=zb hb;clear hxx hyy hb q2;generalize X[k]=x at *;generalize Y[k]=y at *;have HS:=zb (fun w1 (hb:Below wr.heap.size wr w1)=>QZ x y w1 (HRx.out.below hb) (HRy.out.below hb) HQ.out);unfold vi at HS;go_upto_region 6 with(fail);refine zl (Below.refl wr.heap.size wr) (by kernel_rfl) (by kernel_rfl) ?_;repeat (go_big_quiet_step (first|(go_at_call 28;refine zE (HS.out _ (by first|assumption|exact ze.h (by assumption))) (fun e w' h=>h))))
    refine wpQuiet_nil ?_;intro wz hw';have hYa:Below wr.heap.size wr wz:=by obtain⟨pq,rfl⟩:=hw';exact pq.h
    have Hbz:=zb (Hb2.out.trans (hYa.mono Hb2.out.size));clear hw' hYa x0 x1 x2 x3 x4 x5 x6 x7 x8 x9 x10 x11 y0 y1 y2 y3 y4 y5 y6 y7 y8 y9 y10 y11 hB1 hB2;go_wp2;exact⟨⟨k+1,hlt,by go_num,Hbz.out⟩,by simp[intOf];omega⟩
  have Hb2:=zb hb;clear hb;go_wp2;go_ret;exact⟨rfl,Hb2.out⟩
end Go.Proofs.YtngippiilgdnoaaGreat
namespace Go.Proofs.YtngippiilgdnoaaGreat
open Go.RowKit Go.Maps
theorem QU {w:World} {o:Oper} {a:Act} {K:Act->World->Prop} {Q:Exit->Act->World->Prop} (s x:Operand)
 (ho:o.op=.call { callee:=.builtin .append,args:=#[s,x],argTypes:=#[41,41] })
 (base:Nat) (hbase:base<=w.heap.size) (v:Value) (L:List BuX) (hs:a.eval s=v) (hown:w.ownsRow base 60 12 v L.length (L.flatMap zr)) (z:BuX) (g:Nat) (hx:a.eval x=.slice (some ⟨g,0,none⟩) 1 1) (hz:w.heap[g]?=some (Obj.cells #[.int .i64 z.b.ac,.int .i64 z.b.sb,.string z.b.pr,.int .i64 z.b.ix,.int .i64 z.b.kd,.slice z.za z.zn z.zc,.int .i64 z.b.f,.int .i64 z.b.t,.int .i64 z.b.un,.int .i64 z.b.lf,.int .i64 z.b.pt,.bool z.b.sh] 60)) (hlen:L.length<=900000)
 (h:∀v' w',w'.ownsRow base 60 12 v' (L++[z]).length ((L++[z]).flatMap zr)->w.grownBy w' v.ownBlock->K (a.put o.dst v') w'):o.wp Tryz.prog a w K Q:=by
 obtain⟨i0,hi,hz0,hz1,hz2⟩:=info_parts Tryz.buInfo;obtain⟨a2,c2,e,-,-,hx2⟩:=UD hz z rfl;cases e;refine wp_append_own w s x _ ho base 60 i0 _ 12 120 Tryz.underlying41 hi hz0 hz1 hz2 rfl (by decide) v L.length _ hs hown ⟨g,0,none⟩ 1 1 (zr z) hx rfl ?_ (EP z) (by unfold maxLen;omega) (by omega) hbase ?_
 · intro j u hj
   have hjl:j<12:=(List.getElem?_eq_some_iff.1 hj).1;obtain⟨b,o,e,-,hx3⟩:=hx2 (by simp);cases e;have q:=hx3 0 (by simp) j hjl;rw[show(⟨g,0,none⟩:Addr).add j=⟨g,0+0*12+j,none⟩ by unfold Addr.add;split<;>simp_all];exact q.trans hj
 intro v' w' h1 h2 _;refine h v' w' ?_ h2;rw[List.length_append,List.flatMap_append,List.flatMap_singleton];exact h1
def UJ (S base n:Nat) (vr:Value) (x:BuX) (R:List BuX):Nat->Value->World->Prop
 |0,v,_=>v=.pointer (some ⟨S,0,none⟩)
 |1,v,_=>v=.pointer (some ⟨S,0,none⟩)
 |2,v,_=>v=.pointer (some ⟨S,0,none⟩)
 |3,v,_=>v=.pointer (some ⟨S,0,none⟩)
 |4,v,_=>v=vr
 |5,v,_=>v=vi x
 |6,v,w=>∃z,v=vi z/\z.b=x.b/\BuO base w z
 |7,v,w=>∃z g,v=.slice (some ⟨g,0,none⟩) 1 1/\z.b=x.b/\BuO base w z/\n<=g/\w.heap[g]?=some (Obj.cells #[.int .i64 z.b.ac,.int .i64 z.b.sb,.string z.b.pr,.int .i64 z.b.ix,.int .i64 z.b.kd,.slice z.za z.zn z.zc,.int .i64 z.b.f,.int .i64 z.b.t,.int .i64 z.b.un,.int .i64 z.b.lf,.int .i64 z.b.pt,.bool z.b.sh] 60)
 |8,v,w=>∃z a c,v=.slice a (R++[z]).length c/\z.b=x.b/\BuO base w z/\w.ownsRow base 60 12 (.slice a (R++[z]).length c) (R++[z]).length ((R++[z]).flatMap zr)
 |_,_,_=>True
theorem qB {S base n:Nat} {vr:Value} {x:BuX} {R:List BuX} {w1 w2:World} (hb:Below w1.heap.size w1 w2):∀kQ yQ,UJ S base n vr x R kQ yQ w1->UJ S base n vr x R kQ yQ w2
 |0,_,h=>h
 |1,_,h=>h
 |2,_,h=>h
 |3,_,h=>h
 |4,_,h=>h
 |5,_,h=>h
 |6,_,h=>(by obtain⟨z,h1,h2,h3⟩:=h;exact⟨z,h1,h2,h3.below hb⟩)
 |7,_,h=>(by obtain⟨z,g,h1,h2,h3,h4,h5⟩:=h;exact⟨z,g,h1,h2,h3.below hb,h4,(hb.block _ (zu h5)).trans h5⟩)
 |8,_,h=>(by obtain⟨z,a,c,h1,h2,h3,h4⟩:=h;exact⟨z,a,c,h1,h2,h3.below hb,zd h4 hb⟩)
 |_+9,_,_=>trivial
theorem UI {S base n:Nat} {vr:Value} {x:BuX} {R:List BuX} {w1 w2:World} (ho:w1.ownsRow base 60 12 vr R.length (R.flatMap zr)) (hg:w1.grownBy w2 vr.ownBlock) (hn:∀g,vr.ownBlock=some g->g<n):∀k y,k≠8->UJ S base n vr x R k y w1->UJ S base n vr x R k y w2
 |0,_,_,h=>h
 |1,_,_,h=>h
 |2,_,_,h=>h
 |3,_,_,h=>h
 |4,_,_,h=>h
 |5,_,_,h=>h
 |6,_,_,⟨z,h1,h2,h3⟩=>⟨z,h1,h2,h3.growT ho (by decide) hg⟩
 |7,_,_,⟨z,g,h1,h2,h3,h4,h5⟩=>⟨z,g,h1,h2,h3.growT ho (by decide) hg,h4,(hg.block _ (zu h5) (fun e=>absurd (hn g e.symm) (by omega))).trans h5⟩
 |8,_,hk,_=>absurd rfl hk
 |_+9,_,_,_=>trivial
def avC (Y:World) (rb:Option Nat):Bool->World->Prop
 |false,w=>Below Y.heap.size Y w
 |true,w=>Y.grownBy w rb
theorem avC.grown {Y w:World} {rb:Option Nat} {b:Bool} (h:avC Y rb b w):Y.grownBy w rb:=by
 cases b with
 |true=>exact h
 |false=>have h:Below Y.heap.size Y w:=h;exact⟨h.os,h.tape,h.output,h.size,fun k hk _=>h.block k hk⟩
theorem avC.below {Y w w':World} {rb:Option Nat} {b:Bool} (h:avC Y rb b w) (hb:Below w.heap.size w w'):avC Y rb b w':=by
 cases b with
 |true=>have h:Y.grownBy w rb:=h;exact⟨hb.os.trans h.os,hb.tape.trans h.tape,hb.output.trans h.output,Nat.le_trans h.size hb.size,fun k hk hn=>(hb.block k (Nat.lt_of_lt_of_le hk h.size)).trans (h.block k hk hn)⟩
 |false=>exact Below.trans (show Below Y.heap.size Y w from h) (hb.mono (show Below Y.heap.size Y w from h).size)
theorem avC.app {Y w w':World} {rb:Option Nat} (h:avC Y rb false w) (hg:w.grownBy w' rb):avC Y rb true w':=by have h:Below Y.heap.size Y w:=h;exact⟨hg.os.trans h.os,hg.tape.trans h.tape,hg.output.trans h.output,Nat.le_trans h.size hg.size,fun k hk hn=>(hg.block k (Nat.lt_of_lt_of_le hk h.size) hn).trans (h.block k hk)⟩
def E0 (b7 base n:Nat) (wa ca:Option Addr) (wc cc:Nat) (WL CL:List I5):Nat->Value->World->Prop
 |0,v,_=>v=.pointer (some ⟨b7,1,none⟩)
 |1,v,_=>v=.slice wa WL.length wc
 |2,v,w=>∃a c,v=.slice a WL.length c/\w.ownsRow base 102 5 (.slice a WL.length c) WL.length (WL.flatMap zW)
 |3,v,_=>v=.pointer (some ⟨b7,2,none⟩)
 |4,v,_=>v=.slice ca CL.length cc
 |5,v,w=>∃a c,v=.slice a CL.length c/\w.ownsRow base 104 5 (.slice a CL.length c) CL.length (CL.flatMap zW)
 |6,v,w=>∃a c a2 c2,v=.agg #[.slice none 0 0,.slice a WL.length c,.slice a2 CL.length c2]/\w.ownsRow base 102 5 (.slice a WL.length c) WL.length (WL.flatMap zW)/\w.ownsRow base 104 5 (.slice a2 CL.length c2) CL.length (CL.flatMap zW)
 |7,v,w=>∃g cs,v=.pointer (some ⟨g,0,none⟩)/\n<=g/\w.heap[g]?=some (Obj.cells cs 45)/\cs.size=3
 |_,_,_=>True
theorem qe {b7 base n:Nat} {wa ca:Option Addr} {wc cc:Nat} {WL CL:List I5} {w1 w2:World} (hb:Below w1.heap.size w1 w2):∀kQ yQ,E0 b7 base n wa ca wc cc WL CL kQ yQ w1->E0 b7 base n wa ca wc cc WL CL kQ yQ w2
 |0,_,h=>h
 |1,_,h=>h
 |2,_,h=>(by obtain⟨a,c,h1,h2⟩:=h;exact⟨a,c,h1,zd h2 hb⟩)
 |3,_,h=>h
 |4,_,h=>h
 |5,_,h=>(by obtain⟨a,c,h1,h2⟩:=h;exact⟨a,c,h1,zd h2 hb⟩)
 |6,_,h=>(by obtain⟨a,c,a2,c2,h1,h2,h3⟩:=h;exact⟨a,c,a2,c2,h1,zd h2 hb,zd h3 hb⟩)
 |7,_,h=>(by obtain⟨g,cs,h1,h2,h3,h4⟩:=h;exact⟨g,cs,h1,h2,(hb.block _ (zu h3)).trans h3,h4⟩)
 |_+8,_,_=>trivial
theorem Tryz.walInfo:(Tryz.prog.info? 102).map (fun i=>(i.zero,i.size,i.bytes))=some (some (.agg #[.int .i64 0,.int .i64 0,.int .i64 0,.int .i64 0,.int .i64 0]),5,40):=by kernel_rfl
theorem Tryz.cntInfo:(Tryz.prog.info? 104).map (fun i=>(i.zero,i.size,i.bytes))=some (some (.agg #[.int .i64 0,.int .i64 0,.int .i64 0,.int .i64 0,.int .i64 0]),5,40):=by kernel_rfl
end Go.Proofs.YtngippiilgdnoaaGreat
namespace Go.Proofs.YtngippiilgdnoaaGreat
open Go.RowKit
noncomputable def grH (l:List Ev) (P:List Pd) (ac t:Int) (c:Int×Int) (h:Had):List (Bu×Int):=(yr P ac h (actL h.1 h.2 l) c).filter fun g=>decide (g.1.f<=t)
noncomputable def preG (l:List Ev) (P:List Pd) (ac t:Int) (H:List Had) (O:List (Int×Int)) (kc:Nat) (c:Int×Int) (kh:Nat) (B:List (Bu×Int)):List (Bu×Int):=zP l P ac t H (O.take kc)++(H.take kh).flatMap (grH l P ac t c)++B.filter fun g=>decide (g.1.f<=t)
section
variable {l:List Ev} {P:List Pd} {ac t:Int} {H:List Had} {O:List (Int×Int)}
theorem U6 (c:Int×Int) (kc:Nat):preG l P ac t H O kc c 0 []=zP l P ac t H (O.take kc):=by unfold preG;simp
theorem WY {kc kh:Nat} {c:Int×Int} (h:kh<H.length):preG l P ac t H O kc c kh (yr P ac H[kh] (actL H[kh].1 H[kh].2 l) c)=preG l P ac t H O kc c (kh+1) []:=by unfold preG;rw[List.take_succ_eq_append_getElem h,List.flatMap_append,List.flatMap_singleton];show _++_++grH l P ac t c H[kh]=_++(_++grH l P ac t c H[kh])++_;simp[List.append_assoc]
theorem U7 {kc:Nat} (h:kc<O.length):preG l P ac t H O kc O[kc] H.length []=zP l P ac t H (O.take (kc+1)):=by unfold preG zP;rw[List.take_succ_eq_append_getElem h,List.flatMap_append,List.flatMap_singleton,List.take_length];simp[vI];rfl
theorem Nx {kc kh:Nat} {c:Int×Int} {B:List (Bu×Int)} {g:Bu×Int} (h:decide (g.1.f<=t)=true):preG l P ac t H O kc c kh (B++[g])=preG l P ac t H O kc c kh B++[g]:=by unfold preG;rw[List.filter_append,List.filter_cons,if_pos h];simp[List.append_assoc]
theorem G4 {kc kh:Nat} {c:Int×Int} {B:List (Bu×Int)} {g:Bu×Int} (h:decide (g.1.f<=t)=false):preG l P ac t H O kc c kh (B++[g])=preG l P ac t H O kc c kh B:=by unfold preG;rw[List.filter_append,List.filter_cons,if_neg (by rw[h];decide)];simp
theorem G5 {kc kh:Nat} (hc:kc<O.length) (hh:kh<H.length) {B R:List (Bu×Int)} (hB:yr P ac H[kh] (actL H[kh].1 H[kh].2 l) O[kc]=B++R):∃T,zP l P ac t H O=preG l P ac t H O kc O[kc] kh B++T:=by
 refine⟨R.filter (fun g=>decide (g.1.f<=t))++(H.drop (kh+1)).flatMap (grH l P ac t O[kc])++zP l P ac t H (O.drop (kc+1)),?_⟩;have e1:O=O.take kc++O[kc]::O.drop (kc+1):=by rw[List.getElem_cons_drop,List.take_append_drop]
 have e2:H=H.take kh++H[kh]::H.drop (kh+1):=by rw[List.getElem_cons_drop,List.take_append_drop]
 have e3:vI l P ac t H O[kc]=(H.take kh).flatMap (grH l P ac t O[kc])++(grH l P ac t O[kc] H[kh]++(H.drop (kh+1)).flatMap (grH l P ac t O[kc])):=by
  show H.flatMap (grH l P ac t O[kc])=_
  conv=>lhs;rw[e2]
  rw[List.flatMap_append,List.flatMap_cons]
 have e4:grH l P ac t O[kc] H[kh]=B.filter (fun g=>decide (g.1.f<=t))++R.filter (fun g=>decide (g.1.f<=t)):=by unfold grH;rw[hB,List.filter_append]
 unfold preG;have e5:zP l P ac t H O=zP l P ac t H (O.take kc)++(vI l P ac t H O[kc]++zP l P ac t H (O.drop (kc+1))):=by
  unfold zP
  conv=>lhs;rw[e1]
  rw[List.flatMap_append,List.flatMap_cons]
 rw[e5,e3,e4];simp only[List.append_assoc]
end
theorem Xt (L:List Bu) (g:Bu×Int):(zL L g).length<=L.length+1:=by
 unfold zL;split;· omega
 unfold insB;rw[kD];omega
theorem Ex (G:List (Bu×Int)):∀L:List Bu,(yu G L).length<=L.length+G.length:=by
 induction G with
 |nil=>intro L;exact Nat.le_refl _
 |cons g G ih=>intro L;have h1:=ih (zL L g);have h2:=Xt L g;show(yu G (zL L g)).length<=_;rw[List.length_cons];omega
theorem Xp (G:List (Bu×Int)) (g:Bu×Int) (L:List Bu):yu (G++[g]) L=zL (yu G L) g:=by rw[Kk];rfl
theorem G6 (X:List (BuX×Int)) (k:Nat) (h:k<X.length):plG (X.take (k+1))=plG (X.take k)++[((X[k]).1.b,(X[k]).2)]:=by unfold plG;rw[List.take_succ_eq_append_getElem h,List.map_append];rfl
end Go.Proofs.YtngippiilgdnoaaGreat
namespace Go.Proofs.YtngippiilgdnoaaGreat
open Go.RowKit Go.Maps
def StTo (L:List Bu) (WL CL:List I5) (w:World) (e:Ending) (w':World):Prop:=∃(a:Option Addr) (c:Nat) (X:List BuX) (wa:Option Addr) (wc:Nat) (ca:Option Addr) (cc:Nat),e=.returned (.agg #[.slice a X.length c,.slice wa WL.length wc,.slice ca CL.length cc])/\w'.ownsRow w.heap.size 60 12 (.slice a X.length c) X.length (X.flatMap zr)/\plB X=L/\(∀x∈X,BuO w.heap.size w' x)/\w'.ownsRow w.heap.size 102 5 (.slice wa WL.length wc) WL.length (WL.flatMap zW)/\w'.ownsRow w.heap.size 104 5 (.slice ca CL.length cc) CL.length (CL.flatMap zW)/\Below w.heap.size w w'
def uH (l:List Ev) (ac t:Int):Prop:=0<=t/\t<12622780800/\0<yw l ac
def UQ (l:List Ev) (P:List Pd) (ac t:Int) (L:List Bu) (WL CL:List I5) (w:World) (e:Ending) (w':World):Prop:=
 (¬uH l ac t/\StTo L WL CL w e w')\/(uH l ac t/\∃H O,jI l ac H/\vP (yw l ac) (vH l H) t O/\StTo (yu (zP l P ac t H O) L) WL CL w e w')
structure AdvH (l:List Ev) (P:List Pd) (ac t:Int):Prop where
 a28:yw l ac<=28
 cin:∀H,jI l ac H->∀p∈vH l H,0<=p.1/\p.1<p.2/\p.2<=12622780800
 clen:∀H,jI l ac H->uH l ac t->((vH l H).flatMap (vc (yw l ac) t)).length<=1600
 key:∀H O,jI l ac H->vP (yw l ac) (vH l H) t O->∀g∈zP l P ac t H O,KeyB g.1
 few:∀H O,jI l ac H->vP (yw l ac) (vH l H) t O->uH l ac t->(zP l P ac t H O).length<=300000
theorem ut (l:List Ev) (P:List Pd) (ac t:Int) (ve vp:Value) (X:List BuX) (WL CL:List I5) (sa wa ca:Option Addr) (sc wc cc:Nat) (w:World)
 (he:vE w ve l) (hr:yp l) (hl:l.length<=100) (hp:qu w vp P) (hf:FewP P) (hX:zi zr 12 w (.slice sa X.length sc) X) (hrd:∀x∈X,BuRd w x) (hky:∀x∈X,KeyB x.b) (hXl:X.length<=400000)
 (hWL:zi zW 5 w (.slice wa WL.length wc) WL) (hWn:WL.length<=1000) (hCL:zi zW 5 w (.slice ca CL.length cc) CL) (hCn:CL.length<=1000) (hA:AdvH l P ac t):
 Calls Tryz.prog 22 #[ve,vp,.agg #[.slice sa X.length sc,.slice wa WL.length wc,.slice ca CL.length cc],.int .i64 ac,.int .i64 t] w (UQ l P ac t (plB X) WL CL w):=by
 have hmm:=@run_makeMap Tryz.prog;obtain⟨W1,hW1,r0,r1,hw0,hz⟩:=vd w (Obj.cells #[.slice sa X.length sc,.slice wa WL.length wc,.slice ca CL.length cc] 45) (Obj.cells #[.slice none 0 0,.slice none 0 0,.slice none 0 0] 45);have hs1:W1.heap.size=w.heap.size+2:=by rw[hW1];simp
 obtain⟨W2,hW2⟩:∃W2,W2=W1.alloc (.map #[] 0):=⟨_,rfl⟩;have hb2:Below W1.heap.size W1 W2:=by rw[hW2];exact(Below.refl _ _).alloc (Nat.le_refl _) _
 have hs2:W2.heap.size=w.heap.size+3:=by rw[hW2];simp[hs1]
 obtain⟨W,hW⟩:∃W,W=W2.alloc (Obj.cells #[.slice none 0 0,.map (some (w.heap.size+2))] 108):=⟨_,rfl⟩;have hb3:Below W2.heap.size W2 W:=by rw[hW];exact(Below.refl _ _).alloc (Nat.le_refl _) _
 have hs3:W.heap.size=w.heap.size+4:=by rw[hW];simp[hs2]
 have hbW1:Below W1.heap.size W1 W:=hb2.trans (hb3.mono (by omega));have R0:=zb ((hbW1.block _ (by omega)).trans r0);have R1:=zb ((hbW1.block _ (by omega)).trans r1);have R3:=zb (show W.heap[w.heap.size+3]?=some (Obj.cells #[.slice none 0 0,.map (some (w.heap.size+2))] 108) by rw[hW,<-hs2];exact heap_alloc_new _ _);have HM0:=zb (show OwnS 111 W (w.heap.size+2) [] by
  have h:=OwnS.made 111 W1;rw[<-hW2,hs1]at h;exact h.below hb3);have HbW:=zb (show Below w.heap.size w W from hw0.trans (hbW1.mono (by omega)));have HSt0:=zb (show je (w.heap.size+3) (w.heap.size+2) (w.heap.size+4) [] W from
  ⟨⟨none,0,[],R3.out,World.ownsRow_nil _ _ _ _,rfl,fun x hx=>by cases hx⟩,⟨[],HM0.out,fun b=>rfl,Nat.le_refl _⟩,by omega,by omega,by omega⟩);have HW:=zb (show W=(((w.alloc (Obj.cells #[.slice sa X.length sc,.slice wa WL.length wc,.slice ca CL.length cc] 45)).alloc (Obj.cells #[.slice none 0 0,.slice none 0 0,.slice none 0 0] 45)).alloc (.map #[] 0)).alloc (Obj.cells #[.slice none 0 0,.map (some (w.heap.size+2))] 108) by rw[hW,hW2,hW1]);have He:=zb he;have Hr:=zb hr;have Hl:=zb hl;have Hp:=zb hp;have Hf:=zb hf;have HX:=zb hX;have Hrd:=zb hrd;have Hky:=zb hky;have HXl:=zb hXl;have HWL:=zb hWL;have HCL:=zb hCL;have HWn:=zb hWn;have HCn:=zb hCn;have HA:=zb hA;have Hs3:=zb hs3;obtain⟨a2,c2,e2,hX1,hX2,-⟩:=hX;cases e2;have hX3:=hX2.1;unfold maxLen at hX3;clear hW1 r0 r1 hw0 hz hW2 hb2 hs2 hW hb3 hbW1 hs1 he hr hp hf hrd hky hWL hCL hA hs3 hX2 hl hWn hCn;have x0:=cell_of_row W _ 0 _ _ _ R0.out;go_enter Tryz.func22,Tryz.ntmps22;go_upto_region 2 with(fail);rw[<-HW.out];rw[show w.heap.size+1+1+1=w.heap.size+3 from rfl,show w.heap.size+1+1=w.heap.size+2 from rfl];go_wp2_with fail;go_loopw [29] (fun i wr=>∃k:Nat,k<=X.length/\i=.int .i64 k/\je (w.heap.size+3) (w.heap.size+2) (w.heap.size+4) (plB (X.take k)) wr/\Below (w.heap.size+2) W wr) (fun i _=>X.length-(intOf i).toNat);case atStart=>exact⟨0,Nat.zero_le _,rfl,HSt0.out,Below.refl _ _⟩
 case round=>
  obtain⟨wo,rfl⟩:∃wo:World,wo=wr:=⟨_,rfl⟩;obtain⟨k,hk,rfl,hst,hb⟩:=hrel;have HSt:=zb hst;have Hb:=zb hb;have hk0:(0:Int)<=(k:Int):=Int.natCast_nonneg _;have hbw:=HbW.out.trans (hb.mono (show w.heap.size<=w.heap.size+2 by omega));have Hbw:=zb hbw;by_cases hlt:k<X.length
  · have hk1:(k:Int)<(X.length:Int):=by omega
    obtain⟨a3,c3,e3,-,-,hx⟩:=HX.out.below hbw;cases e3;obtain⟨bb,o,rfl,hB,hx⟩:=hx (by rintro rfl;cases hlt);have hx:=hx k hlt;obtain⟨x0,x1,x2,x3,x4,x5,x6,x7,x8,x9,x10,x11⟩:=bu12 hx;have HRd:=zb (Hrd.out _ (List.getElem_mem hlt));have HKy:=zb (Hky.out _ (List.getElem_mem hlt));have HTk:=zb (G7 X k hlt);clear hx hst hb hbw;generalize X[k]=y at *;obtain⟨Y,hY⟩:∃Y,Y=wo.alloc (Obj.cells #[.int .i64 y.b.ac,.int .i64 y.b.sb,.string y.b.pr,.int .i64 y.b.ix,.int .i64 y.b.kd,.slice y.za y.zn y.zc,.int .i64 y.b.f,.int .i64 y.b.t,.int .i64 y.b.un,.int .i64 y.b.lf,.int .i64 y.b.pt,.bool y.b.sh] 60):=⟨_,rfl⟩;have hbY:Below wo.heap.size wo Y:=by rw[hY];exact(Below.refl _ _).alloc (Nat.le_refl _) _
    have YN:=zb (show Y.heap[wo.heap.size]?=some (Obj.cells #[.int .i64 y.b.ac,.int .i64 y.b.sb,.string y.b.pr,.int .i64 y.b.ix,.int .i64 y.b.kd,.slice y.za y.zn y.zc,.int .i64 y.b.f,.int .i64 y.b.t,.int .i64 y.b.un,.int .i64 y.b.lf,.int .i64 y.b.pt,.bool y.b.sh] 60) by rw[hY];exact heap_alloc_new _ _);have hyn:wo.heap.size<Y.heap.size:=(zu YN.out);have hbS:=(zu R3.out);have HwoS:=zb (show w.heap.size+4<=wo.heap.size by have:=Hb.out.size;omega);have HbY:=zb (Hb.out.trans (hbY.mono (by have:=HwoS.out;omega)));have HStY:=zb (HSt.out.keep hbY);have HbaseY:=zb (show w.heap.size+4<=Y.heap.size by have:=HwoS.out;omega);obtain⟨lr,lcr,R,t1,t2,s3,t4⟩:=HSt.out.row;have s1:=(hbY.block _ (zu t1)).trans t1;have s2:=zd t2 hbY;have s4:∀x∈R,BuO (w.heap.size+4) Y x:=fun x hx=>(t4 x hx).below hbY;obtain⟨Kl,k1,k2,k3⟩:=HStY.out.has;have HRl0:=HSt.out;have HRow:=zb s2;have HR1:=zb s1;have HR3:=zb s3;have HR4:=zb s4;have HK1:=zb k1;have HK2:=zb k2;have HK3:=zb k3;have HRl:=zb (show R.length<=400000 by rw[<-jp,s3,jp,List.length_take];have:=HXl.out;omega);have hrb:∀g,(Value.slice lr R.length lcr).ownBlock=some g->w.heap.size+4<=g/\g<wo.heap.size:=fun g hg=>by
     exact⟨(zg s2 g hg).1,(zg t2 g hg).2⟩
    have HAw:=zb (show ∀Z,Y.grownBy Z (Value.slice lr R.length lcr).ownBlock->Z.cell? ⟨w.heap.size+3,0,none⟩=some (.slice lr R.length lcr)/\(Z.cell? ⟨wo.heap.size,0,none⟩=some (.int .i64 y.b.ac)/\Z.cell? ⟨wo.heap.size,1,none⟩=some (.int .i64 y.b.sb)/\Z.cell? ⟨wo.heap.size,2,none⟩=some (.string y.b.pr)/\Z.cell? ⟨wo.heap.size,3,none⟩=some (.int .i64 y.b.ix)/\Z.cell? ⟨wo.heap.size,4,none⟩=some (.int .i64 y.b.kd)/\Z.cell? ⟨wo.heap.size,5,none⟩=some (.slice y.za y.zn y.zc)/\Z.cell? ⟨wo.heap.size,6,none⟩=some (.int .i64 y.b.f)/\Z.cell? ⟨wo.heap.size,7,none⟩=some (.int .i64 y.b.t)/\Z.cell? ⟨wo.heap.size,8,none⟩=some (.int .i64 y.b.un)/\Z.cell? ⟨wo.heap.size,9,none⟩=some (.int .i64 y.b.lf)/\Z.cell? ⟨wo.heap.size,10,none⟩=some (.int .i64 y.b.pt)/\Z.cell? ⟨wo.heap.size,11,none⟩=some (.bool y.b.sh))from fun Z hZ=>by
     have q1:=(hZ.block _ (zu s1) (fun e=>by have:=(hrb _ e.symm).1;omega)).trans s1;have q2:=(hZ.block _ hyn (fun e=>by have:=(hrb _ e.symm).2;omega)).trans YN.out;exact⟨cell_of_row Z _ 0 _ _ _ q1,⟨cell_of_row Z _ 0 _ _ _ q2,cell_of_row Z _ 1 _ _ _ q2,cell_of_row Z _ 2 _ _ _ q2,cell_of_row Z _ 3 _ _ _ q2,cell_of_row Z _ 4 _ _ _ q2,cell_of_row Z _ 5 _ _ _ q2,cell_of_row Z _ 6 _ _ _ q2,cell_of_row Z _ 7 _ _ _ q2,cell_of_row Z _ 8 _ _ _ q2,cell_of_row Z _ 9 _ _ _ q2,cell_of_row Z _ 10 _ _ _ q2,cell_of_row Z _ 11 _ _ _ q2⟩⟩);have HGb:=zb (fun Z (hZ:Y.grownBy Z (Value.slice lr R.length lcr).ownBlock)=>HbY.out.grown hZ (show w.heap.size+2<=Y.heap.size by have:=HbaseY.out;omega) (fun g hg=>by have:=(hrb g hg).1;omega));have HCl:=zb (fun Z (hZ:Y.grownBy Z (Value.slice lr R.length lcr).ownBlock)=>uD y Z (HRd.out.below (HbW.out.trans ((HGb.out Z hZ).mono (by omega)))));have HrbH:=zb hrb;have HY:=zb hY;clear hY hbY s1 s2 s3 s4 t1 t2 t4 k1 k2 k3 hrb HRl0 hbS;go_upto_region 5 with(fail);rw[<-HY.out];clear x0 x1 x2 x3 x4 x5 x6 x7 x8 x9 x10 x11;refine Vl 9 8 (by decide) (avC Y (Value.slice lr R.length lcr).ownBlock) (UJ (w.heap.size+3) (w.heap.size+4) Y.heap.size (.slice lr R.length lcr) y R) (by kernel_rfl) (by kernel_rfl) (show avC _ _ false _ from(Below.refl _ _).drew) ?_ ?_
    · generalize hfr:(fun v:Nat->Value=>_)=fr
      simp only[List.take_succ_cons,List.take_zero,List.map_cons,List.map_nil,zC,List.setIfInBounds_toArray,List.set_cons_succ,List.set_cons_zero,Nat.zero_add,Nat.reduceAdd]at hfr;simp only[List.take_succ_cons,List.take_zero,jm];refine⟨?_,?_,?_,?_,?_,?_,?_,?_,?_,trivial⟩;iterate 2
       · intro b v w5 hbf hC hd K hK
         rw[<-hfr]at hK⊢;go_simp;exact hK _ _ hC (fun j y _ h=>qB (Below.refl _ _) j y h) rfl
      · intro b v w5 hbf hC hd K hK
        obtain⟨(e1:v 1=_),-⟩:=hd;rw[<-hfr]at hK⊢;simp only[e1]at hK⊢;go_simp;exact hK _ _ hC (fun j y _ h=>qB (Below.refl _ _) j y h) rfl
      · intro b v w5 hbf hC hd K hK
        obtain⟨(e2:v 2=_),-⟩:=hd;rw[<-hfr]at hK⊢;simp only[e2]at hK⊢;go_simp;exact hK _ _ hC (fun j y _ h=>qB (Below.refl _ _) j y h) rfl
      · intro b v w5 hbf hC hd K hK
        obtain⟨(e3:v 3=_),-⟩:=hd;obtain⟨p0,⟨g0,g1,g2,g3,g4,g5,g6,g7,g8,g9,g10,g11⟩⟩:=HAw.out w5 hC.grown;rw[<-hfr]at hK⊢;simp only[e3]at hK⊢;go_simp;exact hK _ _ hC (fun j y _ h=>qB (Below.refl _ _) j y h) rfl
      · intro b v w5 hbf hC hd K hK
        obtain⟨p0,⟨g0,g1,g2,g3,g4,g5,g6,g7,g8,g9,g10,g11⟩⟩:=HAw.out w5 hC.grown;rw[<-hfr]at hK⊢;go_simp;exact hK _ _ hC (fun j y _ h=>qB (Below.refl _ _) j y h) rfl
      · intro b v w5 hbf hC hd K hK
        obtain⟨(e5:v 5=_),-⟩:=hd;rw[<-hfr]at hK⊢;simp only[e5]at hK⊢;go_simp;refine(HCl.out w5 hC.grown).mono ?_;rintro e w6 ⟨z,rfl,hz,hzo,hb4⟩;exact hK _ _ (hC.below hb4) (fun j y _ h=>qB hb4 j y h) ⟨z,rfl,hz,hzo.down (by have:=hC.grown.size;have:=HbaseY.out;omega)⟩
      · intro b v w5 hbf hC hd K hK
        obtain⟨f6,-⟩:=hd;obtain⟨z,e6,hz,hzo⟩:∃z,v 6=vi z/\z.b=y.b/\BuO (w.heap.size+4) w5 z:=f6;have Hz:=zb hz;clear hz;rw[<-hfr]at hK⊢;simp only[e6]at hK⊢;unfold vi at hK⊢;go_simp;exact hK _ _ (hC.below ((Below.refl _ _).alloc (Nat.le_refl _) _)) (fun j y _ h=>qB ((Below.refl _ _).alloc (Nat.le_refl _) _) j y h) ⟨z,_,rfl,Hz.out,hzo.below ((Below.refl _ _).alloc (Nat.le_refl _) _),hC.grown.size,heap_alloc_new _ _⟩
      intro b v w5 hbf hC hd K hK;obtain rfl:b=false:=by first|exact hbf rfl|exact hbf trivial|simpa using hbf
      obtain⟨(e4:v 4=_),f7,-⟩:=hd;obtain⟨z,g,e7,hz,hzo,hng,hgz⟩:∃(z:BuX) (g:Nat),v 7=.slice (some ⟨g,0,none⟩) 1 1/\z.b=y.b/\BuO (w.heap.size+4) w5 z/\Y.heap.size<=g/\w5.heap[g]?=some (Obj.cells #[.int .i64 z.b.ac,.int .i64 z.b.sb,.string z.b.pr,.int .i64 z.b.ix,.int .i64 z.b.kd,.slice z.za z.zn z.zc,.int .i64 z.b.f,.int .i64 z.b.t,.int .i64 z.b.un,.int .i64 z.b.lf,.int .i64 z.b.pt,.bool z.b.sh] 60):=f7;have hown:=zd HRow.out (show Below Y.heap.size Y w5 from hC);have hle:=(show Below Y.heap.size Y w5 from hC).size;refine QU _ _ rfl (w.heap.size+4) (by have:=HbaseY.out;omega) (.slice lr R.length lcr) R (by rw[<-hfr];exact e4) hown z g (by rw[<-hfr];exact e7) hgz (by have:=HRl.out;omega) ?_;intro v' w6 hown6 hg6;obtain⟨a6,c6,rfl,-,-⟩:=zf hown6;exact hK _ _ (hC.app hg6) (fun j y hj h=>UI hown hg6 (fun g hg=>(zg HRow.out g hg).2) j y hj h) ⟨z,a6,c6,rfl,hz,hzo.growT hown (by decide) hg6,hown6⟩
    intro v w5 hC hall;have hg:Y.grownBy w5 (Value.slice lr R.length lcr).ownBlock:=hC;have e0:v 0=.pointer (some ⟨w.heap.size+3,0,none⟩):=hall.1.1.1.1.1.1.1.1.2;obtain⟨z,a7,c7,e8,hz,hzo,hown⟩:∃(z:BuX) (a:Option Addr) (c:Nat),v 8=.slice a (R++[z]).length c/\z.b=y.b/\BuO (w.heap.size+4) w5 z/\w5.ownsRow (w.heap.size+4) 60 12 (.slice a (R++[z]).length c) (R++[z]).length ((R++[z]).flatMap zr):=hall.2;have hSY:=(zu HR1.out);have S5:=zb ((hg.block _ hSY (fun e=>by have:=(HrbH.out _ e.symm).1;omega)).trans HR1.out);have C5:=zb ((hg.block _ hyn (fun e=>by have:=(HrbH.out _ e.symm).2;omega)).trans YN.out);have hM5:=(HK1.out.keep (hg.block _ HK1.out.lt (fun e=>by have:=(HrbH.out _ e.symm).1;omega)));have HGb5:=HGb.out w5 hg;obtain⟨R',hR'⟩:∃R',R'=R++[z]:=⟨_,rfl⟩;rw[<-hR']at e8 hown;have HPl:=zb (show plB R'=plB (X.take (k+1)) by rw[hR',Xa,HR3.out,HTk.out];unfold plB;rw[List.map_singleton,hz]);have sc0:=cell_of_row w5 _ 0 _ _ _ S5.out;have sf0:=frozen_of_row w5 _ 0 _ _ S5.out;obtain⟨U,hU⟩:∃U,U=w5.setCell ⟨w.heap.size+3,0,none⟩ (.slice a7 R'.length c7):=⟨_,rfl⟩;have U0:=zb (show U.heap[w.heap.size+3]?=some (Obj.cells #[.slice a7 R'.length c7,.map (some (w.heap.size+2))] 108) by rw[hU];exact zU _ S5.out);have hCS:wo.heap.size≠w.heap.size+3:=by have:=HwoS.out;omega
    have UC:=zb (show U.heap[wo.heap.size]?=some (Obj.cells #[.int .i64 y.b.ac,.int .i64 y.b.sb,.string y.b.pr,.int .i64 y.b.ix,.int .i64 y.b.kd,.slice y.za y.zn y.zc,.int .i64 y.b.f,.int .i64 y.b.t,.int .i64 y.b.un,.int .i64 y.b.lf,.int .i64 y.b.pt,.bool y.b.sh] 60) by rw[hU];exact zF C5.out hCS);have HbU:=zb (show Below (w.heap.size+2) W U by rw[hU];exact HGb5.trans ⟨rfl,rfl,rfl,by simp,fun k hk=>Below.heap_setCell _ _ _ _ (by show k≠w.heap.size+3;omega)⟩);have HRo:=zb (show U.ownsRow (w.heap.size+4) 60 12 (.slice a7 R'.length c7) R'.length (R'.flatMap zr) by
     rw[hU];exact zp hown (zk hown S5.out (by decide)));have HRb:=zb (show ∀r∈R',BuO (w.heap.size+4) U r from fun r hr=>by
     have h1:BuO (w.heap.size+4) w5 r:=by
      rw[hR',List.mem_append]at hr;rcases hr with hr|hr;· exact(HR4.out r hr).growT HRow.out (by decide) hg
      rw[List.mem_singleton.1 hr];exact hzo
     refine⟨?_,h1.sizes,h1.p,h1.len⟩;rw[hU];exact zp h1.row (zk h1.row S5.out (by decide)));have HMU:=zb (show OwnS 111 U (w.heap.size+2) (Kl.map yo)from hM5.keep (by rw[hU];exact Below.heap_setCell _ _ _ _ (by show w.heap.size+2≠w.heap.size+3;omega)));have HU:=zb hU;have hSU:=(zu U0.out);have hCU:=(zu UC.out);have HAu:=zb (show ∀Z,Below U.heap.size U Z->Z.cell? ⟨w.heap.size+3,1,none⟩=some (.map (some (w.heap.size+2)))/\(Z.cell? ⟨wo.heap.size,0,none⟩=some (.int .i64 y.b.ac)/\Z.cell? ⟨wo.heap.size,1,none⟩=some (.int .i64 y.b.sb)/\Z.cell? ⟨wo.heap.size,2,none⟩=some (.string y.b.pr)/\Z.cell? ⟨wo.heap.size,3,none⟩=some (.int .i64 y.b.ix)/\Z.cell? ⟨wo.heap.size,4,none⟩=some (.int .i64 y.b.kd)/\Z.cell? ⟨wo.heap.size,5,none⟩=some (.slice y.za y.zn y.zc)/\Z.cell? ⟨wo.heap.size,6,none⟩=some (.int .i64 y.b.f)/\Z.cell? ⟨wo.heap.size,7,none⟩=some (.int .i64 y.b.t)/\Z.cell? ⟨wo.heap.size,8,none⟩=some (.int .i64 y.b.un)/\Z.cell? ⟨wo.heap.size,9,none⟩=some (.int .i64 y.b.lf)/\Z.cell? ⟨wo.heap.size,10,none⟩=some (.int .i64 y.b.pt)/\Z.cell? ⟨wo.heap.size,11,none⟩=some (.bool y.b.sh))from fun Z hZ=>by
     have q1:=(hZ.block _ hSU).trans U0.out;have q2:=(hZ.block _ hCU).trans UC.out;exact⟨cell_of_row Z _ 1 _ _ _ q1,cell_of_row Z _ 0 _ _ _ q2,cell_of_row Z _ 1 _ _ _ q2,cell_of_row Z _ 2 _ _ _ q2,cell_of_row Z _ 3 _ _ _ q2,cell_of_row Z _ 4 _ _ _ q2,cell_of_row Z _ 5 _ _ _ q2,cell_of_row Z _ 6 _ _ _ q2,cell_of_row Z _ 7 _ _ _ q2,cell_of_row Z _ 8 _ _ _ q2,cell_of_row Z _ 9 _ _ _ q2,cell_of_row Z _ 10 _ _ _ q2,cell_of_row Z _ 11 _ _ _ q2⟩);simp only[List.take_succ_cons,List.take_zero,List.map_cons,List.map_nil,zC,List.setIfInBounds_toArray,List.set_cons_succ,List.set_cons_zero,Nat.zero_add,Nat.reduceAdd,List.drop_succ_cons,List.drop_zero];simp only[e0,e8];generalize v 1=y1,v 2=y2,v 3=y3,v 4=y4,v 5=y5,v 6=y6,v 7=y7;clear e0 e8 hall hC hU hg hSY hM5 HGb5 hR' hz hzo hown v;go_upto_region 6 with(fail);rw[<-HU.out];clear sc0 sf0;refine yi 6 (fun w'=>Below U.heap.size U w') (QC (w.heap.size+3) (w.heap.size+2) y) (by kernel_rfl) (by kernel_rfl) (Below.refl _ _).drew ?_ ?_
    · generalize hfr:(fun v:Nat->Value=>_)=fr
      simp only[List.take_succ_cons,List.take_zero,List.map_cons,List.map_nil,zC,List.setIfInBounds_toArray,List.set_cons_succ,List.set_cons_zero,Nat.zero_add,Nat.reduceAdd]at hfr;simp only[List.take_succ_cons,List.take_zero,yR];refine⟨?_,?_,?_,?_,?_,?_,trivial⟩
      · intro v w5 hC hd K hK
        rw[<-hfr]at hK⊢;go_simp;exact hK _ _ hC (zA (Below.refl _ _)) rfl
      · intro v w5 hC hd K hK
        obtain⟨(e0:v 0=_),-⟩:=hd;rw[<-hfr]at hK⊢;simp only[e0]at hK⊢;go_simp;exact hK _ _ hC (zA (Below.refl _ _)) rfl
      · intro v w5 hC hd K hK
        obtain⟨(e1:v 1=_),-⟩:=hd;rw[<-hfr]at hK⊢;simp only[e1]at hK⊢;go_simp;exact hK _ _ hC (zA (Below.refl _ _)) rfl
      · intro v w5 hC hd K hK
        obtain⟨(e2:v 2=_),-⟩:=hd;obtain⟨p1,g0,g1,g2,g3,g4,g5,g6,g7,g8,g9,g10,g11⟩:=HAu.out w5 hC;rw[<-hfr]at hK⊢;simp only[e2]at hK⊢;go_simp;exact hK _ _ hC (zA (Below.refl _ _)) rfl
      · intro v w5 hC hd K hK
        obtain⟨p1,g0,g1,g2,g3,g4,g5,g6,g7,g8,g9,g10,g11⟩:=HAu.out w5 hC;rw[<-hfr]at hK⊢;go_simp;exact hK _ _ hC (zA (Below.refl _ _)) rfl
      intro v w5 hC hd K hK;obtain⟨(e4:v 4=_),-⟩:=hd;rw[<-hfr]at hK⊢;simp only[e4]at hK⊢;go_simp;refine(kA y w5).mono ?_;rintro e w6 ⟨rfl,hb4⟩;exact hK _ _ (hC.trans (hb4.mono hC.size)) (zA hb4) rfl
    intro v w8 hC hall;have e3:v 3=.map (some (w.heap.size+2)):=hall.1.1.2;have e5:v 5=yo y.b:=hall.2;simp only[List.take_succ_cons,List.take_zero,List.map_cons,List.map_nil,zC,List.setIfInBounds_toArray,List.set_cons_succ,List.set_cons_zero,Nat.zero_add,Nat.reduceAdd,List.drop_succ_cons,List.drop_zero];simp only[e3,e5];generalize v 0=y0,v 1=y1,v 2=y2,v 4=y4;have HM8:=zb (HMU.out.below hC);have HR8:=zb (zd HRo.out hC);have HB8:=zb (show ∀r∈R',BuO (w.heap.size+4) w8 r from fun r hr=>(HRb.out r hr).below hC);have U8:=zb ((hC.block _ hSU).trans U0.out);have Hb8:=zb (HbU.out.trans (hC.mono (show w.heap.size+2<=U.heap.size by omega)));obtain⟨lk,hlk⟩:=keyD HKy.out;have Hlk:=zb hlk;have HKln:=zb (show(Kl.map yo).length<maxLen by rw[List.length_map];have:=HK3.out;rw[jp,List.length_take]at this;have:=HXl.out;unfold maxLen;omega);clear e3 e5 hall hC v HAu hlk;refine vv lawD Tryz.underlying106 _ rfl _ _ _ rfl (w.heap.size+2) (Kl.map yo) rfl HM8.out HKln.out (yo y.b) lk rfl rfl Hlk.out ?_;intro w9 hm9 hg9;obtain⟨es,cc9,hmap⟩:=HM8.out.map;have hno:∀{v:Value} {e:TypeId} {b2 sz n:Nat} {xs:List Value},w8.ownsRow b2 e sz v n xs->v.ownBlock≠some (w.heap.size+2):=fun {v e b2 sz n xs} ho hq=>by
     rcases ho.2 with⟨rfl,-⟩|⟨g',cap',cur,rfl,-,hh,-⟩;· cases hq
     simp only[Value.ownBlock,Option.some.injEq]at hq;subst hq;rw[hmap]at hh;cases hh
    have HSt9:=zb (show je (w.heap.size+3) (w.heap.size+2) (w.heap.size+4) (plB (X.take (k+1))) w9 from
     ⟨⟨a7,c7,R',(hg9.block _ (zu U8.out) (fun e=>by have:=Option.some.inj e;omega)).trans U8.out,vw HR8.out hg9 (Or.inr (hno HR8.out)),HPl.out,fun r hr=>⟨vw (HB8.out r hr).row hg9 (Or.inr (hno (HB8.out r hr).row)),(HB8.out r hr).sizes,(HB8.out r hr).p,(HB8.out r hr).len⟩⟩,
     ⟨Kl++[y.b],by rw[List.map_append];exact hm9,fun b=>by rw[List.any_append,HK2.out,HTk.out,Qq];simp,by rw[List.length_append,List.length_singleton,HTk.out,List.length_append,List.length_singleton];have:=HK3.out;omega⟩,by omega,by omega,by omega⟩);have Hb9:=zb (Hb8.out.grown hg9 (show w.heap.size+2<=w8.heap.size by have:=(zu U8.out);omega) (fun g hg=>by have:=Option.some.inj hg;omega));clear hm9 hg9 hmap hno;go_wp2;exact⟨⟨k+1,hlt,by go_num,HSt9.out,Hb9.out⟩,by simp[intOf];omega⟩
  have hk2:¬(k:Int)<(X.length:Int):=by omega
  have HStE:=zb (show je (w.heap.size+3) (w.heap.size+2) (w.heap.size+4) (plB X) wo by rw[show X.take k=X from List.take_of_length_le (by omega)]at hst;exact hst);have HwoS:=zb (show w.heap.size+4<=wo.heap.size by have:=hb.size;have:=Hs3.out;omega);have HAb:=zb (show ∀Z,Below wo.heap.size wo Z->Z.cell? ⟨w.heap.size,1,none⟩=some (.slice wa WL.length wc)/\Z.cell? ⟨w.heap.size,2,none⟩=some (.slice ca CL.length cc)from fun Z hZ=>by
   have hlt0:=(zu R0.out);have q:=(hZ.block _ (by have:=hb.size;omega)).trans ((hb.block _ (by omega)).trans R0.out);exact⟨cell_of_row Z _ 1 _ _ _ q,cell_of_row Z _ 2 _ _ _ q⟩);have hle:=Hbw.out.size;have HWZ:=zb (fun Z (hZ:Below wo.heap.size wo Z)=>HWL.out.below (Hbw.out.trans (hZ.mono hle)));have HCZ:=zb (fun Z (hZ:Below wo.heap.size wo Z)=>HCL.out.below (Hbw.out.trans (hZ.mono hle)));clear hst hb hbw hle;go_upto_region 8 with(fail);refine yi 8 (fun w'=>Below wo.heap.size wo w') (E0 w.heap.size (w.heap.size+4) wo.heap.size wa ca wc cc WL CL) (by kernel_rfl) (by kernel_rfl) (Below.refl _ _).drew ?_ ?_
  · generalize hfr:(fun v:Nat->Value=>_)=fr
    simp only[List.take_succ_cons,List.take_zero,List.map_cons,List.map_nil,zC,List.setIfInBounds_toArray,List.set_cons_succ,List.set_cons_zero,Nat.zero_add,Nat.reduceAdd]at hfr;simp only[List.take_succ_cons,List.take_zero,yR];refine⟨?_,?_,?_,?_,?_,?_,?_,?_,trivial⟩
    · intro v w5 hC hd K hK
      rw[<-hfr]at hK⊢;go_simp;exact hK _ _ hC (qe (Below.refl _ _)) rfl
    · intro v w5 hC hd K hK
      obtain⟨(e0:v 0=_),-⟩:=hd;obtain⟨p1,p2⟩:=HAb.out w5 hC;rw[<-hfr]at hK⊢;simp only[e0]at hK⊢;go_simp;exact hK _ _ hC (qe (Below.refl _ _)) rfl
    · intro v w5 hC hd K hK
      obtain⟨(e1:v 1=_),-⟩:=hd;refine zZ (c:=zW) (sz:=5) (fun _=>rfl) En 102 42 _ 40 Tryz.underlying42 Tryz.walInfo rfl (by decide) rfl _ _ rfl (w.heap.size+4) (by have:=HwoS.out;have:=hC.size;omega) none _ WL rfl (by rw[<-hfr];exact e1) (World.ownsRow_nil _ _ _ _) (HWZ.out w5 hC) (by have:=HWn.out;unfold maxLen;omega) (by have:=HWn.out;omega) ?_;intro v' w6 h1 hb4;obtain⟨a6,c6,rfl,-,-⟩:=zf h1;exact hK _ _ (hC.trans (hb4.mono hC.size)) (qe hb4) ⟨a6,c6,rfl,h1⟩
    · intro v w5 hC hd K hK
      rw[<-hfr]at hK⊢;go_simp;exact hK _ _ hC (qe (Below.refl _ _)) rfl
    · intro v w5 hC hd K hK
      obtain⟨(e3:v 3=_),-⟩:=hd;obtain⟨p1,p2⟩:=HAb.out w5 hC;rw[<-hfr]at hK⊢;simp only[e3]at hK⊢;go_simp;exact hK _ _ hC (qe (Below.refl _ _)) rfl
    · intro v w5 hC hd K hK
      obtain⟨(e4:v 4=_),-⟩:=hd;refine zZ (c:=zW) (sz:=5) (fun _=>rfl) En 104 43 _ 40 Tryz.underlying43 Tryz.cntInfo rfl (by decide) rfl _ _ rfl (w.heap.size+4) (by have:=HwoS.out;have:=hC.size;omega) none _ CL rfl (by rw[<-hfr];exact e4) (World.ownsRow_nil _ _ _ _) (HCZ.out w5 hC) (by have:=HCn.out;unfold maxLen;omega) (by have:=HCn.out;omega) ?_;intro v' w6 h1 hb4;obtain⟨a6,c6,rfl,-,-⟩:=zf h1;exact hK _ _ (hC.trans (hb4.mono hC.size)) (qe hb4) ⟨a6,c6,rfl,h1⟩
    · intro v w5 hC hd K hK
      obtain⟨f2,f5,-⟩:=hd;obtain⟨a,c,e2,h2⟩:∃a c,v 2=.slice a WL.length c/\w5.ownsRow (w.heap.size+4) 102 5 (.slice a WL.length c) WL.length (WL.flatMap zW):=f2;obtain⟨a2,c2,e5,h5⟩:∃a c,v 5=.slice a CL.length c/\w5.ownsRow (w.heap.size+4) 104 5 (.slice a CL.length c) CL.length (CL.flatMap zW):=f5;rw[<-hfr]at hK⊢;simp only[e2,e5]at hK⊢;go_simp;exact hK _ _ hC (qe (Below.refl _ _)) ⟨a,c,a2,c2,rfl,h2,h5⟩
    intro v w5 hC hd K hK;rw[<-hfr]at hK⊢;go_simp;exact hK _ _ (hC.alloc hC.size _) (qe ((Below.refl _ _).alloc (Nat.le_refl _) _)) ⟨_,_,rfl,hC.size,heap_alloc_new _ _,rfl⟩
  intro v w5 hC hall;obtain⟨qa,qc,qa2,qc2,e6,hq,hq2⟩:∃a c a2 c2,v 6=.agg #[.slice none 0 0,.slice a WL.length c,.slice a2 CL.length c2]/\w5.ownsRow (w.heap.size+4) 102 5 (.slice a WL.length c) WL.length (WL.flatMap zW)/\w5.ownsRow (w.heap.size+4) 104 5 (.slice a2 CL.length c2) CL.length (CL.flatMap zW):=hall.1.2;obtain⟨g,cs,e7,hg,hrow,hcs⟩:∃g cs,v 7=.pointer (some ⟨g,0,none⟩)/\wo.heap.size<=g/\w5.heap[g]?=some (Obj.cells cs 45)/\cs.size=3:=hall.2;have hb9:=zj hC hg #[.slice none 0 0,.slice qa WL.length qc,.slice qa2 CL.length qc2];have hrow2:=setRow_heap w5 g cs #[.slice none 0 0,.slice qa WL.length qc,.slice qa2 CL.length qc2] _ _ hrow;have hown2:=zt hq (zk hq hrow (by decide)) #[.slice none 0 0,.slice qa WL.length qc,.slice qa2 CL.length qc2];have hown3:=zt hq2 (zk hq2 hrow (by decide)) #[.slice none 0 0,.slice qa WL.length qc,.slice qa2 CL.length qc2];simp only[List.take_succ_cons,List.take_zero,List.map_cons,List.map_nil,zC,List.setIfInBounds_toArray,List.set_cons_succ,List.set_cons_zero,Nat.zero_add,Nat.reduceAdd,List.drop_succ_cons,List.drop_zero];simp only[e6,e7];generalize v 0=y0,v 1=y1,v 2=y2,v 3=y3,v 4=y4,v 5=y5;clear e6 e7 hall;refine wpList_store_row rfl _ _ _ rfl g #[.slice none 0 0,.slice qa WL.length qc,.slice qa2 CL.length qc2] rfl rfl 45 _ hrow (by kernel_rfl) hcs (by simp[Value.oneCell']) ?_;obtain⟨Q,hQ⟩:∃Q,Q=w5.setRow g #[.slice none 0 0,.slice qa WL.length qc,.slice qa2 CL.length qc2]:=⟨_,rfl⟩;rw[<-hQ]at hrow2 hown2 hown3 hb9⊢;have HGr:=zb hrow2;have HO2:=zb hown2;have HO3:=zb hown3;have HStQ:=zb (HStE.out.keep hb9);have HbQ:=zb (Hb.out.trans (hb9.mono (show w.heap.size+2<=wo.heap.size by have:=HwoS.out;omega)));have hgn:w.heap.size+4<=g:=by have:=HwoS.out;omega
  have HwQ:=zb (HbW.out.trans (HbQ.out.mono (show w.heap.size<=w.heap.size+2 by omega)));have HAn:=zb (Yj ve l ac Q (He.out.below HwQ.out));clear hC hq hq2 hrow hcs hown2 hown3 hrow2 hQ hb9 hg HAb HWZ HCZ v;go_wp2_with fail;refine HAn.out.mono ?_;rintro e Z ⟨rfl,hbz⟩;dsimp only;have HSz:=zb (HStQ.out.keep hbz);have HGz:=zb ((hbz.block _ (zu HGr.out)).trans HGr.out);have HOz2:=zb (zd HO2.out hbz);have HOz3:=zb (zd HO3.out hbz);have HBz:=zb (HbQ.out.trans (hbz.mono (show w.heap.size+2<=Q.heap.size by have h1:=HbQ.out.size;have h2:=Hs3.out;omega)));clear hbz HStQ HGr HO2 HO3 HbQ HwQ HAn;by_cases ht0:0<=t
  · by_cases ht1:t<12622780800
    · by_cases ha:0<yw l ac
      · have HOn:=zb (show uH l ac t from⟨ht0,ht1,ha⟩)
        have HwZ:=zb (HbW.out.trans (HBz.out.mono (show w.heap.size<=w.heap.size+2 by omega)));have HHo:=zb (Vn ve l ac Z (He.out.below HwZ.out) Hr.out Hl.out);have Hha:=zb ha;have Ht0:=zb ht0;have Ht1:=zb ht1;go_wp2_with fail;refine HHo.out.mono ?_;rintro e Z1 ⟨ha1,hc1,H,rfl,hH1,hHad,hHrd,hHl,hbz1⟩;dsimp only;have HCy:=zb (Xb l ac (.slice ha1 H.length hc1) H (yw l ac) t Z1 hH1 hHrd Hha.out HA.out.a28 Ht0.out Ht1.out (HA.out.cin _ hHad) (HA.out.clen _ hHad HOn.out));have HHad:=zb hHad;have HH1:=zb hH1;have HHrd:=zb hHrd;have Hbz1:=zb hbz1;clear hHad hH1 hHrd hbz1 HHo;go_wp2_with fail;refine HCy.out.mono ?_;rintro e Z2 ⟨O,hO,v2,rfl,hPO,hbz2⟩;obtain⟨ao,co,rfl,hao,hco,-⟩:=id hPO;have hco2:=hco.1;unfold maxLen at hco2;clear hco;dsimp only;have HO:=zb hO;have HFr:=zb (show AdFr (w.heap.size+3) (w.heap.size+2) (w.heap.size+4) g (w.heap.size+2) l ac (.slice ao O.length co) (.slice ha1 H.length hc1) O H #[.slice none 0 0,.slice qa WL.length qc,.slice qa2 CL.length qc2] qa qa2 qc qc2 WL CL (plB X) W Z2 from
         have hb12:=Hbz1.out.trans (hbz2.mono Hbz1.out.size)
         ⟨HSz.out.keep hb12,hPO,HH1.out.below hbz2,fun x hx=>⟨(HHrd.out x hx).1.below hbz2,(HHrd.out x hx).2⟩,(hb12.block _ (zu HGz.out)).trans HGz.out,by omega,by omega,zd HOz2.out hb12,zd HOz3.out hb12,HBz.out.trans (hb12.mono (by have:=HBz.out.size;have:=Hs3.out;omega)),by have:=Hs3.out;omega,by omega,by omega⟩);obtain⟨h2a,h2c,e2,hH2,hH3,-⟩:=HH1.out;cases e2;have hH4:=hH3.1;unfold maxLen at hH4;clear hO hPO hbz2 HCy HSz HGz HOz2 HOz3 hH3;go_wp2_with fail;go_loopw [79] (fun i wr=>∃kc:Nat,kc<=O.length/\i=.int .i64 kc/\AdFr (w.heap.size+3) (w.heap.size+2) (w.heap.size+4) g (w.heap.size+2) l ac (.slice ao O.length co) (.slice ha1 H.length hc1) O H #[.slice none 0 0,.slice qa WL.length qc,.slice qa2 CL.length qc2] qa qa2 qc qc2 WL CL (yu (zP l P ac t (H.map (·.h)) (O.take kc)) (plB X)) W wr) (fun i _=>O.length-(intOf i).toNat);case atStart=>exact⟨0,Nat.zero_le _,rfl,HFr.out⟩
        case round=>
         obtain⟨wo1,rfl⟩:∃wo1:World,wo1=wr:=⟨_,rfl⟩;obtain⟨kc,hkc,rfl,hfr⟩:=hrel;have HFo:=zb hfr;have hkc0:(0:Int)<=(kc:Int):=Int.natCast_nonneg _;by_cases hlc:kc<O.length
         · have hkc1:(kc:Int)<(O.length:Int):=by omega
           obtain⟨a3,c3,e3,-,-,hx⟩:=hfr.cyc;cases e3;obtain⟨bb,o,rfl,hB,hx⟩:=hx (by rintro rfl;cases hlc);have x0:=(hx kc hlc).1;have x1:=(hx kc hlc).2;have HCe:=zb (U7 (l:=l) (P:=P) (ac:=ac) (t:=t) (H:=(H.map (·.h))) hlc);have HCut:=zb (fun(kh:Nat) (hh:kh<(H.map (·.h)).length) (B R:List (Bu×Int)) hB=>G5 (l:=l) (P:=P) (ac:=ac) (t:=t) hlc hh (B:=B) (R:=R) hB);clear hx hfr;generalize O[kc]=cy at *;obtain⟨Y,hY⟩:∃Y,Y=wo1.alloc (Obj.cells #[.int .i64 cy.1,.int .i64 cy.2] 25):=⟨_,rfl⟩;have hbY:Below wo1.heap.size wo1 Y:=by rw[hY];exact(Below.refl _ _).alloc (Nat.le_refl _) _
           have YN:=zb (show Y.heap[wo1.heap.size]?=some (Obj.cells #[.int .i64 cy.1,.int .i64 cy.2] 25) by rw[hY];exact heap_alloc_new _ _);have HFY:=zb (HFo.out.go hbY);have HY:=zb hY;have Hn1:=zb (show wo1.heap.size≠w.heap.size+3/\wo1.heap.size≠w.heap.size+2 by have:=HFo.out.bel.size;have:=Hs3.out;omega);clear hY hbY;go_upto_region 15 with(fail);rw[<-HY.out];clear x0 x1;go_wp2_with fail;go_loopw [85] (fun i wr=>∃kh:Nat,kh<=H.length/\i=.int .i64 kh/\AdFr (w.heap.size+3) (w.heap.size+2) (w.heap.size+4) g (w.heap.size+2) l ac (.slice (some ⟨bb,o,none⟩) O.length co) (.slice ha1 H.length hc1) O H #[.slice none 0 0,.slice qa WL.length qc,.slice qa2 CL.length qc2] qa qa2 qc qc2 WL CL (yu (preG l P ac t (H.map (·.h)) O kc cy kh []) (plB X)) W wr/\wr.heap[wo1.heap.size]?=some (Obj.cells #[.int .i64 cy.1,.int .i64 cy.2] 25)) (fun i _=>H.length-(intOf i).toNat);case atStart=>exact⟨0,Nat.zero_le _,rfl,by rw[U6];exact HFY.out,YN.out⟩
           case round=>
            obtain⟨wo2,rfl⟩:∃wo2:World,wo2=wr:=⟨_,rfl⟩;obtain⟨kh,hkh,rfl,hfr,hn1⟩:=hrel;have HF2:=zb hfr;have HN1:=zb hn1;have hkh0:(0:Int)<=(kh:Int):=Int.natCast_nonneg _;by_cases hlh:kh<H.length
            · have hkh1:(kh:Int)<(H.length:Int):=by omega
              obtain⟨a3,c3,e3,-,-,hx⟩:=hfr.hos;cases e3;obtain⟨b2,o2,rfl,hB2,hx⟩:=hx (by rintro rfl;cases hlh);have hx:=hx kh hlh;have x0:wo2.cell? ⟨b2,o2+kh*4,none⟩=some (.int .i64 ac):=hx 0 (by decide);have x1:wo2.cell? ⟨b2,o2+kh*4+1,none⟩=some (.int .i64 (H[kh]).h.1):=hx 1 (by decide);have x2:wo2.cell? ⟨b2,o2+kh*4+2,none⟩=some (.string (H[kh]).h.2):=hx 2 (by decide);have x3:wo2.cell? ⟨b2,o2+kh*4+3,none⟩=some (.slice (H[kh]).pa (H[kh]).pn (H[kh]).pc):=hx 3 (by decide);have HRdh:=zb (hfr.hrd _ (List.getElem_mem hlh));have HHold:=zb (show preG l P ac t (H.map (·.h)) O kc cy kh (yr P ac (H[kh]).h (actL (H[kh]).h.1 (H[kh]).h.2 l) cy)=preG l P ac t (H.map (·.h)) O kc cy (kh+1) [] from by
               have h:=WY (l:=l) (P:=P) (ac:=ac) (t:=t) (H:=(H.map (·.h))) (O:=O) (kc:=kc) (c:=cy) (kh:=kh) (by rw[List.length_map];exact hlh);rw[List.getElem_map]at h;exact h);have HCutH:=zb (fun(B R:List (Bu×Int)) (hB:yr P ac (H[kh]).h (actL (H[kh]).h.1 (H[kh]).h.2 l) cy=B++R)=>HCut.out kh (by rw[List.length_map];exact hlh) B R (by rw[List.getElem_map];exact hB));clear hx hfr hn1;generalize H[kh]=hd at *;obtain⟨Y2,hY2⟩:∃Y2,Y2=wo2.alloc (Obj.cells #[.int .i64 ac,.int .i64 hd.h.1,.string hd.h.2,.slice hd.pa hd.pn hd.pc] 118):=⟨_,rfl⟩;have hbY2:Below wo2.heap.size wo2 Y2:=by rw[hY2];exact(Below.refl _ _).alloc (Nat.le_refl _) _
              have Y2N:=zb (show Y2.heap[wo2.heap.size]?=some (Obj.cells #[.int .i64 ac,.int .i64 hd.h.1,.string hd.h.2,.slice hd.pa hd.pn hd.pc] 118) by rw[hY2];exact heap_alloc_new _ _);have HFY2:=zb (HF2.out.go hbY2);have N1Y:=zb ((hbY2.block _ (zu HN1.out)).trans HN1.out);have HGr:=zb (Va ac hd.h.1 hd.h.2 hd.pa hd.pn hd.pc vp P (actL hd.h.1 hd.h.2 l) cy Y2 (HRdh.out.1.below hbY2) (Hp.out.below (HbW.out.trans (HFY2.out.bel.mono (by omega)))) Hf.out HRdh.out.2);have HY2:=zb hY2;clear hY2 hbY2;go_upto_region 18 with(fail);rw[<-HY2.out];clear x0 x1 x2 x3;have tQ:=fun j=>cell_of_row Y2 _ j _ _ _ Y2N.out;have s0:=tQ 0;have s1:=tQ 1;have s2:=tQ 2;have s3:=tQ 3;clear tQ;have p0:=cell_of_row Y2 _ 0 _ _ _ N1Y.out;have p1:=cell_of_row Y2 _ 1 _ _ _ N1Y.out;go_wp2_with fail;refine HGr.out.mono ?_;rintro e Z3 ⟨ag,cg,XG,rfl,hown,hpl,hrdg,hb3⟩;dsimp only;have HF3:=zb (HFY2.out.go hb3);have N13:=zb ((hb3.block _ (zu N1Y.out)).trans N1Y.out);have HOw:=zb hown;have HPl:=zb hpl;have HRg:=zb hrdg;obtain⟨ag2,cg2,e4,hXG1,hXG2⟩:=zf hown;cases e4;unfold maxLen at hXG2;clear hown hpl hrdg hb3 HGr s0 s1 s2 s3 p0 p1;go_wp2_with fail;go_loopw [94] (fun i wr=>∃kg:Nat,kg<=XG.length/\i=.int .i64 kg/\AdFr (w.heap.size+3) (w.heap.size+2) (w.heap.size+4) g (w.heap.size+2) l ac (.slice (some ⟨bb,o,none⟩) O.length co) (.slice (some ⟨b2,o2,none⟩) H.length hc1) O H #[.slice none 0 0,.slice qa WL.length qc,.slice qa2 CL.length qc2] qa qa2 qc qc2 WL CL (yu (preG l P ac t (H.map (·.h)) O kc cy kh (plG (XG.take kg))) (plB X)) W wr/\wr.heap[wo1.heap.size]?=some (Obj.cells #[.int .i64 cy.1,.int .i64 cy.2] 25)/\wr.ownsRow Y2.heap.size 122 13 (.slice ag XG.length cg) XG.length (XG.flatMap qK)/\∀x∈XG,BuRd wr x.1) (fun i _=>XG.length-(intOf i).toNat);case atStart=>exact⟨0,Nat.zero_le _,rfl,HF3.out,N13.out,HOw.out,HRg.out⟩
              case round=>
               obtain⟨wo3,rfl⟩:∃wo3:World,wo3=wr:=⟨_,rfl⟩;obtain⟨kg,hkg,rfl,hfr,hn1,hown,hrdg⟩:=hrel;have HF4:=zb hfr;have HN4:=zb hn1;have HO4:=zb hown;have HR4:=zb hrdg;have hkg0:(0:Int)<=(kg:Int):=Int.natCast_nonneg _;by_cases hlg:kg<XG.length
               · have hkg1:(kg:Int)<(XG.length:Int):=by omega
                 obtain⟨a3,c3,e3,-,-,hx⟩:=(zi.own (c:=qK) (sz:=13) (fun _=>rfl) hown:zi qK 13 wo3 _ XG);cases e3;obtain⟨b3,o3,rfl,hB3,hx⟩:=hx (by rintro rfl;cases hlg);have hx:=hx kg hlg;have x0:wo3.cell? ⟨b3,o3+kg*13,none⟩=some (.int .i64 (XG[kg]).1.b.ac):=hx 0 (by decide);have x1:wo3.cell? ⟨b3,o3+kg*13+1,none⟩=some (.int .i64 (XG[kg]).1.b.sb):=hx 1 (by decide);have x2:wo3.cell? ⟨b3,o3+kg*13+2,none⟩=some (.string (XG[kg]).1.b.pr):=hx 2 (by decide);have x3:wo3.cell? ⟨b3,o3+kg*13+3,none⟩=some (.int .i64 (XG[kg]).1.b.ix):=hx 3 (by decide);have x4:wo3.cell? ⟨b3,o3+kg*13+4,none⟩=some (.int .i64 (XG[kg]).1.b.kd):=hx 4 (by decide);have x5:wo3.cell? ⟨b3,o3+kg*13+5,none⟩=some (.slice (XG[kg]).1.za (XG[kg]).1.zn (XG[kg]).1.zc):=hx 5 (by decide);have x6:wo3.cell? ⟨b3,o3+kg*13+6,none⟩=some (.int .i64 (XG[kg]).1.b.f):=hx 6 (by decide);have x7:wo3.cell? ⟨b3,o3+kg*13+7,none⟩=some (.int .i64 (XG[kg]).1.b.t):=hx 7 (by decide);have x8:wo3.cell? ⟨b3,o3+kg*13+8,none⟩=some (.int .i64 (XG[kg]).1.b.un):=hx 8 (by decide);have x9:wo3.cell? ⟨b3,o3+kg*13+9,none⟩=some (.int .i64 (XG[kg]).1.b.lf):=hx 9 (by decide);have x10:wo3.cell? ⟨b3,o3+kg*13+10,none⟩=some (.int .i64 (XG[kg]).1.b.pt):=hx 10 (by decide);have x11:wo3.cell? ⟨b3,o3+kg*13+11,none⟩=some (.bool (XG[kg]).1.b.sh):=hx 11 (by decide);have x12:wo3.cell? ⟨b3,o3+kg*13+12,none⟩=some (.int .i64 (XG[kg]).2):=hx 12 (by decide);have HTk:=zb (G6 XG kg hlg);have HRx:=zb (hrdg _ (List.getElem_mem hlg));have HCt:=zb (HCutH.out (plG (XG.take (kg+1))) (plG (XG.drop (kg+1))) (by rw[<-HPl.out];(conv=>lhs;rw[<-List.take_append_drop (kg+1) XG]);unfold plG;rw[List.map_append]));clear hx hfr hn1 hown hrdg;generalize XG[kg]=q at *;obtain⟨y,rr⟩:=q;dsimp only at *;obtain⟨Y3,hY3⟩:∃Y3,Y3=wo3.alloc (Obj.cells #[.int .i64 y.b.ac,.int .i64 y.b.sb,.string y.b.pr,.int .i64 y.b.ix,.int .i64 y.b.kd,.slice y.za y.zn y.zc,.int .i64 y.b.f,.int .i64 y.b.t,.int .i64 y.b.un,.int .i64 y.b.lf,.int .i64 y.b.pt,.bool y.b.sh,.int .i64 rr] 122):=⟨_,rfl⟩;have hbY3:Below wo3.heap.size wo3 Y3:=by rw[hY3];exact(Below.refl _ _).alloc (Nat.le_refl _) _
                 have Y3N:=zb (show Y3.heap[wo3.heap.size]?=some (Obj.cells #[.int .i64 y.b.ac,.int .i64 y.b.sb,.string y.b.pr,.int .i64 y.b.ix,.int .i64 y.b.kd,.slice y.za y.zn y.zc,.int .i64 y.b.f,.int .i64 y.b.t,.int .i64 y.b.un,.int .i64 y.b.lf,.int .i64 y.b.pt,.bool y.b.sh,.int .i64 rr] 122) by rw[hY3];exact heap_alloc_new _ _);have HFY3:=zb (HF4.out.go hbY3);have N14:=zb ((hbY3.block _ (zu HN4.out)).trans HN4.out);have HO5:=zb (zd HO4.out hbY3);have HR5:=zb (show ∀x∈XG,BuRd Y3 x.1 from fun x hx=>(HR4.out x hx).below hbY3);have HRx3:=zb (HRx.out.below hbY3);have HY3:=zb hY3;clear hY3 hbY3;go_upto_region 21 with(fail);rw[<-HY3.out];clear x0 x1 x2 x3 x4 x5 x6 x7 x8 x9 x10 x11 x12;have tQ:=fun j=>cell_of_row Y3 _ j _ _ _ Y3N.out;have y0:=tQ 0;have y1:=tQ 1;have y2:=tQ 2;have y3:=tQ 3;have y4:=tQ 4;have y5:=tQ 5;have y6:=tQ 6;have y7:=tQ 7;have y8:=tQ 8;have y9:=tQ 9;have y10:=tQ 10;have y11:=tQ 11;have y12:=tQ 12;clear tQ;by_cases hf:y.b.f<=t
                 · have HIn:=zb (show preG l P ac t (H.map (·.h)) O kc cy kh (plG (XG.take (kg+1)))=preG l P ac t (H.map (·.h)) O kc cy kh (plG (XG.take kg))++[(y.b,rr)] by rw[HTk.out];exact Nx (decide_eq_true hf))
                   have HKy:=zb (show KeyB y.b from by
                    obtain⟨T,hT⟩:=HCt.out;exact HA.out.key _ O HHad.out HO.out (y.b,rr) (by rw[hT,HIn.out];simp));have HLn:=zb (show(yu (preG l P ac t (H.map (·.h)) O kc cy kh (plG (XG.take kg))) (plB X)).length<=900000 from by
                    obtain⟨T,hT⟩:=HCt.out;have h1:=HA.out.few _ O HHad.out HO.out HOn.out;rw[hT,HIn.out]at h1;simp only[List.length_append]at h1;have h2:=Ex (preG l P ac t (H.map (·.h)) O kc cy kh (plG (XG.take kg))) (plB X);rw[jp]at h2;have h3:=HXl.out
                    omega);have HAdd:=zb (UX (w.heap.size+3) (w.heap.size+2) (w.heap.size+4) _ y rr Y3 HFY3.out.st (by have:=HFY3.out.bel.size;have:=Hs3.out;omega) HRx3.out HKy.out HLn.out);go_wp2_with fail;refine HAdd.out.mono ?_;clear hf;rintro e Z4 ⟨rfl,hst4,hk4⟩;dsimp only;have hnc:=HFY3.out.st.noCells;have HF6:=zb (HFY3.out.two hst4 hk4);have N16:=zb ((hk4.block _ (zu N14.out) Hn1.out.1 Hn1.out.2).trans N14.out);have HO6:=zb (J5 HO5.out HFY3.out.st (by decide) hk4);have HR6:=zb (show ∀x∈XG,BuRd Z4 x.1 from fun x hx=>EQ (HR5.out x hx) hnc hk4);clear hst4 hk4 hnc y0 y1 y2 y3 y4 y5 y6 y7 y8 y9 y10 y11 y12;go_wp2;exact⟨⟨kg+1,hlg,by go_num,by rw[HIn.out,Xp];exact HF6.out,N16.out,HO6.out,HR6.out⟩,by simp[intOf];omega⟩
                 have HIn:=zb (show preG l P ac t (H.map (·.h)) O kc cy kh (plG (XG.take (kg+1)))=preG l P ac t (H.map (·.h)) O kc cy kh (plG (XG.take kg)) by rw[HTk.out];exact G4 (decide_eq_false hf));go_wp2;exact⟨⟨kg+1,hlg,by go_num,by rw[HIn.out];exact HFY3.out,N14.out,HO5.out,HR5.out⟩,by simp[intOf];omega⟩
               have HEg:=zb (show AdFr (w.heap.size+3) (w.heap.size+2) (w.heap.size+4) g (w.heap.size+2) l ac (.slice (some ⟨bb,o,none⟩) O.length co) (.slice (some ⟨b2,o2,none⟩) H.length hc1) O H #[.slice none 0 0,.slice qa WL.length qc,.slice qa2 CL.length qc2] qa qa2 qc qc2 WL CL (yu (preG l P ac t (H.map (·.h)) O kc cy (kh+1) []) (plB X)) W wo3 by
                rw[List.take_of_length_le (show XG.length<=kg by omega),HPl.out,HHold.out]at hfr;exact hfr);clear hfr hown hrdg hn1 HF4;go_wp2;exact⟨⟨kh+1,hlh,by go_num,HEg.out,HN4.out⟩,by simp[intOf];omega⟩
            have HEh:=zb (show AdFr (w.heap.size+3) (w.heap.size+2) (w.heap.size+4) g (w.heap.size+2) l ac (.slice (some ⟨bb,o,none⟩) O.length co) (.slice ha1 H.length hc1) O H #[.slice none 0 0,.slice qa WL.length qc,.slice qa2 CL.length qc2] qa qa2 qc qc2 WL CL (yu (zP l P ac t (H.map (·.h)) (O.take (kc+1))) (plB X)) W wo2 by
             rw[show kh=((H.map (·.h))).length by rw[List.length_map];omega,HCe.out]at hfr;exact hfr);clear hfr hn1 HF2;go_wp2;exact⟨⟨kc+1,hlc,by go_num,HEh.out⟩,by simp[intOf];omega⟩
         have HEnd:=zb (show AdFr (w.heap.size+3) (w.heap.size+2) (w.heap.size+4) g (w.heap.size+2) l ac (.slice ao O.length co) (.slice ha1 H.length hc1) O H #[.slice none 0 0,.slice qa WL.length qc,.slice qa2 CL.length qc2] qa qa2 qc qc2 WL CL (yu (zP l P ac t (H.map (·.h)) O) (plB X)) W wo1 by rw[List.take_of_length_le (by omega)]at hfr;exact hfr);clear hfr HFo hkc;have FSt:=zb HEnd.out.st;have FG:=zb HEnd.out.box;have FW:=zb HEnd.out.wal;have FC:=zb HEnd.out.cnt;have FB:=zb HEnd.out.bel;clear HEnd;go_upto_region 26 with(fail);obtain⟨lr,lcr,R,s1,s2,s3,s4⟩:=FSt.out.row;have sc0:=cell_of_row wo1 _ 0 _ _ _ s1;have gc0:=cell_of_row wo1 _ 0 _ _ _ FG.out;have gf0:=frozen_of_row wo1 _ 0 _ _ FG.out;obtain⟨U,hU⟩:∃U,U=wo1.setCell ⟨g,0,none⟩ (.slice lr R.length lcr):=⟨_,rfl⟩;have UG:=zb (show U.heap[g]?=some (Obj.cells #[.slice lr R.length lcr,.slice qa WL.length qc,.slice qa2 CL.length qc2] 45) by rw[hU];exact zU _ FG.out);have hg1:w.heap.size+1≠g:=by omega
         have U1:=zb (show U.heap[w.heap.size+1]?=some (Obj.cells #[.slice none 0 0,.slice none 0 0,.slice none 0 0] 45) by rw[hU];exact zF ((FB.out.block _ (by omega)).trans R1.out) hg1);have HbU:=zb (show Below (w.heap.size+2) W U by rw[hU];exact FB.out.trans ⟨rfl,rfl,rfl,by simp,fun k hk=>Below.heap_setCell _ _ _ _ (by show k≠g;omega)⟩);have HFin:=zb (show StTo (yu (zP l P ac t (H.map (·.h)) O) (plB X)) WL CL w (.returned (.agg #[.slice lr R.length lcr,.slice qa WL.length qc,.slice qa2 CL.length qc2])) (U.setRow (w.heap.size+1) #[.slice lr R.length lcr,.slice qa WL.length qc,.slice qa2 CL.length qc2])from by
          have o1:U.ownsRow (w.heap.size+4) 60 12 (.slice lr R.length lcr) R.length (R.flatMap zr):=by rw[hU];exact zp s2 (zk s2 FG.out (by decide))
          have o2:U.ownsRow (w.heap.size+4) 102 5 (.slice qa WL.length qc) WL.length (WL.flatMap zW):=by rw[hU];exact zp FW.out (zk FW.out FG.out (by decide))
          have o3:U.ownsRow (w.heap.size+4) 104 5 (.slice qa2 CL.length qc2) CL.length (CL.flatMap zW):=by rw[hU];exact zp FC.out (zk FC.out FG.out (by decide))
          refine⟨lr,lcr,R,qa,qc,qa2,qc2,rfl,zx (zt o1 (zk o1 U1.out (by decide)) _) (by omega),s3,fun x hx=>?_,zx (zt o2 (zk o2 U1.out (by decide)) _) (by omega),zx (zt o3 (zk o3 U1.out (by decide)) _) (by omega),zj (HbW.out.trans (HbU.out.mono (by omega))) (by omega) _⟩;have h1:=s4 x hx;have r1:U.ownsRow (w.heap.size+4) 9 1 (.slice x.za x.zn x.zc) x.b.zs.length (x.b.zs.flatMap zm):=by rw[hU];exact zp h1.row (zk h1.row FG.out (by decide))
          exact⟨zx (zt r1 (zk r1 U1.out (by decide)) _) (by omega),h1.sizes,h1.p,h1.len⟩);have HU:=zb hU;clear hU s1 s2 s3 s4;go_upto_region 27 with(fail);rw[<-HU.out];clear sc0 gc0 gf0;have y0:=cell_of_row U _ 0 _ _ _ UG.out;have y1:=cell_of_row U _ 1 _ _ _ UG.out;have y2:=cell_of_row U _ 2 _ _ _ UG.out;have tQ:=fun j=>cell_setRow_same U (w.heap.size+1) j _ #[.slice lr R.length lcr,.slice qa WL.length qc,.slice qa2 CL.length qc2] _ _ U1.out;have t0:=tQ 0;have t1:=tQ 1;have t2:=tQ 2;clear tQ;repeat (first|refine wpList_store_row rfl _ _ _ rfl (w.heap.size+1) #[.slice lr R.length lcr,.slice qa WL.length qc,.slice qa2 CL.length qc2] rfl rfl 45 _ U1.out (by kernel_rfl) rfl (by simp[Value.oneCell']) ?_|go_step)
         refine bodyPost_ret (v:=.agg #[.slice lr R.length lcr,.slice qa WL.length qc,.slice qa2 CL.length qc2]) (by simp[results,Tryz.results22,go_sem,t0,t1,t2]) rfl ?_;exact Or.inr ⟨HOn.out,(H.map (·.h)),O,HHad.out,HO.out,HFin.out⟩
      have HOff:=zb (show ¬uH l ac t from fun h=>ha h.2.2);go_upto_region 26 with(fail);obtain⟨lr,lcr,R,s1,s2,s3,s4⟩:=HSz.out.row;have sc0:=cell_of_row Z _ 0 _ _ _ s1;have gc0:=cell_of_row Z _ 0 _ _ _ HGz.out;have gf0:=frozen_of_row Z _ 0 _ _ HGz.out;obtain⟨U,hU⟩:∃U,U=Z.setCell ⟨g,0,none⟩ (.slice lr R.length lcr):=⟨_,rfl⟩;have UG:=zb (show U.heap[g]?=some (Obj.cells #[.slice lr R.length lcr,.slice qa WL.length qc,.slice qa2 CL.length qc2] 45) by rw[hU];exact zU _ HGz.out);have hg1:w.heap.size+1≠g:=by omega
      have U1:=zb (show U.heap[w.heap.size+1]?=some (Obj.cells #[.slice none 0 0,.slice none 0 0,.slice none 0 0] 45) by rw[hU];exact zF ((HBz.out.block _ (by omega)).trans R1.out) hg1);have HbU:=zb (show Below (w.heap.size+2) W U by rw[hU];exact HBz.out.trans ⟨rfl,rfl,rfl,by simp,fun k hk=>Below.heap_setCell _ _ _ _ (by show k≠g;omega)⟩);have HFin:=zb (show StTo (plB X) WL CL w (.returned (.agg #[.slice lr R.length lcr,.slice qa WL.length qc,.slice qa2 CL.length qc2])) (U.setRow (w.heap.size+1) #[.slice lr R.length lcr,.slice qa WL.length qc,.slice qa2 CL.length qc2])from by
       have o1:U.ownsRow (w.heap.size+4) 60 12 (.slice lr R.length lcr) R.length (R.flatMap zr):=by rw[hU];exact zp s2 (zk s2 HGz.out (by decide))
       have o2:U.ownsRow (w.heap.size+4) 102 5 (.slice qa WL.length qc) WL.length (WL.flatMap zW):=by rw[hU];exact zp HOz2.out (zk HOz2.out HGz.out (by decide))
       have o3:U.ownsRow (w.heap.size+4) 104 5 (.slice qa2 CL.length qc2) CL.length (CL.flatMap zW):=by rw[hU];exact zp HOz3.out (zk HOz3.out HGz.out (by decide))
       refine⟨lr,lcr,R,qa,qc,qa2,qc2,rfl,zx (zt o1 (zk o1 U1.out (by decide)) _) (by omega),s3,fun x hx=>?_,zx (zt o2 (zk o2 U1.out (by decide)) _) (by omega),zx (zt o3 (zk o3 U1.out (by decide)) _) (by omega),zj (HbW.out.trans (HbU.out.mono (by omega))) (by omega) _⟩;have h1:=s4 x hx;have r1:U.ownsRow (w.heap.size+4) 9 1 (.slice x.za x.zn x.zc) x.b.zs.length (x.b.zs.flatMap zm):=by rw[hU];exact zp h1.row (zk h1.row HGz.out (by decide))
       exact⟨zx (zt r1 (zk r1 U1.out (by decide)) _) (by omega),h1.sizes,h1.p,h1.len⟩);have HU:=zb hU;clear hU s1 s2 s3 s4;go_upto_region 27 with(fail);rw[<-HU.out];clear sc0 gc0 gf0;have y0:=cell_of_row U _ 0 _ _ _ UG.out;have y1:=cell_of_row U _ 1 _ _ _ UG.out;have y2:=cell_of_row U _ 2 _ _ _ UG.out;have tQ:=fun j=>cell_setRow_same U (w.heap.size+1) j _ #[.slice lr R.length lcr,.slice qa WL.length qc,.slice qa2 CL.length qc2] _ _ U1.out;have t0:=tQ 0;have t1:=tQ 1;have t2:=tQ 2;clear tQ;repeat (first|refine wpList_store_row rfl _ _ _ rfl (w.heap.size+1) #[.slice lr R.length lcr,.slice qa WL.length qc,.slice qa2 CL.length qc2] rfl rfl 45 _ U1.out (by kernel_rfl) rfl (by simp[Value.oneCell']) ?_|go_step)
      refine bodyPost_ret (v:=.agg #[.slice lr R.length lcr,.slice qa WL.length qc,.slice qa2 CL.length qc2]) (by simp[results,Tryz.results22,go_sem,t0,t1,t2]) rfl ?_;exact Or.inl ⟨HOff.out,HFin.out⟩
    have HOff:=zb (show ¬uH l ac t from fun h=>ht1 h.2.1);go_upto_region 26 with(fail);obtain⟨lr,lcr,R,s1,s2,s3,s4⟩:=HSz.out.row;have sc0:=cell_of_row Z _ 0 _ _ _ s1;have gc0:=cell_of_row Z _ 0 _ _ _ HGz.out;have gf0:=frozen_of_row Z _ 0 _ _ HGz.out;obtain⟨U,hU⟩:∃U,U=Z.setCell ⟨g,0,none⟩ (.slice lr R.length lcr):=⟨_,rfl⟩;have UG:=zb (show U.heap[g]?=some (Obj.cells #[.slice lr R.length lcr,.slice qa WL.length qc,.slice qa2 CL.length qc2] 45) by rw[hU];exact zU _ HGz.out);have hg1:w.heap.size+1≠g:=by omega
    have U1:=zb (show U.heap[w.heap.size+1]?=some (Obj.cells #[.slice none 0 0,.slice none 0 0,.slice none 0 0] 45) by rw[hU];exact zF ((HBz.out.block _ (by omega)).trans R1.out) hg1);have HbU:=zb (show Below (w.heap.size+2) W U by rw[hU];exact HBz.out.trans ⟨rfl,rfl,rfl,by simp,fun k hk=>Below.heap_setCell _ _ _ _ (by show k≠g;omega)⟩);have HFin:=zb (show StTo (plB X) WL CL w (.returned (.agg #[.slice lr R.length lcr,.slice qa WL.length qc,.slice qa2 CL.length qc2])) (U.setRow (w.heap.size+1) #[.slice lr R.length lcr,.slice qa WL.length qc,.slice qa2 CL.length qc2])from by
     have o1:U.ownsRow (w.heap.size+4) 60 12 (.slice lr R.length lcr) R.length (R.flatMap zr):=by rw[hU];exact zp s2 (zk s2 HGz.out (by decide))
     have o2:U.ownsRow (w.heap.size+4) 102 5 (.slice qa WL.length qc) WL.length (WL.flatMap zW):=by rw[hU];exact zp HOz2.out (zk HOz2.out HGz.out (by decide))
     have o3:U.ownsRow (w.heap.size+4) 104 5 (.slice qa2 CL.length qc2) CL.length (CL.flatMap zW):=by rw[hU];exact zp HOz3.out (zk HOz3.out HGz.out (by decide))
     refine⟨lr,lcr,R,qa,qc,qa2,qc2,rfl,zx (zt o1 (zk o1 U1.out (by decide)) _) (by omega),s3,fun x hx=>?_,zx (zt o2 (zk o2 U1.out (by decide)) _) (by omega),zx (zt o3 (zk o3 U1.out (by decide)) _) (by omega),zj (HbW.out.trans (HbU.out.mono (by omega))) (by omega) _⟩;have h1:=s4 x hx;have r1:U.ownsRow (w.heap.size+4) 9 1 (.slice x.za x.zn x.zc) x.b.zs.length (x.b.zs.flatMap zm):=by rw[hU];exact zp h1.row (zk h1.row HGz.out (by decide))
     exact⟨zx (zt r1 (zk r1 U1.out (by decide)) _) (by omega),h1.sizes,h1.p,h1.len⟩);have HU:=zb hU;clear hU s1 s2 s3 s4;go_upto_region 27 with(fail);rw[<-HU.out];clear sc0 gc0 gf0;have y0:=cell_of_row U _ 0 _ _ _ UG.out;have y1:=cell_of_row U _ 1 _ _ _ UG.out;have y2:=cell_of_row U _ 2 _ _ _ UG.out;have tQ:=fun j=>cell_setRow_same U (w.heap.size+1) j _ #[.slice lr R.length lcr,.slice qa WL.length qc,.slice qa2 CL.length qc2] _ _ U1.out;have t0:=tQ 0;have t1:=tQ 1;have t2:=tQ 2;clear tQ;repeat (first|refine wpList_store_row rfl _ _ _ rfl (w.heap.size+1) #[.slice lr R.length lcr,.slice qa WL.length qc,.slice qa2 CL.length qc2] rfl rfl 45 _ U1.out (by kernel_rfl) rfl (by simp[Value.oneCell']) ?_|go_step)
    refine bodyPost_ret (v:=.agg #[.slice lr R.length lcr,.slice qa WL.length qc,.slice qa2 CL.length qc2]) (by simp[results,Tryz.results22,go_sem,t0,t1,t2]) rfl ?_;exact Or.inl ⟨HOff.out,HFin.out⟩
  have HOff:=zb (show ¬uH l ac t from fun h=>ht0 h.1);go_upto_region 26 with(fail);obtain⟨lr,lcr,R,s1,s2,s3,s4⟩:=HSz.out.row;have sc0:=cell_of_row Z _ 0 _ _ _ s1;have gc0:=cell_of_row Z _ 0 _ _ _ HGz.out;have gf0:=frozen_of_row Z _ 0 _ _ HGz.out;obtain⟨U,hU⟩:∃U,U=Z.setCell ⟨g,0,none⟩ (.slice lr R.length lcr):=⟨_,rfl⟩;have UG:=zb (show U.heap[g]?=some (Obj.cells #[.slice lr R.length lcr,.slice qa WL.length qc,.slice qa2 CL.length qc2] 45) by rw[hU];exact zU _ HGz.out);have hg1:w.heap.size+1≠g:=by omega
  have U1:=zb (show U.heap[w.heap.size+1]?=some (Obj.cells #[.slice none 0 0,.slice none 0 0,.slice none 0 0] 45) by rw[hU];exact zF ((HBz.out.block _ (by omega)).trans R1.out) hg1);have HbU:=zb (show Below (w.heap.size+2) W U by rw[hU];exact HBz.out.trans ⟨rfl,rfl,rfl,by simp,fun k hk=>Below.heap_setCell _ _ _ _ (by show k≠g;omega)⟩);have HFin:=zb (show StTo (plB X) WL CL w (.returned (.agg #[.slice lr R.length lcr,.slice qa WL.length qc,.slice qa2 CL.length qc2])) (U.setRow (w.heap.size+1) #[.slice lr R.length lcr,.slice qa WL.length qc,.slice qa2 CL.length qc2])from by
   have o1:U.ownsRow (w.heap.size+4) 60 12 (.slice lr R.length lcr) R.length (R.flatMap zr):=by rw[hU];exact zp s2 (zk s2 HGz.out (by decide))
   have o2:U.ownsRow (w.heap.size+4) 102 5 (.slice qa WL.length qc) WL.length (WL.flatMap zW):=by rw[hU];exact zp HOz2.out (zk HOz2.out HGz.out (by decide))
   have o3:U.ownsRow (w.heap.size+4) 104 5 (.slice qa2 CL.length qc2) CL.length (CL.flatMap zW):=by rw[hU];exact zp HOz3.out (zk HOz3.out HGz.out (by decide))
   refine⟨lr,lcr,R,qa,qc,qa2,qc2,rfl,zx (zt o1 (zk o1 U1.out (by decide)) _) (by omega),s3,fun x hx=>?_,zx (zt o2 (zk o2 U1.out (by decide)) _) (by omega),zx (zt o3 (zk o3 U1.out (by decide)) _) (by omega),zj (HbW.out.trans (HbU.out.mono (by omega))) (by omega) _⟩;have h1:=s4 x hx;have r1:U.ownsRow (w.heap.size+4) 9 1 (.slice x.za x.zn x.zc) x.b.zs.length (x.b.zs.flatMap zm):=by rw[hU];exact zp h1.row (zk h1.row HGz.out (by decide))
   exact⟨zx (zt r1 (zk r1 U1.out (by decide)) _) (by omega),h1.sizes,h1.p,h1.len⟩);have HU:=zb hU;clear hU s1 s2 s3 s4;go_upto_region 27 with(fail);rw[<-HU.out];clear sc0 gc0 gf0;have y0:=cell_of_row U _ 0 _ _ _ UG.out;have y1:=cell_of_row U _ 1 _ _ _ UG.out;have y2:=cell_of_row U _ 2 _ _ _ UG.out;have tQ:=fun j=>cell_setRow_same U (w.heap.size+1) j _ #[.slice lr R.length lcr,.slice qa WL.length qc,.slice qa2 CL.length qc2] _ _ U1.out;have t0:=tQ 0;have t1:=tQ 1;have t2:=tQ 2;clear tQ;repeat (first|refine wpList_store_row rfl _ _ _ rfl (w.heap.size+1) #[.slice lr R.length lcr,.slice qa WL.length qc,.slice qa2 CL.length qc2] rfl rfl 45 _ U1.out (by kernel_rfl) rfl (by simp[Value.oneCell']) ?_|go_step)
  refine bodyPost_ret (v:=.agg #[.slice lr R.length lcr,.slice qa WL.length qc,.slice qa2 CL.length qc2]) (by simp[results,Tryz.results22,go_sem,t0,t1,t2]) rfl ?_;exact Or.inl ⟨HOff.out,HFin.out⟩
end Go.Proofs.YtngippiilgdnoaaGreat
namespace Go.Proofs.YtngippiilgdnoaaGreat
open Go.RowKit
open Go.RowKit
open Go.RowKit
end Go.Proofs.YtngippiilgdnoaaGreat
namespace Go.Proofs.YtngippiilgdnoaaGreat
open Go.RowKit
theorem Uk {P:List Pd} (hf:∀p∈P,p.bs.length<=4) (ac:Int) (h:Had) (A:List (Int×Int)) (c:Int×Int):(yr P ac h A c).length<=4:=by
 unfold yr;split;· exact Nat.zero_le _
 rw[Y9];rename_i q _;cases ha:atL P h.2 q.1 with
 |none=>exact Nat.zero_le _
 |some x=>
   have hx:x∈P:=by unfold atL at ha;exact(List.mem_filter.1 (List.mem_of_getLast? ha)).1
   exact hf x hx
theorem NL {l:List Ev} {ac:Int} {H:List Had} (h:jI l ac H):H.length<=l.length:=by
 have h1:H.Nodup:=h.srt.imp (fun {a b} hab e=>by subst e;exact kE _ hab);have h2:=qP H (l.map fun e=>(e.sb,e.nm)) h1 (fun x hx=>by
  obtain⟨e,he,-,-,rfl⟩:=(h.mem x).1 hx;exact List.mem_map.2 ⟨e,he,rfl⟩);rwa[List.length_map]at h2
theorem Gp {a:Int} (ha:1<=a) (hb:a<=28) {A:List (Int×Int)} (hA:∀p∈A,0<=p.1/\p.1<p.2/\p.2<=12622780800) {t:Int} (h0:0<=t) (h1:t<12622780800) {O:List (Int×Int)} (h:vP a A t O):O.length<=(A.flatMap (vc a t)).length:=by
 have hs:=qP _ ((A.flatMap (vc a t)).map (·.1)) (JO h.srt) fun y hy=>by
  obtain⟨c,hc,rfl⟩:=List.mem_map.1 hy;obtain⟨m,m1,m2,e,x,⟨p,hp,x1,x2⟩,y1,y2,x3,x4⟩:=(h.mem c).1 hc;obtain⟨w0,w1,w2⟩:=hA p hp;refine List.mem_map.2 ⟨c,List.mem_flatMap.2 ⟨p,hp,?_⟩,rfl⟩;unfold vc;rw[if_pos ((vf _ _ _ _).2 ⟨(zw _ _).2 ⟨w0,w1,w2⟩,(zw _ _).2 ⟨by decide,by omega,by omega⟩,by omega⟩)];exact(qZ ha hb (p:=(max p.1 0,min p.2 (t+1))) (by dsimp only;omega) (by dsimp only;omega) (by dsimp only;omega)).2 ⟨m,m1,m2,e,x,by dsimp only;omega,by dsimp only;omega,x3,x4⟩
 rwa[List.length_map,List.length_map]at hs
theorem Xm {l:List Ev} {P:List Pd} {ac t:Int} {H:List Had} {O:List (Int×Int)} (hf:∀p∈P,p.bs.length<=4) (hl:l.length<=40) (h:jI l ac H) (ho:O.length<=1600):(zP l P ac t H O).length<=300000:=by
 have h1:=NL h;have h3:∀c∈O,(vI l P ac t H c).length<=160:=fun c _=>by
  have h4:=ub (fun h=>(yr P ac h (actL h.1 h.2 l) c).filter fun g=>decide (g.1.f<=t)) 4 H (fun x _=>Nat.le_trans (List.length_filter_le _ _) (Uk hf _ _ _ _));show(H.flatMap _).length<=160;omega
 have h5:=ub (vI l P ac t H) 160 O h3;show(O.flatMap _).length<=_;omega
theorem Zy {l:List Ev} {P:List Pd} {ac t:Int} {H:List Had} {O:List (Int×Int)} {g:Bu×Int} (hg:g∈zP l P ac t H O):g.1.f<=t/\∃h∈H,∃c∈O,g∈yr P ac h (actL h.1 h.2 l) c:=by unfold zP at hg;obtain⟨c,hc,hg⟩:=List.mem_flatMap.1 hg;unfold vI at hg;obtain⟨h,hh,hg⟩:=List.mem_flatMap.1 hg;obtain⟨h1,h2⟩:=List.mem_filter.1 hg;exact⟨of_decide_eq_true h2,h,hh,c,hc,h1⟩
theorem qW {P:List Pd} {ac:Int} {h:Had} {A:List (Int×Int)} {c:Int×Int} {g:Bu×Int} (hg:g∈yr P ac h A c):∃p∈A,∃(i:Nat) (x:Pd) (b:Bd),x∈P/\x.bs[i]?=some b/\yO p.1 p.2 c.1 c.2=true/\atL P h.2 (max p.1 c.1)=some x/\g=(buOf ac h (max p.1 c.1,min p.2 c.2) i b,b.ro):=by
 unfold yr at hg;cases hq:jc A c with
 |none=>rw[hq]at hg;cases hg
 |some q=>
   rw[hq]at hg;simp only[]at hg;unfold jc at hq;cases hp:A.find? (fun p=>yO p.1 p.2 c.1 c.2)with
   |none=>rw[hp]at hq;cases hq
   |some p=>
     rw[hp]at hq;simp only[Option.some.injEq]at hq;subst hq;unfold vQ at hg;obtain⟨i,hi,he⟩:=List.mem_mapIdx.1 hg;cases ha:atL P h.2 (max p.1 c.1)with
     |none=>simp[ha,bsOf]at hi
     |some x=>
       have hx:x∈P:=by unfold atL at ha;exact(List.mem_filter.1 (List.mem_of_getLast? ha)).1
       refine⟨p,List.mem_of_find?_eq_some hp,i,x,x.bs[i]'(by simpa [ha,bsOf]using hi),hx,List.getElem?_eq_getElem _,List.find?_some (p:=fun p:Int×Int=>yO p.1 p.2 c.1 c.2) hp,ha,?_⟩;rw[<-he];simp[ha,bsOf]
theorem N8 {l:List Ev} {P:List Pd} {ac t:Int} (hr:yp l) (hl:l.length<=40) (hn:QJ l t) (hs:∀e∈l,e.nm.size<=maxLen) (hf:∀p∈P,p.bs.length<=4) (ha:yw l ac<=28) (ht:t<=9223372036854775807):AdvH l P ac t:=by
 refine⟨ha,fun H _=>uA hr,fun H hH hOn=>VE hr hl hn hOn.2.1 hH.srt,fun H O hH hO g hg=>?_,fun H O hH hO hOn=>Xm hf hl hH (Nat.le_trans (Gp (by have:=hOn.2.2;omega) ha (uA hr) hOn.1 hOn.2.1 hO) (VE hr hl hn hOn.2.1 hH.srt))⟩;obtain⟨hft,h,hh,c,hc,hg⟩:=Zy hg;obtain⟨p,hp,i,x,b,hx,hi,-,-,rfl⟩:=qW hg;obtain⟨e,he,hk,-,rfl⟩:=(hH.mem h).1 hh;have h0:=(uA hr (H:=H) p (List.mem_flatMap.2 ⟨_,hh,hp⟩)).1;obtain⟨k,hkl,rfl⟩:=List.mem_iff_getElem.1 he;have hsb:-9223372036854775808<=(l[k]).sb/\(l[k]).sb<=9223372036854775807:=by
  have h:=hr k hkl;cases hu:qv (l[k]).kd with
  |true=>have:=h.s1 hu;omega
  |false=>have:=h.s0 hu;omega
 have hib:i<4:=by have h1:=(List.getElem?_eq_some_iff.1 hi).1;have h2:=hf x hx;omega
 have hft:max p.1 c.1<=t:=hft;exact⟨wf64 hsb.1 hsb.2,hs _ (List.getElem_mem hkl),wf64 (show(-9223372036854775808:Int)<=(i:Int) by omega) (show(i:Int)<=9223372036854775807 by omega),wf64 (show(-9223372036854775808:Int)<=max p.1 c.1 by omega) (show max p.1 c.1<=9223372036854775807 by omega)⟩
theorem GF {l:List Ev} (hr:yp l) (n:Int):0<=yw l n/\yw l n<=28:=by
 unfold yw;cases ho:km l n with
 |none=>exact⟨by decide,by decide⟩
 |some o=>
   obtain⟨h1,h2,-⟩:=Zr ho;obtain⟨-,-,h3,h4⟩:=Wa (xp hr) h1 h2;have h5:0<=o.vl:=by omega
   exact⟨h5,h4⟩
theorem jZ {α β:Type} (p:α->Bool) (f:α->List β):∀L:List α,(∀x∈L,p x=false->f x=[])->L.flatMap f=(L.filter p).flatMap f
 | [],_=>rfl
 |x::L,h=>by
   have ih:=jZ p f L (fun y hy=>h y (List.mem_cons_of_mem _ hy));rw[List.flatMap_cons,List.filter_cons,ih];cases hp:p x with
   |true=>simp
   |false=>rw[h x (List.mem_cons_self ..) hp];simp
theorem Y8 {l:List Ev} {P:List Pd} {ac t u a:Int} {H:List Had} {Ot Ou:List (Int×Int)} (hr:yp l) (ht:vP a (vH l H) t Ot) (hu:vP a (vH l H) u Ou) (htu:t<=u):
 zP l P ac t H Ot=(zP l P ac u H Ou).filter fun g=>decide (g.1.f<=t):=by
 have e1:(zP l P ac u H Ou).filter (fun g=>decide (g.1.f<=t))=Ou.flatMap (vI l P ac t H):=by
  unfold zP;rw[List.filter_flatMap]
  congr 1
  funext c
  show((H.flatMap _).filter _)=H.flatMap _;rw[List.filter_flatMap]
  congr 1
  funext h
  rw[List.filter_filter]
  congr 1
  funext g
  by_cases hg:g.1.f<=t;· rw[decide_eq_true hg,decide_eq_true (show g.1.f<=u by omega)];rfl
  rw[decide_eq_false hg];rfl
 have e2:Ou.flatMap (vI l P ac t H)=(Ou.filter fun c=>decide (c∈Ot)).flatMap (vI l P ac t H):=
  jZ _ _ _ fun c hc hn=>by
   have hn:c∉Ot:=of_decide_eq_false hn;apply List.eq_nil_iff_forall_not_mem.2;intro g hg;apply hn;have hg2:g∈zP l P ac t H [c]:=by unfold zP;rw[List.flatMap_singleton];exact hg
   obtain⟨hf,h,hh,c',hc',hg3⟩:=Zy hg2;obtain rfl:=List.mem_singleton.1 hc';obtain⟨p,hp,i,x,b,-,-,hm,-,rfl⟩:=qW hg3;obtain⟨-,-,hm⟩:=(vf _ _ _ _).1 hm;obtain⟨m,hm0,hm1,rfl,-⟩:=(hu.mem c').1 hc;have hpa:p∈vH l H:=List.mem_flatMap.2 ⟨_,hh,hp⟩;have h0:=(uA hr (H:=H) p hpa).1;have hf:max p.1 (beg a m)<=t:=hf;have hm:max p.1 (beg a m)<min p.2 (beg a (m+1)):=hm;exact(ht.mem _).2 ⟨m,hm0,hm1,rfl,max p.1 (beg a m),⟨p,hpa,by omega,by omega⟩,by omega,hf,by omega,by omega⟩
 have e3:(Ou.filter fun c=>decide (c∈Ot))=Ot:=
  uQ (r:=fun c d:Int×Int=>c.1<d.1) (fun _=>Int.lt_irrefl _) (fun _ _ _ h g=>Int.lt_trans h g) _ _ (hu.srt.filter _) ht.srt fun c=>by
   rw[List.mem_filter,decide_eq_true_eq];refine⟨fun h=>h.2,fun h=>⟨?_,h⟩⟩;obtain⟨m,h1,h2,h3,x,h4,h5,h6,h7,h8⟩:=(ht.mem c).1 h;exact(hu.mem c).2 ⟨m,h1,h2,h3,x,h4,h5,by omega,h7,h8⟩
 rw[e1,e2,e3];rfl
def XO (a b:Bu×Int):Prop:=yz a.1 b.1=false/\yx b.1 a.1=false
theorem UK {a b:Bu×Int} (h:¬(a.1.sb=b.1.sb/\a.1.pr=b.1.pr/\a.1.ix=b.1.ix)):XO a b:=by
 constructor
 · cases hs:yz a.1 b.1 with
   |false=>rfl
   |true=>unfold yz at hs;simp only[Bool.and_eq_true,decide_eq_true_eq,zI]at hs;exact absurd ⟨hs.1.1.1,hs.1.1.2,hs.1.2⟩ h
 cases hs:yx b.1 a.1 with
 |false=>rfl
 |true=>unfold yx at hs;simp only[Bool.and_eq_true,decide_eq_true_eq,zI]at hs;exact absurd ⟨hs.1.1.1.1.symm,hs.1.1.1.2.symm,hs.1.1.2.symm⟩ h
theorem N1 {a b:Bu×Int} (h1:a.1.f<b.1.f) (h2:b.1.f<b.1.t):XO a b:=by
 constructor
 · cases hs:yz a.1 b.1 with
   |false=>rfl
   |true=>unfold yz at hs;simp only[Bool.and_eq_true,decide_eq_true_eq]at hs;omega
 cases hs:yx b.1 a.1 with
 |false=>rfl
 |true=>unfold yx at hs;simp only[Bool.and_eq_true,decide_eq_true_eq]at hs;omega
theorem Gg {l:List Ev} {P:List Pd} {ac t a:Int} {H:List Had} {O:List (Int×Int)} (ha:1<=a) (hb:a<=28) (hH:jI l ac H) (hO:vP a (vH l H) t O):QN (zP l P ac t H O):=by
 have key:(zP l P ac t H O).Pairwise XO:=by
  unfold zP;rw[List.pairwise_flatMap];constructor
  · intro c hc
    unfold vI;rw[List.pairwise_flatMap];constructor
    · intro h hh
      refine List.Pairwise.filter _ ?_;unfold yr;split;· exact List.Pairwise.nil
      unfold vQ;rw[List.pairwise_iff_getElem];intro i j hi hj hij;rw[List.getElem_mapIdx,List.getElem_mapIdx];refine UK fun h=>?_;have h3:(i:Int)=(j:Int):=h.2.2;omega
    refine hH.srt.imp fun {h h'} hlt x hx y hy=>?_;obtain⟨hx,-⟩:=List.mem_filter.1 hx;obtain⟨hy,-⟩:=List.mem_filter.1 hy;obtain⟨p,-,i,u,b,-,-,-,-,rfl⟩:=qW hx;obtain⟨q,-,j,v,d,-,-,-,-,rfl⟩:=qW hy;refine UK fun hs=>?_;have h1:h.1=h'.1:=hs.1;have h2:h.2=h'.2:=hs.2.1;have h3:h=h':=Prod.ext h1 h2;exact kE h' (h3▸hlt)
  refine List.Pairwise.imp_of_mem (fun {c c'} hc hc' hlt x hx y hy=>?_) hO.srt;obtain⟨m,-,-,rfl,-⟩:=(hO.mem c).1 hc;obtain⟨m',-,-,rfl,-⟩:=(hO.mem c').1 hc';have hlt:beg a m<beg a m':=hlt;have hmm:m<m':=by apply Int.lt_of_not_ge;intro h;have:=vN ha hb h;omega
  have hmm2:=vN ha hb (show m+1<=m' by omega);unfold vI at hx hy;obtain⟨h,-,hx⟩:=List.mem_flatMap.1 hx;obtain⟨h',-,hy⟩:=List.mem_flatMap.1 hy;obtain⟨hx,-⟩:=List.mem_filter.1 hx;obtain⟨hy,-⟩:=List.mem_filter.1 hy;obtain⟨p,-,i,u,b,-,-,hm1,-,rfl⟩:=qW hx;obtain⟨q,-,j,v,d,-,-,hm2,-,rfl⟩:=qW hy;obtain⟨-,-,hm1⟩:=(vf _ _ _ _).1 hm1;obtain⟨-,-,hm2⟩:=(vf _ _ _ _).1 hm2;have hm1:max p.1 (beg a m)<min p.2 (beg a (m+1)):=hm1;have hm2:max q.1 (beg a m')<min q.2 (beg a (m'+1)):=hm2;exact N1 (show max p.1 (beg a m)<max q.1 (beg a m') by omega) hm2
 exact⟨key.imp fun h=>h.1,key.imp fun h=>h.2⟩
theorem Uj {l:List Ev} {P:List Pd} {ac t u:Int} {H:List Had} {O:List (Int×Int)}:∀x∈zP l P ac u H O,∀y∈zP l P ac u H O,yx x.1 y.1=true->decide (y.1.f<=t)=true->decide (x.1.f<=t)=true:=by intro x hx y hy hp hf;obtain⟨-,h,-,c,-,hx⟩:=Zy hx;obtain⟨p,-,i,v,b,-,-,hm1,-,rfl⟩:=qW hx;obtain⟨-,-,hm1⟩:=(vf _ _ _ _).1 hm1;unfold yx at hp;simp only[Bool.and_eq_true,decide_eq_true_eq]at hp;have h1:min p.2 c.2=y.1.f:=hp.2;have hf:=of_decide_eq_true hf;exact decide_eq_true (show max p.1 c.1<=t by omega)
theorem N4 {l:List Ev} {P:List Pd} {ac t u a:Int} {H:List Had} {Ot Ou:List (Int×Int)} {L:List Bu} (hr:yp l) (ha:1<=a) (hb:a<=28) (hL:OrdB L) (hH:jI l ac H) (ht:vP a (vH l H) t Ot) (hu:vP a (vH l H) u Ou) (htu:t<=u):
 yu (zP l P ac u H Ou) (yu (zP l P ac t H Ot) L)=yu (zP l P ac u H Ou) L:=by
 rw[Y8 hr ht hu htu];exact Gj hL (Gg ha hb hH hu) (fun x hx y hy h1 h2=>Uj x hx y hy h1 h2)
theorem Km {G:List (Bu×Int)} {L:List Bu} (h:∀g∈G,yF L g.1=true):yu G L=L:=ZA G h
theorem GI {l:List Ev} {P:List Pd} {ac t u a:Int} {H:List Had} {Ot Ou:List (Int×Int)} {L:List Bu} (hr:yp l) (ht:vP a (vH l H) t Ot) (hu:vP a (vH l H) u Ou) (htu:t<=u):
 yu (zP l P ac t H Ot) (yu (zP l P ac u H Ou) L)=yu (zP l P ac u H Ou) L:=by
 refine Km fun g hg=>?_;rw[Y8 hr ht hu htu]at hg;exact YD _ (List.mem_filter.1 hg).1
def GsOf (l:List Ev) (P:List Pd) (ac t:Int) (G:List (Bu×Int)):Prop:=(¬uH l ac t/\G=[])\/(uH l ac t/\∃H O,jI l ac H/\vP (yw l ac) (vH l H) t O/\G=zP l P ac t H O)
theorem UQ.gs {l:List Ev} {P:List Pd} {ac t:Int} {L:List Bu} {WL CL:List I5} {w w':World} {e:Ending} (h:UQ l P ac t L WL CL w e w'):∃G,GsOf l P ac t G/\StTo (yu G L) WL CL w e w':=by
 rcases h with⟨h1,h2⟩|⟨h1,H,O,h2,h3,h4⟩;· exact⟨[],Or.inl ⟨h1,rfl⟩,h2⟩
 exact⟨_,Or.inr ⟨h1,H,O,h2,h3,rfl⟩,h4⟩
section
variable {l:List Ev} {P:List Pd} {ac t u:Int} {G K:List (Bu×Int)} {L:List Bu}
theorem GsOf.one (h:GsOf l P ac t G) (g:GsOf l P ac t K):G=K:=by
 rcases h with⟨h1,rfl⟩|⟨h1,H,O,h2,h3,rfl⟩
 · rcases g with⟨g1,rfl⟩|⟨g1,-⟩
   · rfl
   exact absurd g1 h1
 rcases g with⟨g1,-⟩|⟨g1,H',O',g2,g3,rfl⟩;· exact absurd h1 g1
 obtain rfl:=h2.one g2;obtain rfl:=h3.one g3;rfl
theorem GsOf.two (hr:yp l) (hL:OrdB L) (ht:GsOf l P ac t G) (hu:GsOf l P ac u K) (htu:t<=u) (h1:u<12622780800):yu K (yu G L)=yu K L:=by
 rcases ht with⟨-,rfl⟩|⟨⟨t0,-,t2⟩,H,O,h2,h3,rfl⟩;· rfl
 rcases hu with⟨g1,-⟩|⟨-,H',O',g2,g3,rfl⟩;· exact absurd ⟨by omega,h1,t2⟩ g1
 obtain rfl:=h2.one g2;exact N4 hr (by omega) (GF hr ac).2 hL h2 h3 g3 htu
theorem GsOf.again (hr:yp l) (ht:GsOf l P ac t G) (hu:GsOf l P ac u K) (htu:t<=u) (h1:u<12622780800):yu G (yu K L)=yu K L:=by
 rcases ht with⟨-,rfl⟩|⟨⟨t0,-,t2⟩,H,O,h2,h3,rfl⟩;· rfl
 rcases hu with⟨g1,-⟩|⟨-,H',O',g2,g3,rfl⟩;· exact absurd ⟨by omega,h1,t2⟩ g1
 obtain rfl:=h2.one g2;exact GI hr h3 g3 htu
theorem GsOf.key (hA:AdvH l P ac t) (h:GsOf l P ac t G):∀g∈G,KeyB g.1:=by
 rcases h with⟨-,rfl⟩|⟨-,H,O,h2,h3,rfl⟩;· exact fun g hg=>by cases hg
 exact hA.key H O h2 h3
theorem GsOf.few (hA:AdvH l P ac t) (h:GsOf l P ac t G):G.length<=300000:=by
 rcases h with⟨-,rfl⟩|⟨h1,H,O,h2,h3,rfl⟩;· exact Nat.zero_le _
 exact hA.few H O h2 h3 h1
end
theorem qp.key {a b:Bu} (h:qp a b) (hk:KeyB b):KeyB a:=⟨by rw[h.sb];exact hk.s,by rw[h.pr];exact hk.p,by rw[h.ix];exact hk.i,by rw[h.f];exact hk.f⟩
def RoR (w:World) (b o:Nat) (x:Bd):Prop:=w.cell? ⟨b,o+3,none⟩=some (.int .i64 x.ro)
def E8 (w:World) (v:Value) (l:List Bd):Prop:=zz 6 RoR w v l
theorem E8.below {w w':World} {v:Value} {l:List Bd} (h:E8 w v l) (hb:Below w.heap.size w w'):E8 w' v l:=zz.below (R:=RoR) (fun _ _ b o _ hb hB h=>(hb.cell (p:=⟨b,o+3,none⟩) hB).trans h) h hb
structure RvFr (B base b0:Nat) (l:List Ev) (ac:Int) (cv hv:Value) (O:List (Int×Int)) (H:List HoX) (wa ca:Option Addr) (wc cc:Nat) (WL CL:List I5) (L:List Bu) (w0 w:World):Prop where
 row:∃(a:Option Addr) (c:Nat) (X:List BuX),w.heap[B]?=some (Obj.cells #[.slice a X.length c,.slice wa WL.length wc,.slice ca CL.length cc] 45)/\w.ownsRow base 60 12 (.slice a X.length c) X.length (X.flatMap zr)/\plB X=L/\∀x∈X,BuO base w x
 cyc:yd w cv O
 hos:zi (yK ac) 4 w hv H
 hrd:∀x∈H,HoRd l w x
 wal:w.ownsRow base 102 5 (.slice wa WL.length wc) WL.length (WL.flatMap zW)
 cnt:w.ownsRow base 104 5 (.slice ca CL.length cc) CL.length (CL.flatMap zW)
 bel:Below b0 w0 w
 sz:b0<=w0.heap.size
 bB:b0<=B
section
variable {B base b0:Nat} {l:List Ev} {ac:Int} {cv hv:Value} {O:List (Int×Int)} {H:List HoX} {wa ca:Option Addr} {wc cc:Nat} {WL CL:List I5} {L:List Bu} {w0 w w':World}
theorem RvFr.go (h:RvFr B base b0 l ac cv hv O H wa ca wc cc WL CL L w0 w) (hb:Below w.heap.size w w'):RvFr B base b0 l ac cv hv O H wa ca wc cc WL CL L w0 w':=by obtain⟨a,c,X,h1,h2,h3,h4⟩:=h.row;exact⟨⟨a,c,X,(hb.block _ (zu h1)).trans h1,zd h2 hb,h3,fun x hx=>(h4 x hx).below hb⟩,h.cyc.below hb,h.hos.below hb,fun x hx=>⟨(h.hrd x hx).1.below hb,(h.hrd x hx).2⟩,zd h.wal hb,zd h.cnt hb,h.bel.trans (hb.mono (Nat.le_trans h.sz h.bel.size)),h.sz,h.bB⟩
theorem RvFr.blank (h:RvFr B base b0 l ac cv hv O H wa ca wc cc WL CL L w0 w):ks w B jX:=by obtain⟨a,c,X,h1,-⟩:=h.row;refine YF h1 fun u hu=>?_;rintro⟨q,n,rfl⟩;simp at hu
theorem RvFr.put {L':List Bu} {y:Value} (h:RvFr B base b0 l ac cv hv O H wa ca wc cc WL CL L w0 w) (hy:WB base L' w y):RvFr B base b0 l ac cv hv O H wa ca wc cc WL CL L' w0 (w.setCell ⟨B,0,none⟩ y):=by
 obtain⟨a,c,X,h1,h2,h3,h4⟩:=h.row;obtain⟨a2,c2,R,rfl,g1,g2,g3⟩:=hy;have hbl:=h.blank;have hs:w.heap.size<=(w.setCell ⟨B,0,none⟩ (.slice a2 R.length c2)).heap.size:=by simp
 have hk:∀k,k<w.heap.size->k≠B->(w.setCell ⟨B,0,none⟩ (.slice a2 R.length c2)).heap[k]?=w.heap[k]?:=fun k _ hne=>Below.heap_setCell _ _ _ _ hne
 exact⟨⟨a2,c2,R,zU _ h1,zp g1 (zk g1 h1 (by decide)),g2,fun x hx=>⟨zp (g3 x hx).row (zk (g3 x hx).row h1 (by decide)),(g3 x hx).sizes,(g3 x hx).p,(g3 x hx).len⟩⟩,
  V4 h.cyc hbl hs hk,uT h.hos hbl hs hk,fun x hx=>Z7 (h.hrd x hx) hbl hs hk,zp h.wal (zk h.wal h1 (by decide)),zp h.cnt (zk h.cnt h1 (by decide)),
  h.bel.trans ⟨rfl,rfl,rfl,hs,fun k hk2=>Below.heap_setCell _ _ _ _ (by have:=h.bB;show k≠B;omega)⟩,h.sz,h.bB⟩
end
end Go.Proofs.YtngippiilgdnoaaGreat
namespace Go.Proofs.YtngippiilgdnoaaGreat
open Go.RowKit
open Go.RowKit
end Go.Proofs.YtngippiilgdnoaaGreat
namespace Go.Proofs.YtngippiilgdnoaaGreat
open Go.RowKit
structure StIn (w:World) (L:List Bu) (WL CL:List I5) (a:Option Addr) (c:Nat) (X:List BuX) (wa:Option Addr) (wc:Nat) (ca:Option Addr) (cc:Nat):Prop where
 bu:zi zr 12 w (.slice a X.length c) X
 pl:plB X=L
 rd:∀x∈X,BuRd w x
 wal:zi zW 5 w (.slice wa WL.length wc) WL
 cnt:zi zW 5 w (.slice ca CL.length cc) CL
theorem StIn.below {w w':World} {L:List Bu} {WL CL:List I5} {a:Option Addr} {c:Nat} {X:List BuX} {wa:Option Addr} {wc:Nat} {ca:Option Addr} {cc:Nat} (h:StIn w L WL CL a c X wa wc ca cc) (hb:Below w.heap.size w w'):StIn w' L WL CL a c X wa wc ca cc:=
 ⟨h.bu.below hb,h.pl,fun x hx=>(h.rd x hx).below hb,h.wal.below hb,h.cnt.below hb⟩
theorem StIn.len {w:World} {L:List Bu} {WL CL:List I5} {a:Option Addr} {c:Nat} {X:List BuX} {wa:Option Addr} {wc:Nat} {ca:Option Addr} {cc:Nat} (h:StIn w L WL CL a c X wa wc ca cc):X.length=L.length:=by rw[<-h.pl,jp]
def StO (L:List Bu) (WL CL:List I5) (w:World) (e:Ending) (w':World):Prop:=∃(a:Option Addr) (c:Nat) (X:List BuX) (wa:Option Addr) (wc:Nat) (ca:Option Addr) (cc:Nat),e=.returned (.agg #[.slice a X.length c,.slice wa WL.length wc,.slice ca CL.length cc])/\StIn w' L WL CL a c X wa wc ca cc/\Below w.heap.size w w'
theorem StTo.o {L:List Bu} {WL CL:List I5} {w w':World} {e:Ending} (h:StTo L WL CL w e w'):StO L WL CL w e w':=by obtain⟨a,c,X,wa,wc,ca,cc,rfl,h1,h2,h3,h4,h5,h6⟩:=h;exact⟨a,c,X,wa,wc,ca,cc,rfl,⟨zi.own (fun _=>rfl) h1,h2,fun x hx=>(h3 x hx).rd,zi.own (fun _=>rfl) h4,zi.own (fun _=>rfl) h5⟩,h6⟩
theorem QJ.mono {l:List Ev} {t u:Int} (h:QJ l u) (htu:t<=u):QJ l t:=by
 rcases h with h|h|h;· exact Or.inl h
 · exact Or.inr (Or.inl (by omega))
 exact Or.inr (Or.inr fun hl=>by have:=h hl;omega)
section
variable (l:List Ev) (P:List Pd) (ac t:Int) (ve vp:Value) (L:List Bu) (WL CL:List I5) (a wa ca:Option Addr) (c wc cc:Nat) (X:List BuX) (w:World)
end
end Go.Proofs.YtngippiilgdnoaaGreat
