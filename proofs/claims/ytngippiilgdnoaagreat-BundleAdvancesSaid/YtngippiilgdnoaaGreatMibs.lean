/-
  States in memory, and the two Advances as the laws of chapter 35 want them.
-/
import Derived.Test.YtngippiilgdnoaaGreatMibr
import Derived.Test.YtngippiilgdnoaaGreatMibo
set_option maxRecDepth 100000
set_option maxHeartbeats 25600000
namespace Go.Proofs.YtngippiilgdnoaaGreat
open Go.RowKit Go.Maps
theorem uI {α:Type} {sz:Nat} {R:World->Nat->Nat->α->Prop} {p:Value->Prop} (hR:∀(w w':World) b o x,(∀j,w'.cell? ⟨b,j,none⟩=w.cell? ⟨b,j,none⟩)->R w b o x->R w' b o x) (hp:∀(w:World) b o x,R w b o x->∃j u,w.cell? ⟨b,j,none⟩=some u/\p u)
 {w w':World} {v:Value} {L:List α} {S M:Nat} (h:zA sz R w v L) (hS:kz w S p) (hM:kz w M p) (hk:vf S M w w'):zA sz R w' v L:=by
 obtain⟨av,cap,rfl,h1,h2,h3⟩:=h;refine⟨av,cap,rfl,h1,h2,fun hne=>?_⟩;obtain⟨b,o,rfl,hB,hx⟩:=h3 hne;have hpos:0<L.length:=List.length_pos_iff.2 hne;obtain⟨j,u,hu,hpu⟩:=hp _ _ _ _ (hx 0 hpos);have hbS:b≠S:=by rintro rfl;exact hS j u hu hpu
 have hbM:b≠M:=by rintro rfl;exact hM j u hu hpu
 exact⟨b,o,rfl,Nat.lt_of_lt_of_le hB hk.size,fun i hi=>hR w w' b _ _ (fun j=>Kp (hk.block b hB hbS hbM)) (hx i hi)⟩
structure Zu (S M:Nat) (w:World):Prop where
 si:kz w S jP
 mi:kz w M jP
 ss:kz w S Gf
 ms:kz w M Gf
theorem jy.noCells {S M base:Nat} {L:List Bu} {w:World} (h:jy S M base L w):Zu S M w:=by
 obtain⟨la,lc,X,h1,-⟩:=h.row;obtain⟨Kl,k1,-⟩:=h.has;obtain⟨es,c,hm⟩:=k1.map;have hI:∀u∈#[Value.slice la X.length lc,Value.map (some M)],¬jP u:=fun u hu=>by
  rintro⟨q,n,rfl⟩;simp at hu
 have hS:∀u∈#[Value.slice la X.length lc,Value.map (some M)],¬Gf u:=fun u hu=>by
  rintro⟨s,rfl⟩;simp at hu
 exact⟨Y4 h1 hI,uc hm _,Y4 h1 hS,uc hm _⟩
theorem Qr {S M:Nat} {w w':World} {v:Value} {L:List (Int×Int)} (h:yf w v L) (hn:Zu S M w) (hk:vf S M w w'):yf w' v L:=
 uI (R:=PerR) (p:=jP) (fun _ _ _ _ _ hj h=>⟨(hj _).trans h.1,(hj _).trans h.2⟩) (fun _ _ _ _ h=>⟨_,_,h.1,_,_,rfl⟩) h hn.si hn.mi hk
theorem GW {α:Type} {c:α->List Value} {sz:Nat} (hsz:0<sz) (hc:∀x,∃u,(c x)[0]?=some u/\jP u) {S M:Nat} {w w':World} {v:Value} {L:List α} (h:zh c sz w v L) (hn:Zu S M w) (hk:vf S M w w'):zh c sz w' v L:=
 uI (R:=RecR c sz) (p:=jP) (fun _ _ _ _ _ hj h j hjs=>(hj _).trans (h j hjs)) (fun _ _ _ x h=>by
  obtain⟨u,hu,hpu⟩:=hc x;exact⟨_,u,(h 0 hsz).trans hu,hpu⟩) h hn.si hn.mi hk
theorem Ns {l:List Ev} {S M:Nat} {w w':World} {x:HoX} (h:HoRd l w x) (hn:Zu S M w) (hk:vf S M w w'):HoRd l w' x:=⟨Qr h.1 hn hk,h.2⟩
theorem XP {S M:Nat} {w w':World} {v:Value} {L:List ByteArray} (h:zY w v L) (hn:Zu S M w) (hk:vf S M w w'):zY w' v L:=
 uI (R:=StrR) (p:=Gf) (fun _ _ _ _ _ hj h=>⟨(hj _).trans h.1,h.2⟩) (fun _ _ _ _ h=>⟨_,_,h.1,_,rfl⟩) h hn.ss hn.ms hk
theorem NX {S M:Nat} {w w':World} {x:BuX} (h:BuRd w x) (hn:Zu S M w) (hk:vf S M w w'):BuRd w' x:=⟨XP h.z hn hk,h.p,h.len⟩
theorem KN {S M base b:Nat} {L:List Bu} {e:TypeId} {sz n:Nat} {v:Value} {xs:List Value} {w w':World} (h:w.ownsRow b e sz v n xs) (hs:jy S M base L w) (he:e≠108) (hk:vf S M w w'):w'.ownsRow b e sz v n xs:=by
 obtain⟨la,lc,X,h1,-⟩:=hs.row;obtain⟨Kl,k1,-⟩:=hs.has;obtain⟨es,c,hm⟩:=k1.map;obtain⟨g1,g2⟩:=h;refine⟨g1,?_⟩;rcases g2 with g2|⟨g,cap,cur,hv,hg,hh,r⟩;· exact Or.inl g2
 refine Or.inr ⟨g,cap,cur,hv,hg,?_,r⟩;rw[hk.block g (zw hh) ?_ ?_];· exact hh
 · rintro rfl
   rw[hh]at h1;cases h1;exact he rfl
 rintro rfl;rw[hh]at hm;cases hm
structure I5 where
 a:Int
 b:Int
 c:Int
 d:Int
 e:Int
def zC (x:I5):List Value:=[.int .i64 x.a,.int .i64 x.b,.int .i64 x.c,.int .i64 x.d,.int .i64 x.e]
theorem KZ (x:I5):∀u∈zC x,u.oneCell'=true:=by intro u hu;unfold zC at hu;simp only[List.mem_cons,List.not_mem_nil,or_false]at hu;rcases hu with h|h|h|h|h<;>(subst h;rfl)
theorem UO (X:List BuX) (k:Nat) (h:k<X.length):plB (X.take (k+1))=plB (X.take k)++[(X[k]).b]:=by unfold plB;rw[List.take_succ_eq_append_getElem h,List.map_append];rfl
theorem Qq (X Y:List BuX):plB (X++Y)=plB X++plB Y:=List.map_append ..
theorem QO (L:List Bu) (c b:Bu):yi (L++[c]) b=(yi L b||yC c b):=by unfold yi;rw[List.any_append];simp
noncomputable def vX (l:List Ev) (P:List Pd) (ac t:Int) (H:List Had) (c:Int×Int):List (Bu×Int):=H.flatMap fun h=>(yG P ac h (actL h.1 h.2 l) c).filter fun g=>decide (g.1.f<=t)
noncomputable def zL (l:List Ev) (P:List Pd) (ac t:Int) (H:List Had) (O:List (Int×Int)):List (Bu×Int):=O.flatMap (vX l P ac t H)
structure AdFr (S M base B b0:Nat) (l:List Ev) (ac:Int) (cv hv:Value) (O:List (Int×Int)) (H:List HoX) (row:Array Value) (wa ca:Option Addr) (wc cc:Nat) (WL CL:List I5) (L:List Bu) (w0 w:World):Prop where
 st:jy S M base L w
 cyc:yf w cv O
 hos:zh (yj ac) 4 w hv H
 hrd:∀x∈H,HoRd l w x
 box:w.heap[B]?=some (Obj.cells row 45)
 bS:B≠S
 bM:B≠M
 wal:w.ownsRow base 102 5 (.slice wa WL.length wc) WL.length (WL.flatMap zC)
 cnt:w.ownsRow base 104 5 (.slice ca CL.length cc) CL.length (CL.flatMap zC)
 bel:Below b0 w0 w
 sz:b0<=w0.heap.size
 s0:b0<=S
 m0:b0<=M
section
variable {S M base B b0:Nat} {l:List Ev} {ac:Int} {cv hv:Value} {O:List (Int×Int)} {H:List HoX} {row:Array Value} {wa ca:Option Addr} {wc cc:Nat} {WL CL:List I5} {L:List Bu} {w0 w w':World}
theorem AdFr.go (h:AdFr S M base B b0 l ac cv hv O H row wa ca wc cc WL CL L w0 w) (hb:Below w.heap.size w w'):AdFr S M base B b0 l ac cv hv O H row wa ca wc cc WL CL L w0 w':=
 ⟨h.st.keep hb,h.cyc.below hb,h.hos.below hb,fun x hx=>⟨(h.hrd x hx).1.below hb,(h.hrd x hx).2⟩,(hb.block _ (zw h.box)).trans h.box,h.bS,h.bM,ze h.wal hb,ze h.cnt hb,h.bel.trans (hb.mono (Nat.le_trans h.sz h.bel.size)),h.sz,h.s0,h.m0⟩
theorem AdFr.two {L':List Bu} (h:AdFr S M base B b0 l ac cv hv O H row wa ca wc cc WL CL L w0 w) (hs:jy S M base L' w') (hk:vf S M w w'):AdFr S M base B b0 l ac cv hv O H row wa ca wc cc WL CL L' w0 w':=
 have hn:=h.st.noCells
 ⟨hs,Qr h.cyc hn hk,GW (by decide) (fun x=>⟨_,rfl,_,_,rfl⟩) h.hos hn hk,fun x hx=>Ns (h.hrd x hx) hn hk,(hk.block _ (zw h.box) h.bS h.bM).trans h.box,h.bS,h.bM,KN h.wal h.st (by decide) hk,KN h.cnt h.st (by decide) hk,h.bel.trans (hk.below (Nat.le_trans h.sz h.bel.size) h.s0 h.m0),h.sz,h.s0,h.m0⟩
end
end Go.Proofs.YtngippiilgdnoaaGreat
namespace Go.Proofs.YtngippiilgdnoaaGreat
open Go.RowKit
theorem Js (x y:BuX) (w:World) (hx:BuRd w x) (hy:BuRd w y) (he:y.b=x.b):Calls Tryz.prog 28 #[ym x,ym y] w fun e w'=>e=.returned (.bool true)/\Below w.heap.size w w':=by
 obtain⟨b0,xa,xn,xv⟩:=x;obtain⟨b,ya,yn,yv⟩:=y;obtain rfl:b=b0:=he;obtain⟨a1,c1,e1,hl1,hm1,-⟩:=hx.z;dsimp only at e1 hl1;injection e1 with q1 q2 q3;subst q1;subst q2;subst q3;obtain⟨a2,c2,e2,hl2,hm2,-⟩:=hy.z;dsimp only at e2 hl2;injection e2 with q1 q2 q3;subst q1;subst q2;subst q3;obtain⟨W,hW,r0,r1,hw0,hz⟩:=yL w (Obj.cells #[.int .i64 b.ac,.int .i64 b.sb,.string b.pr,.int .i64 b.ix,.int .i64 b.kd,.slice xa b.zs.length xv,.int .i64 b.f,.int .i64 b.t,.int .i64 b.un,.int .i64 b.lf,.int .i64 b.pt,.bool b.sh] 60) (Obj.cells #[.int .i64 b.ac,.int .i64 b.sb,.string b.pr,.int .i64 b.ix,.int .i64 b.kd,.slice ya b.zs.length yv,.int .i64 b.f,.int .i64 b.t,.int .i64 b.un,.int .i64 b.lf,.int .i64 b.pt,.bool b.sh] 60);have HW:=zb hW;have R0:=zb r0;have R1:=zb r1;have Hb:=zb hw0;have HX:=zb (hx.z.below hw0);have HY:=zb (hy.z.below hw0);have Hz:=zb hz;have hm1:=hm1.1;have hm2:=hm2.1;unfold maxLen at hm1 hm2;unfold ym;clear hW r0 r1 hw0 hx hy hz;have HAw:=zb (show ∀Z,Below W.heap.size W Z->(Z.cell? ⟨w.heap.size,0,none⟩=some (.int .i64 b.ac)/\Z.cell? ⟨w.heap.size,1,none⟩=some (.int .i64 b.sb)/\Z.cell? ⟨w.heap.size,2,none⟩=some (.string b.pr)/\Z.cell? ⟨w.heap.size,3,none⟩=some (.int .i64 b.ix)/\Z.cell? ⟨w.heap.size,4,none⟩=some (.int .i64 b.kd)/\Z.cell? ⟨w.heap.size,5,none⟩=some (.slice xa b.zs.length xv)/\Z.cell? ⟨w.heap.size,6,none⟩=some (.int .i64 b.f)/\Z.cell? ⟨w.heap.size,7,none⟩=some (.int .i64 b.t)/\Z.cell? ⟨w.heap.size,8,none⟩=some (.int .i64 b.un)/\Z.cell? ⟨w.heap.size,9,none⟩=some (.int .i64 b.lf)/\Z.cell? ⟨w.heap.size,10,none⟩=some (.int .i64 b.pt)/\Z.cell? ⟨w.heap.size,11,none⟩=some (.bool b.sh))/\(Z.cell? ⟨w.heap.size+1,0,none⟩=some (.int .i64 b.ac)/\Z.cell? ⟨w.heap.size+1,1,none⟩=some (.int .i64 b.sb)/\Z.cell? ⟨w.heap.size+1,2,none⟩=some (.string b.pr)/\Z.cell? ⟨w.heap.size+1,3,none⟩=some (.int .i64 b.ix)/\Z.cell? ⟨w.heap.size+1,4,none⟩=some (.int .i64 b.kd)/\Z.cell? ⟨w.heap.size+1,5,none⟩=some (.slice ya b.zs.length yv)/\Z.cell? ⟨w.heap.size+1,6,none⟩=some (.int .i64 b.f)/\Z.cell? ⟨w.heap.size+1,7,none⟩=some (.int .i64 b.t)/\Z.cell? ⟨w.heap.size+1,8,none⟩=some (.int .i64 b.un)/\Z.cell? ⟨w.heap.size+1,9,none⟩=some (.int .i64 b.lf)/\Z.cell? ⟨w.heap.size+1,10,none⟩=some (.int .i64 b.pt)/\Z.cell? ⟨w.heap.size+1,11,none⟩=some (.bool b.sh))from fun Z hZ=>by
  have q0:=(hZ.block _ (by have:=Hz.out;omega)).trans R0.out;have q1:=(hZ.block _ Hz.out).trans R1.out;exact⟨⟨cell_of_row Z _ 0 _ _ _ q0,cell_of_row Z _ 1 _ _ _ q0,cell_of_row Z _ 2 _ _ _ q0,cell_of_row Z _ 3 _ _ _ q0,cell_of_row Z _ 4 _ _ _ q0,cell_of_row Z _ 5 _ _ _ q0,cell_of_row Z _ 6 _ _ _ q0,cell_of_row Z _ 7 _ _ _ q0,cell_of_row Z _ 8 _ _ _ q0,cell_of_row Z _ 9 _ _ _ q0,cell_of_row Z _ 10 _ _ _ q0,cell_of_row Z _ 11 _ _ _ q0⟩,⟨cell_of_row Z _ 0 _ _ _ q1,cell_of_row Z _ 1 _ _ _ q1,cell_of_row Z _ 2 _ _ _ q1,cell_of_row Z _ 3 _ _ _ q1,cell_of_row Z _ 4 _ _ _ q1,cell_of_row Z _ 5 _ _ _ q1,cell_of_row Z _ 6 _ _ _ q1,cell_of_row Z _ 7 _ _ _ q1,cell_of_row Z _ 8 _ _ _ q1,cell_of_row Z _ 9 _ _ _ q1,cell_of_row Z _ 10 _ _ _ q1,cell_of_row Z _ 11 _ _ _ q1⟩⟩);obtain⟨⟨x0,x1,x2,x3,x4,x5,x6,x7,x8,x9,x10,x11⟩,⟨y0,y1,y2,y3,y4,y5,y6,y7,y8,y9,y10,y11⟩⟩:=HAw.out W (Below.refl _ _);go_enter Tryz.func28,Tryz.ntmps28;go_upto_region 1 with(fail);rw[<-HW.out];go_wp2_with fail;go_loopw [5] (fun i wr=>∃k:Nat,k<=b.zs.length/\i=.int .i64 k/\Below W.heap.size W wr) (fun i _=>b.zs.length-(intOf i).toNat);case atStart=>exact⟨0,Nat.zero_le _,rfl,Below.refl _ _⟩
 case round=>
  obtain⟨k,hk,rfl,hb⟩:=hrel;have hk0:(0:Int)<=(k:Int):=Int.natCast_nonneg _;clear x0 x1 x2 x3 x4 x5 x6 x7 x8 x9 x10 x11 y0 y1 y2 y3 y4 y5 y6 y7 y8 y9 y10 y11;by_cases hlt:k<b.zs.length
  · have hk1:(k:Int)<(b.zs.length:Int):=by omega
    obtain⟨av2,cap2,ee,-,-,hxx⟩:=HX.out.below hb;cases ee;obtain⟨b1,o1,rfl,hB1,hxx⟩:=hxx (fun h=>by rw[h]at hlt;cases hlt);obtain⟨u0,-⟩:=hxx k hlt;obtain⟨av3,cap3,ee,-,-,hyy⟩:=HY.out.below hb;cases ee;obtain⟨b2,o2,rfl,hB2,hyy⟩:=hyy (fun h=>by rw[h]at hlt;cases hlt);obtain⟨v0,-⟩:=hyy k hlt;rw[Nat.mul_one]at u0 v0;obtain⟨⟨-,-,-,-,-,s5,-⟩,⟨-,-,-,-,-,t5,-⟩⟩:=HAw.out wr hb;have Hb2:=zb hb;have hn0:w.heap.size<wr.heap.size:=by have:=hb.size;have:=Hz.out;omega
    have hn1:w.heap.size+1<wr.heap.size:=by have:=hb.size;have:=Hz.out;omega
    have f0:=fun p:zd wr=>zd.cell (a:=⟨w.heap.size,5,none⟩) hn0 s5 p;have f1:=fun p:zd wr=>zd.cell (a:=⟨w.heap.size+1,5,none⟩) hn1 t5 p;have f2:=fun p:zd wr=>zd.cell (a:=⟨b1,o1+k,none⟩) hB1 u0 p;have f3:=fun p:zd wr=>zd.cell (a:=⟨b2,o2+k,none⟩) hB2 v0 p;clear hxx hyy hb;generalize b.zs[k]=q at *;go_upto_region 6 with(fail);refine zj (Below.refl wr.heap.size wr) (by kernel_rfl) (by kernel_rfl) ?_;repeat (go_big_quiet_step (fail))
    refine wpQuiet_nil ?_;intro wz hw';have hYa:Below wr.heap.size wr wz:=by obtain⟨pq,rfl⟩:=hw';exact pq.h
    have Hbz:=zb (Hb2.out.trans (hYa.mono Hb2.out.size));clear hw' hYa f0 f1 f2 f3 hn0 hn1 hB1 hB2;obtain⟨⟨-,-,-,-,-,s5,-⟩,⟨-,-,-,-,-,t5,-⟩⟩:=HAw.out wz Hbz.out;go_wp2;exact⟨⟨k+1,hlt,by go_num,Hbz.out⟩,by simp[intOf];omega⟩
  obtain⟨⟨s0,s1,s2,s3,s4,s5,s6,s7,s8,s9,s10,s11⟩,⟨t0,t1,t2,t3,t4,t5,t6,t7,t8,t9,t10,t11⟩⟩:=HAw.out wr hb;have Hb2:=zb (Hb.out.trans (hb.mono (show w.heap.size<=W.heap.size by have:=Hz.out;omega)));clear hb;go_wp2;go_ret;exact⟨rfl,Hb2.out⟩
theorem KJ (v1 v2:Value) (X Y:List BuX) (w:World) (hX:zh zt 12 w v1 X) (hY:zh zt 12 w v2 Y) (hx:∀x∈X,BuRd w x) (hy:∀y∈Y,BuRd w y) (he:plB Y=plB X):Calls Tryz.prog 33 #[v1,v2] w fun e w'=>e=.returned (.bool true)/\Below w.heap.size w w':=by
 have HX:=zb hX;have HY:=zb hY;have Hx:=zb hx;have Hy:=zb hy;have hlen:Y.length=X.length:=by rw[<-qf,he,qf]
 have HE:=zb (show ∀k (h1:k<X.length) (h2:k<Y.length),(Y[k]).b=(X[k]).b from fun k h1 h2=>by
  have h3:(plB Y)[k]?=(plB X)[k]?:=by rw[he]
  unfold plB at h3;rw[List.getElem?_map,List.getElem?_map,List.getElem?_eq_getElem h2,List.getElem?_eq_getElem h1]at h3;exact Option.some.inj h3);obtain⟨a1,c1,rfl,hl1,hm1,-⟩:=hX;obtain⟨a2,c2,rfl,hl2,hm2,-⟩:=hY;have hm1:=hm1.1;have hm2:=hm2.1;unfold maxLen at hm1 hm2;have Hlen:=zb hlen;rw[hlen]at hl2;rw[hlen];clear hx hy he hlen;go_enter Tryz.func33,Tryz.ntmps33;go_wp2_with fail;go_loopw [5] (fun i wr=>∃k:Nat,k<=X.length/\i=.int .i64 k/\Below w.heap.size w wr) (fun i _=>X.length-(intOf i).toNat);case atStart=>exact⟨0,Nat.zero_le _,rfl,Below.refl _ _⟩
 case round=>
  obtain⟨k,hk,rfl,hb⟩:=hrel;have hk0:(0:Int)<=(k:Int):=Int.natCast_nonneg _;by_cases hlt:k<X.length
  · have hk1:(k:Int)<(X.length:Int):=by omega
    have hlt2:k<Y.length:=by have:=Hlen.out;omega
    obtain⟨a3,c3,e3,-,-,hxx⟩:=HX.out.below hb;cases e3;obtain⟨b1,o1,rfl,hB1,hxx⟩:=hxx (fun h=>by rw[h]at hlt;cases hlt);have hxx:=hxx k hlt;obtain⟨a4,c4,e4,-,-,hyy⟩:=HY.out.below hb;injection e4 with q1 q2 q3;subst q1;subst q3;obtain⟨b2,o2,rfl,hB2,hyy⟩:=hyy (fun h=>by rw[h]at hlt2;cases hlt2);have hyy:=hyy k hlt2;obtain⟨qQ0,qQ1,qQ2,qQ3,qQ4,qQ5,qQ6,qQ7,qQ8,qQ9,qQ10,qQ11⟩:=bu12 hxx;have x0:=fun p:zd wr=>zd.cell hB1 qQ0 p;have x1:=fun p:zd wr=>zd.cell hB1 qQ1 p;have x2:=fun p:zd wr=>zd.cell hB1 qQ2 p;have x3:=fun p:zd wr=>zd.cell hB1 qQ3 p;have x4:=fun p:zd wr=>zd.cell hB1 qQ4 p;have x5:=fun p:zd wr=>zd.cell hB1 qQ5 p;have x6:=fun p:zd wr=>zd.cell hB1 qQ6 p;have x7:=fun p:zd wr=>zd.cell hB1 qQ7 p;have x8:=fun p:zd wr=>zd.cell hB1 qQ8 p;have x9:=fun p:zd wr=>zd.cell hB1 qQ9 p;have x10:=fun p:zd wr=>zd.cell hB1 qQ10 p;have x11:=fun p:zd wr=>zd.cell hB1 qQ11 p;clear qQ0 qQ1 qQ2 qQ3 qQ4 qQ5 qQ6 qQ7 qQ8 qQ9 qQ10 qQ11;obtain⟨qQ0,qQ1,qQ2,qQ3,qQ4,qQ5,qQ6,qQ7,qQ8,qQ9,qQ10,qQ11⟩:=bu12 hyy;have y0:=fun p:zd wr=>zd.cell hB2 qQ0 p;have y1:=fun p:zd wr=>zd.cell hB2 qQ1 p;have y2:=fun p:zd wr=>zd.cell hB2 qQ2 p;have y3:=fun p:zd wr=>zd.cell hB2 qQ3 p;have y4:=fun p:zd wr=>zd.cell hB2 qQ4 p;have y5:=fun p:zd wr=>zd.cell hB2 qQ5 p;have y6:=fun p:zd wr=>zd.cell hB2 qQ6 p;have y7:=fun p:zd wr=>zd.cell hB2 qQ7 p;have y8:=fun p:zd wr=>zd.cell hB2 qQ8 p;have y9:=fun p:zd wr=>zd.cell hB2 qQ9 p;have y10:=fun p:zd wr=>zd.cell hB2 qQ10 p;have y11:=fun p:zd wr=>zd.cell hB2 qQ11 p;clear qQ0 qQ1 qQ2 qQ3 qQ4 qQ5 qQ6 qQ7 qQ8 qQ9 qQ10 qQ11;have HQ:=zb (HE.out k hlt hlt2);have HRx:=zb ((Hx.out _ (List.getElem_mem hlt)).below hb);have HRy:=zb ((Hy.out _ (List.getElem_mem hlt2)).below hb);have Hb2:=zb hb;clear hxx hyy hb q2;generalize X[k]=x at *;generalize Y[k]=y at *;have HS:=zb (fun w1 (hb:Below wr.heap.size wr w1)=>Js x y w1 (HRx.out.below hb) (HRy.out.below hb) HQ.out);unfold ym at HS;go_upto_region 6 with(fail);refine zj (Below.refl wr.heap.size wr) (by kernel_rfl) (by kernel_rfl) ?_;repeat (go_big_quiet_step (first|(go_at_call 28;refine zy (HS.out _ (by first|assumption|exact zd.h (by assumption))) (fun e w' h=>h))))
    refine wpQuiet_nil ?_;intro wz hw';have hYa:Below wr.heap.size wr wz:=by obtain⟨pq,rfl⟩:=hw';exact pq.h
    have Hbz:=zb (Hb2.out.trans (hYa.mono Hb2.out.size));clear hw' hYa x0 x1 x2 x3 x4 x5 x6 x7 x8 x9 x10 x11 y0 y1 y2 y3 y4 y5 y6 y7 y8 y9 y10 y11 hB1 hB2;go_wp2;exact⟨⟨k+1,hlt,by go_num,Hbz.out⟩,by simp[intOf];omega⟩
  have Hb2:=zb hb;clear hb;go_wp2;go_ret;exact⟨rfl,Hb2.out⟩
theorem KI (X Y:List BuX) (WL CL:List I5) (sa wa ca sa2 wa2 ca2:Option Addr) (sc wc cc sc2 wc2 cc2:Nat) (w:World) (hX:zh zt 12 w (.slice sa X.length sc) X) (hY:zh zt 12 w (.slice sa2 Y.length sc2) Y) (hx:∀x∈X,BuRd w x) (hy:∀y∈Y,BuRd w y) (he:plB Y=plB X)
 (hW1:zh zC 5 w (.slice wa WL.length wc) WL) (hW2:zh zC 5 w (.slice wa2 WL.length wc2) WL) (hC1:zh zC 5 w (.slice ca CL.length cc) CL) (hC2:zh zC 5 w (.slice ca2 CL.length cc2) CL):
 Calls Tryz.prog 21 #[.agg #[.slice sa X.length sc,.slice wa WL.length wc,.slice ca CL.length cc],.agg #[.slice sa2 Y.length sc2,.slice wa2 WL.length wc2,.slice ca2 CL.length cc2]] w fun e w'=>e=.returned (.bool true)/\Below w.heap.size w w':=by
 obtain⟨W,hW,r0,r1,hw0,hz⟩:=yL w (Obj.cells #[.slice sa X.length sc,.slice wa WL.length wc,.slice ca CL.length cc] 45) (Obj.cells #[.slice sa2 Y.length sc2,.slice wa2 WL.length wc2,.slice ca2 CL.length cc2] 45);have HW:=zb hW;have R0:=zb r0;have R1:=zb r1;have Hb:=zb hw0;have Hz:=zb hz;have HS:=zb (KJ _ _ X Y W (hX.below hw0) (hY.below hw0) (fun x h=>(hx x h).below hw0) (fun x h=>(hy x h).below hw0) he);have HW1:=zb (hW1.below hw0);have HW2:=zb (hW2.below hw0);have HC1:=zb (hC1.below hw0);have HC2:=zb (hC2.below hw0);obtain⟨a1,c1,e1,l1,m1,-⟩:=hX;cases e1;obtain⟨a1,c1,e1,l2,m2,-⟩:=hY;cases e1;obtain⟨a1,c1,e1,l3,m3,-⟩:=hW1;cases e1;obtain⟨a1,c1,e1,l4,m4,-⟩:=hW2;cases e1;obtain⟨a1,c1,e1,l5,m5,-⟩:=hC1;cases e1;obtain⟨a1,c1,e1,l6,m6,-⟩:=hC2;cases e1;have m1:=m1.1;have m2:=m2.1;have m3:=m3.1;have m4:=m4.1;have m5:=m5.1;have m6:=m6.1;unfold maxLen at m1 m2 m3 m4 m5 m6;have HAw:=zb (show ∀Z,Below W.heap.size W Z->(Z.cell? ⟨w.heap.size,0,none⟩=some (.slice sa X.length sc)/\Z.cell? ⟨w.heap.size,1,none⟩=some (.slice wa WL.length wc)/\Z.cell? ⟨w.heap.size,2,none⟩=some (.slice ca CL.length cc))/\(Z.cell? ⟨w.heap.size+1,0,none⟩=some (.slice sa2 Y.length sc2)/\Z.cell? ⟨w.heap.size+1,1,none⟩=some (.slice wa2 WL.length wc2)/\Z.cell? ⟨w.heap.size+1,2,none⟩=some (.slice ca2 CL.length cc2))from fun Z hZ=>by
  have q0:=(hZ.block _ (by have:=Hz.out;omega)).trans R0.out;have q1:=(hZ.block _ Hz.out).trans R1.out;exact⟨⟨cell_of_row Z _ 0 _ _ _ q0,cell_of_row Z _ 1 _ _ _ q0,cell_of_row Z _ 2 _ _ _ q0⟩,⟨cell_of_row Z _ 0 _ _ _ q1,cell_of_row Z _ 1 _ _ _ q1,cell_of_row Z _ 2 _ _ _ q1⟩⟩);clear hW r0 r1 hw0 hx hy hz he;obtain⟨⟨s0,s1,s2⟩,⟨t0,t1,t2⟩⟩:=HAw.out W (Below.refl _ _);go_enter Tryz.func21,Tryz.ntmps21;go_upto_region 1 with(fail);rw[<-HW.out];go_wp2_with fail;refine HS.out.mono ?_;rintro e w1 ⟨rfl,hb1⟩;dsimp only;have Hb1:=zb hb1;clear s0 s1 s2 t0 t1 t2 hb1;obtain⟨⟨s0,s1,s2⟩,⟨t0,t1,t2⟩⟩:=HAw.out w1 Hb1.out;go_wp2_with fail;clear s0 s1 s2 t0 t1 t2;go_loopw [5] (fun i wr=>∃k:Nat,k<=WL.length/\i=.int .i64 k/\Below W.heap.size W wr) (fun i _=>WL.length-(intOf i).toNat);case atStart=>exact⟨0,Nat.zero_le _,rfl,Hb1.out⟩
 case round=>
  obtain⟨wi,rfl⟩:∃wi:World,wi=wr:=⟨_,rfl⟩;obtain⟨k,hk,rfl,hb⟩:=hrel;have hk0:(0:Int)<=(k:Int):=Int.natCast_nonneg _;obtain⟨⟨s0,s1,s2⟩,⟨t0,t1,t2⟩⟩:=HAw.out wi hb;by_cases hlt:k<WL.length
  · have hk1:(k:Int)<(WL.length:Int):=by omega
    obtain⟨a3,c3,e3,-,-,hxx⟩:=HW1.out.below hb;cases e3;obtain⟨b1,o1,rfl,hB1,hxx⟩:=hxx (fun h=>by rw[h]at hlt;cases hlt);have hxx:=hxx k hlt;obtain⟨a4,c4,e4,-,-,hyy⟩:=HW2.out.below hb;cases e4;obtain⟨b2,o2,rfl,hB2,hyy⟩:=hyy (fun h=>by rw[h]at hlt;cases hlt);have hyy:=hyy k hlt;have x0:=fun p:zd wi=>zd.cell (a:=⟨b1,o1+k*5,none⟩) hB1 (show wi.cell? ⟨b1,o1+k*5,none⟩=some (.int .i64 (WL[k]).a)from hxx 0 (by decide)) p;have y0:=fun p:zd wi=>zd.cell (a:=⟨b2,o2+k*5,none⟩) hB2 (show wi.cell? ⟨b2,o2+k*5,none⟩=some (.int .i64 (WL[k]).a)from hyy 0 (by decide)) p;have x1:=fun p:zd wi=>zd.cell (a:=⟨b1,o1+k*5+1,none⟩) hB1 (show wi.cell? ⟨b1,o1+k*5+1,none⟩=some (.int .i64 (WL[k]).b)from hxx 1 (by decide)) p;have y1:=fun p:zd wi=>zd.cell (a:=⟨b2,o2+k*5+1,none⟩) hB2 (show wi.cell? ⟨b2,o2+k*5+1,none⟩=some (.int .i64 (WL[k]).b)from hyy 1 (by decide)) p;have x2:=fun p:zd wi=>zd.cell (a:=⟨b1,o1+k*5+2,none⟩) hB1 (show wi.cell? ⟨b1,o1+k*5+2,none⟩=some (.int .i64 (WL[k]).c)from hxx 2 (by decide)) p;have y2:=fun p:zd wi=>zd.cell (a:=⟨b2,o2+k*5+2,none⟩) hB2 (show wi.cell? ⟨b2,o2+k*5+2,none⟩=some (.int .i64 (WL[k]).c)from hyy 2 (by decide)) p;have x3:=fun p:zd wi=>zd.cell (a:=⟨b1,o1+k*5+3,none⟩) hB1 (show wi.cell? ⟨b1,o1+k*5+3,none⟩=some (.int .i64 (WL[k]).d)from hxx 3 (by decide)) p;have y3:=fun p:zd wi=>zd.cell (a:=⟨b2,o2+k*5+3,none⟩) hB2 (show wi.cell? ⟨b2,o2+k*5+3,none⟩=some (.int .i64 (WL[k]).d)from hyy 3 (by decide)) p;have x4:=fun p:zd wi=>zd.cell (a:=⟨b1,o1+k*5+4,none⟩) hB1 (show wi.cell? ⟨b1,o1+k*5+4,none⟩=some (.int .i64 (WL[k]).e)from hxx 4 (by decide)) p;have y4:=fun p:zd wi=>zd.cell (a:=⟨b2,o2+k*5+4,none⟩) hB2 (show wi.cell? ⟨b2,o2+k*5+4,none⟩=some (.int .i64 (WL[k]).e)from hyy 4 (by decide)) p;have hn0:w.heap.size<wi.heap.size:=by have:=hb.size;have:=Hz.out;omega
    have hn1:w.heap.size+1<wi.heap.size:=by have:=hb.size;have:=Hz.out;omega
    have f0:=fun p:zd wi=>zd.cell (a:=⟨w.heap.size,1,none⟩) hn0 s1 p;have f1:=fun p:zd wi=>zd.cell (a:=⟨w.heap.size+1,1,none⟩) hn1 t1 p;have Hb2:=zb hb;clear hxx hyy hb;generalize WL[k]=q at *;go_upto_region 6 with(fail);refine zj (Below.refl wi.heap.size wi) (by kernel_rfl) (by kernel_rfl) ?_;repeat (go_big_quiet_step (fail))
    refine wpQuiet_nil ?_;intro wz hw';have hYa:Below wi.heap.size wi wz:=by obtain⟨pq,rfl⟩:=hw';exact pq.h
    have Hbz:=zb (Hb2.out.trans (hYa.mono Hb2.out.size));clear hw' hYa f0 f1 x0 x1 x2 x3 x4 y0 y1 y2 y3 y4 hn0 hn1 hB1 hB2 s0 s1 s2 t0 t1 t2;go_wp2;exact⟨⟨k+1,hlt,by go_num,Hbz.out⟩,by simp[intOf];omega⟩
  have Hb2:=zb hb;clear hb;have Hb3:=Hb2;go_wp2_with fail;clear s0 s1 s2 t0 t1 t2;go_loopw [6] (fun i wr=>∃k:Nat,k<=CL.length/\i=.int .i64 k/\Below W.heap.size W wr) (fun i _=>CL.length-(intOf i).toNat);case atStart=>exact⟨0,Nat.zero_le _,rfl,Hb3.out⟩
  case round=>
   obtain⟨wi,rfl⟩:∃wi:World,wi=wr:=⟨_,rfl⟩;obtain⟨k,hk,rfl,hb⟩:=hrel;have hk0:(0:Int)<=(k:Int):=Int.natCast_nonneg _;obtain⟨⟨s0,s1,s2⟩,⟨t0,t1,t2⟩⟩:=HAw.out wi hb;by_cases hlt:k<CL.length
   · have hk1:(k:Int)<(CL.length:Int):=by omega
     obtain⟨a3,c3,e3,-,-,hxx⟩:=HC1.out.below hb;cases e3;obtain⟨b1,o1,rfl,hB1,hxx⟩:=hxx (fun h=>by rw[h]at hlt;cases hlt);have hxx:=hxx k hlt;obtain⟨a4,c4,e4,-,-,hyy⟩:=HC2.out.below hb;cases e4;obtain⟨b2,o2,rfl,hB2,hyy⟩:=hyy (fun h=>by rw[h]at hlt;cases hlt);have hyy:=hyy k hlt;have x0:=fun p:zd wi=>zd.cell (a:=⟨b1,o1+k*5,none⟩) hB1 (show wi.cell? ⟨b1,o1+k*5,none⟩=some (.int .i64 (CL[k]).a)from hxx 0 (by decide)) p;have y0:=fun p:zd wi=>zd.cell (a:=⟨b2,o2+k*5,none⟩) hB2 (show wi.cell? ⟨b2,o2+k*5,none⟩=some (.int .i64 (CL[k]).a)from hyy 0 (by decide)) p;have x1:=fun p:zd wi=>zd.cell (a:=⟨b1,o1+k*5+1,none⟩) hB1 (show wi.cell? ⟨b1,o1+k*5+1,none⟩=some (.int .i64 (CL[k]).b)from hxx 1 (by decide)) p;have y1:=fun p:zd wi=>zd.cell (a:=⟨b2,o2+k*5+1,none⟩) hB2 (show wi.cell? ⟨b2,o2+k*5+1,none⟩=some (.int .i64 (CL[k]).b)from hyy 1 (by decide)) p;have x2:=fun p:zd wi=>zd.cell (a:=⟨b1,o1+k*5+2,none⟩) hB1 (show wi.cell? ⟨b1,o1+k*5+2,none⟩=some (.int .i64 (CL[k]).c)from hxx 2 (by decide)) p;have y2:=fun p:zd wi=>zd.cell (a:=⟨b2,o2+k*5+2,none⟩) hB2 (show wi.cell? ⟨b2,o2+k*5+2,none⟩=some (.int .i64 (CL[k]).c)from hyy 2 (by decide)) p;have x3:=fun p:zd wi=>zd.cell (a:=⟨b1,o1+k*5+3,none⟩) hB1 (show wi.cell? ⟨b1,o1+k*5+3,none⟩=some (.int .i64 (CL[k]).d)from hxx 3 (by decide)) p;have y3:=fun p:zd wi=>zd.cell (a:=⟨b2,o2+k*5+3,none⟩) hB2 (show wi.cell? ⟨b2,o2+k*5+3,none⟩=some (.int .i64 (CL[k]).d)from hyy 3 (by decide)) p;have x4:=fun p:zd wi=>zd.cell (a:=⟨b1,o1+k*5+4,none⟩) hB1 (show wi.cell? ⟨b1,o1+k*5+4,none⟩=some (.int .i64 (CL[k]).e)from hxx 4 (by decide)) p;have y4:=fun p:zd wi=>zd.cell (a:=⟨b2,o2+k*5+4,none⟩) hB2 (show wi.cell? ⟨b2,o2+k*5+4,none⟩=some (.int .i64 (CL[k]).e)from hyy 4 (by decide)) p;have hn0:w.heap.size<wi.heap.size:=by have:=hb.size;have:=Hz.out;omega
     have hn1:w.heap.size+1<wi.heap.size:=by have:=hb.size;have:=Hz.out;omega
     have f0:=fun p:zd wi=>zd.cell (a:=⟨w.heap.size,2,none⟩) hn0 s2 p;have f1:=fun p:zd wi=>zd.cell (a:=⟨w.heap.size+1,2,none⟩) hn1 t2 p;have Hb2:=zb hb;clear hxx hyy hb;generalize CL[k]=q at *;go_upto_region 11 with(fail);refine zj (Below.refl wi.heap.size wi) (by kernel_rfl) (by kernel_rfl) ?_;repeat (go_big_quiet_step (fail))
     refine wpQuiet_nil ?_;intro wz hw';have hYa:Below wi.heap.size wi wz:=by obtain⟨pq,rfl⟩:=hw';exact pq.h
     have Hbz:=zb (Hb2.out.trans (hYa.mono Hb2.out.size));clear hw' hYa f0 f1 x0 x1 x2 x3 x4 y0 y1 y2 y3 y4 hn0 hn1 hB1 hB2 s0 s1 s2 t0 t1 t2;go_wp2;exact⟨⟨k+1,hlt,by go_num,Hbz.out⟩,by simp[intOf];omega⟩
   have Hb2:=zb hb;clear hb;go_wp2;go_ret;exact⟨rfl,Hb.out.trans (Hb2.out.mono (show w.heap.size<=W.heap.size by have:=Hz.out;omega))⟩
end Go.Proofs.YtngippiilgdnoaaGreat
namespace Go.Proofs.YtngippiilgdnoaaGreat
open Go.RowKit Go.Maps
theorem Jn {w:World} {o:Oper} {a:Act} {K:Act->World->Prop} {Q:Exit->Act->World->Prop} (s x:Operand)
 (ho:o.op=.call { callee:=.builtin .append,args:=#[s,x],argTypes:=#[41,41] })
 (base:Nat) (hbase:base<=w.heap.size) (v:Value) (L:List BuX) (hs:a.eval s=v) (hown:w.ownsRow base 60 12 v L.length (L.flatMap zt)) (z:BuX) (g:Nat) (hx:a.eval x=.slice (some ⟨g,0,none⟩) 1 1) (hz:w.heap[g]?=some (Obj.cells #[.int .i64 z.b.ac,.int .i64 z.b.sb,.string z.b.pr,.int .i64 z.b.ix,.int .i64 z.b.kd,.slice z.za z.zn z.zc,.int .i64 z.b.f,.int .i64 z.b.t,.int .i64 z.b.un,.int .i64 z.b.lf,.int .i64 z.b.pt,.bool z.b.sh] 60)) (hlen:L.length<=900000)
 (h:∀v' w',w'.ownsRow base 60 12 v' (L++[z]).length ((L++[z]).flatMap zt)->w.grownBy w' v.ownBlock->K (a.put o.dst v') w'):o.wp Tryz.prog a w K Q:=by
 obtain⟨i0,hi,hz0,hz1,hz2⟩:=info_parts Tryz.buInfo;obtain⟨a2,c2,e,-,-,hx2⟩:=Xz hz z rfl;cases e;refine wp_append_own w s x _ ho base 60 i0 _ 12 120 Tryz.underlying41 hi hz0 hz1 hz2 rfl (by decide) v L.length _ hs hown ⟨g,0,none⟩ 1 1 (zt z) hx rfl ?_ (NW z) (by unfold maxLen;omega) (by omega) hbase ?_
 · intro j u hj
   have hjl:j<12:=(List.getElem?_eq_some_iff.1 hj).1;obtain⟨b,o,e,-,hx3⟩:=hx2 (by simp);cases e;have q:=hx3 0 (by simp) j hjl;rw[show(⟨g,0,none⟩:Addr).add j=⟨g,0+0*12+j,none⟩ by unfold Addr.add;split<;>simp_all];exact q.trans hj
 intro v' w' h1 h2 _;refine h v' w' ?_ h2;rw[List.length_append,List.flatMap_append,List.flatMap_singleton];exact h1
def XE (S base n:Nat) (vr:Value) (x:BuX) (R:List BuX):Nat->Value->World->Prop
 |0,v,_=>v=.pointer (some ⟨S,0,none⟩)
 |1,v,_=>v=.pointer (some ⟨S,0,none⟩)
 |2,v,_=>v=.pointer (some ⟨S,0,none⟩)
 |3,v,_=>v=.pointer (some ⟨S,0,none⟩)
 |4,v,_=>v=vr
 |5,v,_=>v=ym x
 |6,v,w=>∃z,v=ym z/\z.b=x.b/\BuO base w z
 |7,v,w=>∃z g,v=.slice (some ⟨g,0,none⟩) 1 1/\z.b=x.b/\BuO base w z/\n<=g/\w.heap[g]?=some (Obj.cells #[.int .i64 z.b.ac,.int .i64 z.b.sb,.string z.b.pr,.int .i64 z.b.ix,.int .i64 z.b.kd,.slice z.za z.zn z.zc,.int .i64 z.b.f,.int .i64 z.b.t,.int .i64 z.b.un,.int .i64 z.b.lf,.int .i64 z.b.pt,.bool z.b.sh] 60)
 |8,v,w=>∃z a c,v=.slice a (R++[z]).length c/\z.b=x.b/\BuO base w z/\w.ownsRow base 60 12 (.slice a (R++[z]).length c) (R++[z]).length ((R++[z]).flatMap zt)
 |_,_,_=>True
theorem qS {S base n:Nat} {vr:Value} {x:BuX} {R:List BuX} {w1 w2:World} (hb:Below w1.heap.size w1 w2):∀kQ yQ,XE S base n vr x R kQ yQ w1->XE S base n vr x R kQ yQ w2
 |0,_,h=>h
 |1,_,h=>h
 |2,_,h=>h
 |3,_,h=>h
 |4,_,h=>h
 |5,_,h=>h
 |6,_,h=>(by obtain⟨z,h1,h2,h3⟩:=h;exact⟨z,h1,h2,h3.below hb⟩)
 |7,_,h=>(by obtain⟨z,g,h1,h2,h3,h4,h5⟩:=h;exact⟨z,g,h1,h2,h3.below hb,h4,(hb.block _ (zw h5)).trans h5⟩)
 |8,_,h=>(by obtain⟨z,a,c,h1,h2,h3,h4⟩:=h;exact⟨z,a,c,h1,h2,h3.below hb,ze h4 hb⟩)
 |_+9,_,_=>trivial
theorem XD {S base n:Nat} {vr:Value} {x:BuX} {R:List BuX} {w1 w2:World} (ho:w1.ownsRow base 60 12 vr R.length (R.flatMap zt)) (hg:w1.grownBy w2 vr.ownBlock) (hn:∀g,vr.ownBlock=some g->g<n):∀k y,k≠8->XE S base n vr x R k y w1->XE S base n vr x R k y w2
 |0,_,_,h=>h
 |1,_,_,h=>h
 |2,_,_,h=>h
 |3,_,_,h=>h
 |4,_,_,h=>h
 |5,_,_,h=>h
 |6,_,_,⟨z,h1,h2,h3⟩=>⟨z,h1,h2,h3.growT ho (by decide) hg⟩
 |7,_,_,⟨z,g,h1,h2,h3,h4,h5⟩=>⟨z,g,h1,h2,h3.growT ho (by decide) hg,h4,(hg.block _ (zw h5) (fun e=>absurd (hn g e.symm) (by omega))).trans h5⟩
 |8,_,hk,_=>absurd rfl hk
 |_+9,_,_,_=>trivial
def avC (Y:World) (rb:Option Nat):Bool->World->Prop
 |false,w=>Below Y.heap.size Y w
 |true,w=>Y.grownBy w rb
theorem avC.grown {Y w:World} {rb:Option Nat} {b:Bool} (h:avC Y rb b w):Y.grownBy w rb:=by
 cases b with
 |true=>exact h
 |false=>have h:Below Y.heap.size Y w:=h;exact⟨h.os,h.tape,h.output,h.size,fun k hk _=>h.block k hk⟩
theorem avC.below {Y w w':World} {rb:Option Nat} {b:Bool} (h:avC Y rb b w) (hb:Below w.heap.size w w'):avC Y rb b w':=by
 cases b with
 |true=>have h:Y.grownBy w rb:=h;exact⟨hb.os.trans h.os,hb.tape.trans h.tape,hb.output.trans h.output,Nat.le_trans h.size hb.size,fun k hk hn=>(hb.block k (Nat.lt_of_lt_of_le hk h.size)).trans (h.block k hk hn)⟩
 |false=>exact Below.trans (show Below Y.heap.size Y w from h) (hb.mono (show Below Y.heap.size Y w from h).size)
theorem avC.app {Y w w':World} {rb:Option Nat} (h:avC Y rb false w) (hg:w.grownBy w' rb):avC Y rb true w':=by have h:Below Y.heap.size Y w:=h;exact⟨hg.os.trans h.os,hg.tape.trans h.tape,hg.output.trans h.output,Nat.le_trans h.size hg.size,fun k hk hn=>(hg.block k (Nat.lt_of_lt_of_le hk h.size) hn).trans (h.block k hk)⟩
def xg (b7 base n:Nat) (wa ca:Option Addr) (wc cc:Nat) (WL CL:List I5):Nat->Value->World->Prop
 |0,v,_=>v=.pointer (some ⟨b7,1,none⟩)
 |1,v,_=>v=.slice wa WL.length wc
 |2,v,w=>∃a c,v=.slice a WL.length c/\w.ownsRow base 102 5 (.slice a WL.length c) WL.length (WL.flatMap zC)
 |3,v,_=>v=.pointer (some ⟨b7,2,none⟩)
 |4,v,_=>v=.slice ca CL.length cc
 |5,v,w=>∃a c,v=.slice a CL.length c/\w.ownsRow base 104 5 (.slice a CL.length c) CL.length (CL.flatMap zC)
 |6,v,w=>∃a c a2 c2,v=.agg #[.slice none 0 0,.slice a WL.length c,.slice a2 CL.length c2]/\w.ownsRow base 102 5 (.slice a WL.length c) WL.length (WL.flatMap zC)/\w.ownsRow base 104 5 (.slice a2 CL.length c2) CL.length (CL.flatMap zC)
 |7,v,w=>∃g cs,v=.pointer (some ⟨g,0,none⟩)/\n<=g/\w.heap[g]?=some (Obj.cells cs 45)/\cs.size=3
 |_,_,_=>True
theorem qx {b7 base n:Nat} {wa ca:Option Addr} {wc cc:Nat} {WL CL:List I5} {w1 w2:World} (hb:Below w1.heap.size w1 w2):∀kQ yQ,xg b7 base n wa ca wc cc WL CL kQ yQ w1->xg b7 base n wa ca wc cc WL CL kQ yQ w2
 |0,_,h=>h
 |1,_,h=>h
 |2,_,h=>(by obtain⟨a,c,h1,h2⟩:=h;exact⟨a,c,h1,ze h2 hb⟩)
 |3,_,h=>h
 |4,_,h=>h
 |5,_,h=>(by obtain⟨a,c,h1,h2⟩:=h;exact⟨a,c,h1,ze h2 hb⟩)
 |6,_,h=>(by obtain⟨a,c,a2,c2,h1,h2,h3⟩:=h;exact⟨a,c,a2,c2,h1,ze h2 hb,ze h3 hb⟩)
 |7,_,h=>(by obtain⟨g,cs,h1,h2,h3,h4⟩:=h;exact⟨g,cs,h1,h2,(hb.block _ (zw h3)).trans h3,h4⟩)
 |_+8,_,_=>trivial
theorem Tryz.walInfo:(Tryz.prog.info? 102).map (fun i=>(i.zero,i.size,i.bytes))=some (some (.agg #[.int .i64 0,.int .i64 0,.int .i64 0,.int .i64 0,.int .i64 0]),5,40):=by kernel_rfl
theorem Tryz.cntInfo:(Tryz.prog.info? 104).map (fun i=>(i.zero,i.size,i.bytes))=some (some (.agg #[.int .i64 0,.int .i64 0,.int .i64 0,.int .i64 0,.int .i64 0]),5,40):=by kernel_rfl
end Go.Proofs.YtngippiilgdnoaaGreat
namespace Go.Proofs.YtngippiilgdnoaaGreat
open Go.RowKit
def CosTo (L:List Bu) (w:World) (e:Ending) (w':World):Prop:=∃(a:Option Addr) (c:Nat) (X:List BuX),e=.returned (.slice a X.length c)/\w'.ownsRow w.heap.size 60 12 (.slice a X.length c) X.length (X.flatMap zt)/\plB X=L/\(∀x∈X,BuO w.heap.size w' x)/\Below w.heap.size w w'
theorem Jy (v:Value) (X:List BuX) (w:World) (hX:zh zt 12 w v X) (hx:∀x∈X,BuRd w x) (hl:X.length<=400000):Calls Tryz.prog 97 #[v] w (CosTo (plB X) w):=by
 have HX:=zb hX;have Hx:=zb hx;obtain⟨av,cap,rfl,hl1,hm1,-⟩:=hX;have hm1:=hm1.1;unfold maxLen at hm1;clear hx;go_enter Tryz.func97,Tryz.ntmps97;go_wp2_with fail;go_loopw [3,4] (fun vo i wr=>∃(k:Nat) (R:List BuX) (ra:Option Addr) (rc:Nat),k<=X.length/\i=.int .i64 k/\vo=.slice ra R.length rc/\wr.ownsRow w.heap.size 60 12 (.slice ra R.length rc) R.length (R.flatMap zt)/\RowKit.Hid (plB R=plB (X.take k))/\RowKit.Hid (∀r∈R,BuO w.heap.size wr r)/\Below w.heap.size w wr) (fun _ i _=>X.length-(intOf i).toNat);case atStart=>exact⟨0,[],none,0,Nat.zero_le _,rfl,rfl,World.ownsRow_nil _ _ _ _,zb rfl,zb (fun r hr=>by cases hr),Below.refl _ _⟩
 case round=>
  obtain⟨k,R,ra,rc,hk,rfl,rfl,hown,HPl,HRb,hb⟩:=hrel;have hk0:(0:Int)<=(k:Int):=Int.natCast_nonneg _;have Hown:=zb hown;have Hb:=zb hb;have hRl:R.length<=k:=by rw[<-qf,HPl.out,qf,List.length_take];omega
  by_cases hlt:k<X.length
  · have hk1:(k:Int)<(X.length:Int):=by omega
    obtain⟨a3,c3,e3,-,-,hxx⟩:=HX.out.below hb;cases e3;obtain⟨b1,o1,rfl,hB1,hxx⟩:=hxx (fun h=>by rw[h]at hlt;cases hlt);have hxx:=hxx k hlt;obtain⟨x0,x1,x2,x3,x4,x5,x6,x7,x8,x9,x10,x11⟩:=bu12 hxx;have HRd:=zb ((Hx.out _ (List.getElem_mem hlt)).below hb);have HTk:=zb (UO X k hlt);have hbs:=hb.size;clear hxx hb hown;generalize X[k]=x at *;have HC:=zb (Vp x wr HRd.out);unfold ym at HC;go_wp2_with fail;refine HC.out.mono ?_;rintro e w2 ⟨z,rfl,hz,hzo,hb2⟩;have Hz:=zb hz;unfold ym;have hbs2:=Nat.le_trans hbs hb2.size;have Own2:=zb (ze Hown.out hb2);have Hzo:=zb (hzo.down hbs);have HRb2:=zb (show ∀r∈R,BuO w.heap.size w2 r from fun r hr=>(HRb.out r hr).below hb2);have HX2:=zb (zh.one (c:=zt) (sz:=12) w2 z 60 #[.int .i64 z.b.ac,.int .i64 z.b.sb,.string z.b.pr,.int .i64 z.b.ix,.int .i64 z.b.kd,.slice z.za z.zn z.zc,.int .i64 z.b.f,.int .i64 z.b.t,.int .i64 z.b.un,.int .i64 z.b.lf,.int .i64 z.b.pt,.bool z.b.sh] rfl);have Hb2:=zb (Hb.out.trans (hb2.mono hbs));clear hz hzo hb2 x0 x1 x2 x3 x4 x5 x6 x7 x8 x9 x10 x11;go_wp2_with (at_builtin;refine yz rfl _ _ rfl w.heap.size (Nat.le_trans hbs2 (World.le_alloc _ _)) _ _ R [z] rfl rfl (Own2.out.alloc _) HX2.out (by rw[List.length_singleton];omega) ?_);intro R6 hR6 v6 w6 own6 hg6;have hal:=(Below.refl w2.heap.size w2).alloc (Nat.le_refl _) (Obj.cells #[.int .i64 z.b.ac,.int .i64 z.b.sb,.string z.b.pr,.int .i64 z.b.ix,.int .i64 z.b.kd,.slice z.za z.zn z.zc,.int .i64 z.b.f,.int .i64 z.b.t,.int .i64 z.b.un,.int .i64 z.b.lf,.int .i64 z.b.pt,.bool z.b.sh] 60);have HF:=zb (show w6.ownsRow w.heap.size 60 12 v6 R6.length (R6.flatMap zt)/\plB R6=plB (X.take (k+1))/\(∀r∈R6,BuO w.heap.size w6 r)/\Below w.heap.size w w6 from by
     refine⟨own6,by rw[hR6.out,Qq,HPl.out,HTk.out];unfold plB;rw[List.map_singleton,Hz.out],fun r hr=>?_,?_⟩
     · have h1:BuO w.heap.size w2 r:=by
        rw[hR6.out,List.mem_append]at hr;rcases hr with hr|hr;· exact HRb2.out r hr
        rw[List.mem_singleton.1 hr];exact Hzo.out
       exact(h1.below hal).growT (Own2.out.alloc _) (by decide) hg6
     exact(Hb2.out.trans (hal.mono hbs2)).grown hg6 (Nat.le_trans hbs2 (World.le_alloc _ _)) (fun g hg=>(zg Own2.out g hg).1));obtain⟨a6,c6,rfl,-,-⟩:=zf own6;clear own6 hg6 hR6 hal;go_wp2;exact⟨⟨k+1,R6,a6,c6,hlt,by go_num,rfl,HF.out.1,zb HF.out.2.1,zb HF.out.2.2.1,HF.out.2.2.2⟩,by simp[intOf];omega⟩
  have HPe:=zb (show plB R=plB X by rw[HPl.out,List.take_of_length_le (by omega)]);clear hb hown;go_wp2;go_ret;exact⟨ra,rc,R,rfl,Hown.out,HPe.out,HRb.out,Hb.out⟩
noncomputable def grH (l:List Ev) (P:List Pd) (ac t:Int) (c:Int×Int) (h:Had):List (Bu×Int):=(yG P ac h (actL h.1 h.2 l) c).filter fun g=>decide (g.1.f<=t)
noncomputable def preG (l:List Ev) (P:List Pd) (ac t:Int) (H:List Had) (O:List (Int×Int)) (kc:Nat) (c:Int×Int) (kh:Nat) (B:List (Bu×Int)):List (Bu×Int):=zL l P ac t H (O.take kc)++(H.take kh).flatMap (grH l P ac t c)++B.filter fun g=>decide (g.1.f<=t)
section
variable {l:List Ev} {P:List Pd} {ac t:Int} {H:List Had} {O:List (Int×Int)}
theorem Qo (c:Int×Int) (kc:Nat):preG l P ac t H O kc c 0 []=zL l P ac t H (O.take kc):=by unfold preG;simp
theorem J1 {kc kh:Nat} {c:Int×Int} (h:kh<H.length):preG l P ac t H O kc c kh (yG P ac H[kh] (actL H[kh].1 H[kh].2 l) c)=preG l P ac t H O kc c (kh+1) []:=by unfold preG;rw[List.take_succ_eq_append_getElem h,List.flatMap_append,List.flatMap_singleton];show _++_++grH l P ac t c H[kh]=_++(_++grH l P ac t c H[kh])++_;simp[List.append_assoc]
theorem Qp {kc:Nat} (h:kc<O.length):preG l P ac t H O kc O[kc] H.length []=zL l P ac t H (O.take (kc+1)):=by unfold preG zL;rw[List.take_succ_eq_append_getElem h,List.flatMap_append,List.flatMap_singleton,List.take_length];simp[vX];rfl
theorem W6 {kc kh:Nat} {c:Int×Int} {B:List (Bu×Int)} {g:Bu×Int} (h:decide (g.1.f<=t)=true):preG l P ac t H O kc c kh (B++[g])=preG l P ac t H O kc c kh B++[g]:=by unfold preG;rw[List.filter_append,List.filter_cons,if_pos h];simp[List.append_assoc]
theorem UJ {kc kh:Nat} {c:Int×Int} {B:List (Bu×Int)} {g:Bu×Int} (h:decide (g.1.f<=t)=false):preG l P ac t H O kc c kh (B++[g])=preG l P ac t H O kc c kh B:=by unfold preG;rw[List.filter_append,List.filter_cons,if_neg (by rw[h];decide)];simp
theorem UK {kc kh:Nat} (hc:kc<O.length) (hh:kh<H.length) {B R:List (Bu×Int)} (hB:yG P ac H[kh] (actL H[kh].1 H[kh].2 l) O[kc]=B++R):∃T,zL l P ac t H O=preG l P ac t H O kc O[kc] kh B++T:=by
 refine⟨R.filter (fun g=>decide (g.1.f<=t))++(H.drop (kh+1)).flatMap (grH l P ac t O[kc])++zL l P ac t H (O.drop (kc+1)),?_⟩;have e1:O=O.take kc++O[kc]::O.drop (kc+1):=by rw[List.getElem_cons_drop,List.take_append_drop]
 have e2:H=H.take kh++H[kh]::H.drop (kh+1):=by rw[List.getElem_cons_drop,List.take_append_drop]
 have e3:vX l P ac t H O[kc]=(H.take kh).flatMap (grH l P ac t O[kc])++(grH l P ac t O[kc] H[kh]++(H.drop (kh+1)).flatMap (grH l P ac t O[kc])):=by
  show H.flatMap (grH l P ac t O[kc])=_
  conv=>lhs;rw[e2]
  rw[List.flatMap_append,List.flatMap_cons]
 have e4:grH l P ac t O[kc] H[kh]=B.filter (fun g=>decide (g.1.f<=t))++R.filter (fun g=>decide (g.1.f<=t)):=by unfold grH;rw[hB,List.filter_append]
 unfold preG;have e5:zL l P ac t H O=zL l P ac t H (O.take kc)++(vX l P ac t H O[kc]++zL l P ac t H (O.drop (kc+1))):=by
  unfold zL
  conv=>lhs;rw[e1]
  rw[List.flatMap_append,List.flatMap_cons]
 rw[e5,e3,e4];simp only[List.append_assoc]
end
theorem Wu (L:List Bu) (g:Bu×Int):(zI L g).length<=L.length+1:=by
 unfold zI;split;· omega
 unfold insB;rw[kZ];omega
theorem Xh (G:List (Bu×Int)):∀L:List Bu,(yl G L).length<=L.length+G.length:=by
 induction G with
 |nil=>intro L;exact Nat.le_refl _
 |cons g G ih=>intro L;have h1:=ih (zI L g);have h2:=Wu L g;show(yl G (zI L g)).length<=_;rw[List.length_cons];omega
theorem QF (G:List (Bu×Int)) (g:Bu×Int) (L:List Bu):yl (G++[g]) L=zI (yl G L) g:=by rw[K0];rfl
theorem E5 (X:List (BuX×Int)) (k:Nat) (h:k<X.length):plG (X.take (k+1))=plG (X.take k)++[((X[k]).1.b,(X[k]).2)]:=by unfold plG;rw[List.take_succ_eq_append_getElem h,List.map_append];rfl
end Go.Proofs.YtngippiilgdnoaaGreat
namespace Go.Proofs.YtngippiilgdnoaaGreat
open Go.RowKit Go.Maps
def StTo (L:List Bu) (WL CL:List I5) (w:World) (e:Ending) (w':World):Prop:=∃(a:Option Addr) (c:Nat) (X:List BuX) (wa:Option Addr) (wc:Nat) (ca:Option Addr) (cc:Nat),e=.returned (.agg #[.slice a X.length c,.slice wa WL.length wc,.slice ca CL.length cc])/\w'.ownsRow w.heap.size 60 12 (.slice a X.length c) X.length (X.flatMap zt)/\plB X=L/\(∀x∈X,BuO w.heap.size w' x)/\w'.ownsRow w.heap.size 102 5 (.slice wa WL.length wc) WL.length (WL.flatMap zC)/\w'.ownsRow w.heap.size 104 5 (.slice ca CL.length cc) CL.length (CL.flatMap zC)/\Below w.heap.size w w'
def kK (l:List Ev) (ac t:Int):Prop:=0<=t/\t<12622780800/\0<vn l ac
def Ky (l:List Ev) (P:List Pd) (ac t:Int) (L:List Bu) (WL CL:List I5) (w:World) (e:Ending) (w':World):Prop:=
 (¬kK l ac t/\StTo L WL CL w e w')\/(kK l ac t/\∃H O,jw l ac H/\vH (vn l ac) (vu l H) t O/\StTo (yl (zL l P ac t H O) L) WL CL w e w')
structure AdvH (l:List Ev) (P:List Pd) (ac t:Int):Prop where
 a28:vn l ac<=28
 cin:∀H,jw l ac H->∀p∈vu l H,0<=p.1/\p.1<p.2/\p.2<=12622780800
 clen:∀H,jw l ac H->kK l ac t->((vu l H).flatMap (vy (vn l ac) t)).length<=1600
 key:∀H O,jw l ac H->vH (vn l ac) (vu l H) t O->∀g∈zL l P ac t H O,KeyB g.1
 few:∀H O,jw l ac H->vH (vn l ac) (vu l H) t O->kK l ac t->(zL l P ac t H O).length<=300000
theorem km (l:List Ev) (P:List Pd) (ac t:Int) (ve vp:Value) (X:List BuX) (WL CL:List I5) (sa wa ca:Option Addr) (sc wc cc:Nat) (w:World)
 (he:vQ w ve l) (hr:yB l) (hl:l.length<=100) (hp:qG w vp P) (hf:FewP P) (hX:zh zt 12 w (.slice sa X.length sc) X) (hrd:∀x∈X,BuRd w x) (hky:∀x∈X,KeyB x.b) (hXl:X.length<=400000)
 (hWL:zh zC 5 w (.slice wa WL.length wc) WL) (hWn:WL.length<=1000) (hCL:zh zC 5 w (.slice ca CL.length cc) CL) (hCn:CL.length<=1000) (hA:AdvH l P ac t):
 Calls Tryz.prog 22 #[ve,vp,.agg #[.slice sa X.length sc,.slice wa WL.length wc,.slice ca CL.length cc],.int .i64 ac,.int .i64 t] w (Ky l P ac t (plB X) WL CL w):=by
 have hmm:=@run_makeMap Tryz.prog;obtain⟨W1,hW1,r0,r1,hw0,hz⟩:=yL w (Obj.cells #[.slice sa X.length sc,.slice wa WL.length wc,.slice ca CL.length cc] 45) (Obj.cells #[.slice none 0 0,.slice none 0 0,.slice none 0 0] 45);have hs1:W1.heap.size=w.heap.size+2:=by rw[hW1];simp
 obtain⟨W2,hW2⟩:∃W2,W2=W1.alloc (.map #[] 0):=⟨_,rfl⟩;have hb2:Below W1.heap.size W1 W2:=by rw[hW2];exact(Below.refl _ _).alloc (Nat.le_refl _) _
 have hs2:W2.heap.size=w.heap.size+3:=by rw[hW2];simp[hs1]
 obtain⟨W,hW⟩:∃W,W=W2.alloc (Obj.cells #[.slice none 0 0,.map (some (w.heap.size+2))] 108):=⟨_,rfl⟩;have hb3:Below W2.heap.size W2 W:=by rw[hW];exact(Below.refl _ _).alloc (Nat.le_refl _) _
 have hs3:W.heap.size=w.heap.size+4:=by rw[hW];simp[hs2]
 have hbW1:Below W1.heap.size W1 W:=hb2.trans (hb3.mono (by omega));have R0:=zb ((hbW1.block _ (by omega)).trans r0);have R1:=zb ((hbW1.block _ (by omega)).trans r1);have R3:=zb (show W.heap[w.heap.size+3]?=some (Obj.cells #[.slice none 0 0,.map (some (w.heap.size+2))] 108) by rw[hW,<-hs2];exact heap_alloc_new _ _);have HM0:=zb (show OwnS 111 W (w.heap.size+2) [] by
  have h:=OwnS.made 111 W1;rw[<-hW2,hs1]at h;exact h.below hb3);have HbW:=zb (show Below w.heap.size w W from hw0.trans (hbW1.mono (by omega)));have HSt0:=zb (show jy (w.heap.size+3) (w.heap.size+2) (w.heap.size+4) [] W from
  ⟨⟨none,0,[],R3.out,World.ownsRow_nil _ _ _ _,rfl,fun x hx=>by cases hx⟩,⟨[],HM0.out,fun b=>rfl,Nat.le_refl _⟩,by omega,by omega,by omega⟩);have HW:=zb (show W=(((w.alloc (Obj.cells #[.slice sa X.length sc,.slice wa WL.length wc,.slice ca CL.length cc] 45)).alloc (Obj.cells #[.slice none 0 0,.slice none 0 0,.slice none 0 0] 45)).alloc (.map #[] 0)).alloc (Obj.cells #[.slice none 0 0,.map (some (w.heap.size+2))] 108) by rw[hW,hW2,hW1]);have He:=zb he;have Hr:=zb hr;have Hl:=zb hl;have Hp:=zb hp;have Hf:=zb hf;have HX:=zb hX;have Hrd:=zb hrd;have Hky:=zb hky;have HXl:=zb hXl;have HWL:=zb hWL;have HCL:=zb hCL;have HWn:=zb hWn;have HCn:=zb hCn;have HA:=zb hA;have Hs3:=zb hs3;obtain⟨a2,c2,e2,hX1,hX2,-⟩:=hX;cases e2;have hX3:=hX2.1;unfold maxLen at hX3;clear hW1 r0 r1 hw0 hz hW2 hb2 hs2 hW hb3 hbW1 hs1 he hr hp hf hrd hky hWL hCL hA hs3 hX2 hl hWn hCn;have x0:=cell_of_row W _ 0 _ _ _ R0.out;go_enter Tryz.func22,Tryz.ntmps22;go_upto_region 2 with(fail);rw[<-HW.out];rw[show w.heap.size+1+1+1=w.heap.size+3 from rfl,show w.heap.size+1+1=w.heap.size+2 from rfl];go_wp2_with fail;go_loopw [29] (fun i wr=>∃k:Nat,k<=X.length/\i=.int .i64 k/\jy (w.heap.size+3) (w.heap.size+2) (w.heap.size+4) (plB (X.take k)) wr/\Below (w.heap.size+2) W wr) (fun i _=>X.length-(intOf i).toNat);case atStart=>exact⟨0,Nat.zero_le _,rfl,HSt0.out,Below.refl _ _⟩
 case round=>
  obtain⟨wo,rfl⟩:∃wo:World,wo=wr:=⟨_,rfl⟩;obtain⟨k,hk,rfl,hst,hb⟩:=hrel;have HSt:=zb hst;have Hb:=zb hb;have hk0:(0:Int)<=(k:Int):=Int.natCast_nonneg _;have hbw:=HbW.out.trans (hb.mono (show w.heap.size<=w.heap.size+2 by omega));have Hbw:=zb hbw;by_cases hlt:k<X.length
  · have hk1:(k:Int)<(X.length:Int):=by omega
    obtain⟨a3,c3,e3,-,-,hx⟩:=HX.out.below hbw;cases e3;obtain⟨bb,o,rfl,hB,hx⟩:=hx (by rintro rfl;cases hlt);have hx:=hx k hlt;obtain⟨x0,x1,x2,x3,x4,x5,x6,x7,x8,x9,x10,x11⟩:=bu12 hx;have HRd:=zb (Hrd.out _ (List.getElem_mem hlt));have HKy:=zb (Hky.out _ (List.getElem_mem hlt));have HTk:=zb (UO X k hlt);clear hx hst hb hbw;generalize X[k]=y at *;obtain⟨Y,hY⟩:∃Y,Y=wo.alloc (Obj.cells #[.int .i64 y.b.ac,.int .i64 y.b.sb,.string y.b.pr,.int .i64 y.b.ix,.int .i64 y.b.kd,.slice y.za y.zn y.zc,.int .i64 y.b.f,.int .i64 y.b.t,.int .i64 y.b.un,.int .i64 y.b.lf,.int .i64 y.b.pt,.bool y.b.sh] 60):=⟨_,rfl⟩;have hbY:Below wo.heap.size wo Y:=by rw[hY];exact(Below.refl _ _).alloc (Nat.le_refl _) _
    have YN:=zb (show Y.heap[wo.heap.size]?=some (Obj.cells #[.int .i64 y.b.ac,.int .i64 y.b.sb,.string y.b.pr,.int .i64 y.b.ix,.int .i64 y.b.kd,.slice y.za y.zn y.zc,.int .i64 y.b.f,.int .i64 y.b.t,.int .i64 y.b.un,.int .i64 y.b.lf,.int .i64 y.b.pt,.bool y.b.sh] 60) by rw[hY];exact heap_alloc_new _ _);have hyn:wo.heap.size<Y.heap.size:=(zw YN.out);have hbS:=(zw R3.out);have HwoS:=zb (show w.heap.size+4<=wo.heap.size by have:=Hb.out.size;omega);have HbY:=zb (Hb.out.trans (hbY.mono (by have:=HwoS.out;omega)));have HStY:=zb (HSt.out.keep hbY);have HbaseY:=zb (show w.heap.size+4<=Y.heap.size by have:=HwoS.out;omega);obtain⟨lr,lcr,R,t1,t2,s3,t4⟩:=HSt.out.row;have s1:=(hbY.block _ (zw t1)).trans t1;have s2:=ze t2 hbY;have s4:∀x∈R,BuO (w.heap.size+4) Y x:=fun x hx=>(t4 x hx).below hbY;obtain⟨Kl,k1,k2,k3⟩:=HStY.out.has;have HRl0:=HSt.out;have HRow:=zb s2;have HR1:=zb s1;have HR3:=zb s3;have HR4:=zb s4;have HK1:=zb k1;have HK2:=zb k2;have HK3:=zb k3;have HRl:=zb (show R.length<=400000 by rw[<-qf,s3,qf,List.length_take];have:=HXl.out;omega);have hrb:∀g,(Value.slice lr R.length lcr).ownBlock=some g->w.heap.size+4<=g/\g<wo.heap.size:=fun g hg=>by
     exact⟨(zg s2 g hg).1,(zg t2 g hg).2⟩
    have HAw:=zb (show ∀Z,Y.grownBy Z (Value.slice lr R.length lcr).ownBlock->Z.cell? ⟨w.heap.size+3,0,none⟩=some (.slice lr R.length lcr)/\(Z.cell? ⟨wo.heap.size,0,none⟩=some (.int .i64 y.b.ac)/\Z.cell? ⟨wo.heap.size,1,none⟩=some (.int .i64 y.b.sb)/\Z.cell? ⟨wo.heap.size,2,none⟩=some (.string y.b.pr)/\Z.cell? ⟨wo.heap.size,3,none⟩=some (.int .i64 y.b.ix)/\Z.cell? ⟨wo.heap.size,4,none⟩=some (.int .i64 y.b.kd)/\Z.cell? ⟨wo.heap.size,5,none⟩=some (.slice y.za y.zn y.zc)/\Z.cell? ⟨wo.heap.size,6,none⟩=some (.int .i64 y.b.f)/\Z.cell? ⟨wo.heap.size,7,none⟩=some (.int .i64 y.b.t)/\Z.cell? ⟨wo.heap.size,8,none⟩=some (.int .i64 y.b.un)/\Z.cell? ⟨wo.heap.size,9,none⟩=some (.int .i64 y.b.lf)/\Z.cell? ⟨wo.heap.size,10,none⟩=some (.int .i64 y.b.pt)/\Z.cell? ⟨wo.heap.size,11,none⟩=some (.bool y.b.sh))from fun Z hZ=>by
     have q1:=(hZ.block _ (zw s1) (fun e=>by have:=(hrb _ e.symm).1;omega)).trans s1;have q2:=(hZ.block _ hyn (fun e=>by have:=(hrb _ e.symm).2;omega)).trans YN.out;exact⟨cell_of_row Z _ 0 _ _ _ q1,⟨cell_of_row Z _ 0 _ _ _ q2,cell_of_row Z _ 1 _ _ _ q2,cell_of_row Z _ 2 _ _ _ q2,cell_of_row Z _ 3 _ _ _ q2,cell_of_row Z _ 4 _ _ _ q2,cell_of_row Z _ 5 _ _ _ q2,cell_of_row Z _ 6 _ _ _ q2,cell_of_row Z _ 7 _ _ _ q2,cell_of_row Z _ 8 _ _ _ q2,cell_of_row Z _ 9 _ _ _ q2,cell_of_row Z _ 10 _ _ _ q2,cell_of_row Z _ 11 _ _ _ q2⟩⟩);have HGb:=zb (fun Z (hZ:Y.grownBy Z (Value.slice lr R.length lcr).ownBlock)=>HbY.out.grown hZ (show w.heap.size+2<=Y.heap.size by have:=HbaseY.out;omega) (fun g hg=>by have:=(hrb g hg).1;omega));have HCl:=zb (fun Z (hZ:Y.grownBy Z (Value.slice lr R.length lcr).ownBlock)=>uV y Z (HRd.out.below (HbW.out.trans ((HGb.out Z hZ).mono (by omega)))));have HrbH:=zb hrb;have HY:=zb hY;clear hY hbY s1 s2 s3 s4 t1 t2 t4 k1 k2 k3 hrb HRl0 hbS;go_upto_region 5 with(fail);rw[<-HY.out];clear x0 x1 x2 x3 x4 x5 x6 x7 x8 x9 x10 x11;refine VF 9 8 (by decide) (avC Y (Value.slice lr R.length lcr).ownBlock) (XE (w.heap.size+3) (w.heap.size+4) Y.heap.size (.slice lr R.length lcr) y R) (by kernel_rfl) (by kernel_rfl) (show avC _ _ false _ from(Below.refl _ _).drew) ?_ ?_
    · generalize hfr:(fun v:Nat->Value=>_)=fr
      simp only[List.take_succ_cons,List.take_zero,List.map_cons,List.map_nil,zB,List.setIfInBounds_toArray,List.set_cons_succ,List.set_cons_zero,Nat.zero_add,Nat.reduceAdd]at hfr;simp only[List.take_succ_cons,List.take_zero,jI];refine⟨?_,?_,?_,?_,?_,?_,?_,?_,?_,trivial⟩;iterate 2
       · intro b v w5 hbf hC hd K hK
         rw[<-hfr]at hK⊢;go_simp;exact hK _ _ hC (fun j y _ h=>qS (Below.refl _ _) j y h) rfl
      · intro b v w5 hbf hC hd K hK
        obtain⟨(e1:v 1=_),-⟩:=hd;rw[<-hfr]at hK⊢;simp only[e1]at hK⊢;go_simp;exact hK _ _ hC (fun j y _ h=>qS (Below.refl _ _) j y h) rfl
      · intro b v w5 hbf hC hd K hK
        obtain⟨(e2:v 2=_),-⟩:=hd;rw[<-hfr]at hK⊢;simp only[e2]at hK⊢;go_simp;exact hK _ _ hC (fun j y _ h=>qS (Below.refl _ _) j y h) rfl
      · intro b v w5 hbf hC hd K hK
        obtain⟨(e3:v 3=_),-⟩:=hd;obtain⟨p0,⟨g0,g1,g2,g3,g4,g5,g6,g7,g8,g9,g10,g11⟩⟩:=HAw.out w5 hC.grown;rw[<-hfr]at hK⊢;simp only[e3]at hK⊢;go_simp;exact hK _ _ hC (fun j y _ h=>qS (Below.refl _ _) j y h) rfl
      · intro b v w5 hbf hC hd K hK
        obtain⟨p0,⟨g0,g1,g2,g3,g4,g5,g6,g7,g8,g9,g10,g11⟩⟩:=HAw.out w5 hC.grown;rw[<-hfr]at hK⊢;go_simp;exact hK _ _ hC (fun j y _ h=>qS (Below.refl _ _) j y h) rfl
      · intro b v w5 hbf hC hd K hK
        obtain⟨(e5:v 5=_),-⟩:=hd;rw[<-hfr]at hK⊢;simp only[e5]at hK⊢;go_simp;refine(HCl.out w5 hC.grown).mono ?_;rintro e w6 ⟨z,rfl,hz,hzo,hb4⟩;exact hK _ _ (hC.below hb4) (fun j y _ h=>qS hb4 j y h) ⟨z,rfl,hz,hzo.down (by have:=hC.grown.size;have:=HbaseY.out;omega)⟩
      · intro b v w5 hbf hC hd K hK
        obtain⟨f6,-⟩:=hd;obtain⟨z,e6,hz,hzo⟩:∃z,v 6=ym z/\z.b=y.b/\BuO (w.heap.size+4) w5 z:=f6;have Hz:=zb hz;clear hz;rw[<-hfr]at hK⊢;simp only[e6]at hK⊢;unfold ym at hK⊢;go_simp;exact hK _ _ (hC.below ((Below.refl _ _).alloc (Nat.le_refl _) _)) (fun j y _ h=>qS ((Below.refl _ _).alloc (Nat.le_refl _) _) j y h) ⟨z,_,rfl,Hz.out,hzo.below ((Below.refl _ _).alloc (Nat.le_refl _) _),hC.grown.size,heap_alloc_new _ _⟩
      intro b v w5 hbf hC hd K hK;obtain rfl:b=false:=by first|exact hbf rfl|exact hbf trivial|simpa using hbf
      obtain⟨(e4:v 4=_),f7,-⟩:=hd;obtain⟨z,g,e7,hz,hzo,hng,hgz⟩:∃(z:BuX) (g:Nat),v 7=.slice (some ⟨g,0,none⟩) 1 1/\z.b=y.b/\BuO (w.heap.size+4) w5 z/\Y.heap.size<=g/\w5.heap[g]?=some (Obj.cells #[.int .i64 z.b.ac,.int .i64 z.b.sb,.string z.b.pr,.int .i64 z.b.ix,.int .i64 z.b.kd,.slice z.za z.zn z.zc,.int .i64 z.b.f,.int .i64 z.b.t,.int .i64 z.b.un,.int .i64 z.b.lf,.int .i64 z.b.pt,.bool z.b.sh] 60):=f7;have hown:=ze HRow.out (show Below Y.heap.size Y w5 from hC);have hle:=(show Below Y.heap.size Y w5 from hC).size;refine Jn _ _ rfl (w.heap.size+4) (by have:=HbaseY.out;omega) (.slice lr R.length lcr) R (by rw[<-hfr];exact e4) hown z g (by rw[<-hfr];exact e7) hgz (by have:=HRl.out;omega) ?_;intro v' w6 hown6 hg6;obtain⟨a6,c6,rfl,-,-⟩:=zf hown6;exact hK _ _ (hC.app hg6) (fun j y hj h=>XD hown hg6 (fun g hg=>(zg HRow.out g hg).2) j y hj h) ⟨z,a6,c6,rfl,hz,hzo.growT hown (by decide) hg6,hown6⟩
    intro v w5 hC hall;have hg:Y.grownBy w5 (Value.slice lr R.length lcr).ownBlock:=hC;have e0:v 0=.pointer (some ⟨w.heap.size+3,0,none⟩):=hall.1.1.1.1.1.1.1.1.2;obtain⟨z,a7,c7,e8,hz,hzo,hown⟩:∃(z:BuX) (a:Option Addr) (c:Nat),v 8=.slice a (R++[z]).length c/\z.b=y.b/\BuO (w.heap.size+4) w5 z/\w5.ownsRow (w.heap.size+4) 60 12 (.slice a (R++[z]).length c) (R++[z]).length ((R++[z]).flatMap zt):=hall.2;have hSY:=(zw HR1.out);have S5:=zb ((hg.block _ hSY (fun e=>by have:=(HrbH.out _ e.symm).1;omega)).trans HR1.out);have C5:=zb ((hg.block _ hyn (fun e=>by have:=(HrbH.out _ e.symm).2;omega)).trans YN.out);have hM5:=(HK1.out.keep (hg.block _ HK1.out.lt (fun e=>by have:=(HrbH.out _ e.symm).1;omega)));have HGb5:=HGb.out w5 hg;obtain⟨R',hR'⟩:∃R',R'=R++[z]:=⟨_,rfl⟩;rw[<-hR']at e8 hown;have HPl:=zb (show plB R'=plB (X.take (k+1)) by rw[hR',Qq,HR3.out,HTk.out];unfold plB;rw[List.map_singleton,hz]);have sc0:=cell_of_row w5 _ 0 _ _ _ S5.out;have sf0:=frozen_of_row w5 _ 0 _ _ S5.out;obtain⟨U,hU⟩:∃U,U=w5.setCell ⟨w.heap.size+3,0,none⟩ (.slice a7 R'.length c7):=⟨_,rfl⟩;have U0:=zb (show U.heap[w.heap.size+3]?=some (Obj.cells #[.slice a7 R'.length c7,.map (some (w.heap.size+2))] 108) by rw[hU];exact zU _ S5.out);have hCS:wo.heap.size≠w.heap.size+3:=by have:=HwoS.out;omega
    have UC:=zb (show U.heap[wo.heap.size]?=some (Obj.cells #[.int .i64 y.b.ac,.int .i64 y.b.sb,.string y.b.pr,.int .i64 y.b.ix,.int .i64 y.b.kd,.slice y.za y.zn y.zc,.int .i64 y.b.f,.int .i64 y.b.t,.int .i64 y.b.un,.int .i64 y.b.lf,.int .i64 y.b.pt,.bool y.b.sh] 60) by rw[hU];exact zF C5.out hCS);have HbU:=zb (show Below (w.heap.size+2) W U by rw[hU];exact HGb5.trans ⟨rfl,rfl,rfl,by simp,fun k hk=>Below.heap_setCell _ _ _ _ (by show k≠w.heap.size+3;omega)⟩);have HRo:=zb (show U.ownsRow (w.heap.size+4) 60 12 (.slice a7 R'.length c7) R'.length (R'.flatMap zt) by
     rw[hU];exact zq hown (zi hown S5.out (by decide)));have HRb:=zb (show ∀r∈R',BuO (w.heap.size+4) U r from fun r hr=>by
     have h1:BuO (w.heap.size+4) w5 r:=by
      rw[hR',List.mem_append]at hr;rcases hr with hr|hr;· exact(HR4.out r hr).growT HRow.out (by decide) hg
      rw[List.mem_singleton.1 hr];exact hzo
     refine⟨?_,h1.sizes,h1.p,h1.len⟩;rw[hU];exact zq h1.row (zi h1.row S5.out (by decide)));have HMU:=zb (show OwnS 111 U (w.heap.size+2) (Kl.map yD)from hM5.keep (by rw[hU];exact Below.heap_setCell _ _ _ _ (by show w.heap.size+2≠w.heap.size+3;omega)));have HU:=zb hU;have hSU:=(zw U0.out);have hCU:=(zw UC.out);have HAu:=zb (show ∀Z,Below U.heap.size U Z->Z.cell? ⟨w.heap.size+3,1,none⟩=some (.map (some (w.heap.size+2)))/\(Z.cell? ⟨wo.heap.size,0,none⟩=some (.int .i64 y.b.ac)/\Z.cell? ⟨wo.heap.size,1,none⟩=some (.int .i64 y.b.sb)/\Z.cell? ⟨wo.heap.size,2,none⟩=some (.string y.b.pr)/\Z.cell? ⟨wo.heap.size,3,none⟩=some (.int .i64 y.b.ix)/\Z.cell? ⟨wo.heap.size,4,none⟩=some (.int .i64 y.b.kd)/\Z.cell? ⟨wo.heap.size,5,none⟩=some (.slice y.za y.zn y.zc)/\Z.cell? ⟨wo.heap.size,6,none⟩=some (.int .i64 y.b.f)/\Z.cell? ⟨wo.heap.size,7,none⟩=some (.int .i64 y.b.t)/\Z.cell? ⟨wo.heap.size,8,none⟩=some (.int .i64 y.b.un)/\Z.cell? ⟨wo.heap.size,9,none⟩=some (.int .i64 y.b.lf)/\Z.cell? ⟨wo.heap.size,10,none⟩=some (.int .i64 y.b.pt)/\Z.cell? ⟨wo.heap.size,11,none⟩=some (.bool y.b.sh))from fun Z hZ=>by
     have q1:=(hZ.block _ hSU).trans U0.out;have q2:=(hZ.block _ hCU).trans UC.out;exact⟨cell_of_row Z _ 1 _ _ _ q1,cell_of_row Z _ 0 _ _ _ q2,cell_of_row Z _ 1 _ _ _ q2,cell_of_row Z _ 2 _ _ _ q2,cell_of_row Z _ 3 _ _ _ q2,cell_of_row Z _ 4 _ _ _ q2,cell_of_row Z _ 5 _ _ _ q2,cell_of_row Z _ 6 _ _ _ q2,cell_of_row Z _ 7 _ _ _ q2,cell_of_row Z _ 8 _ _ _ q2,cell_of_row Z _ 9 _ _ _ q2,cell_of_row Z _ 10 _ _ _ q2,cell_of_row Z _ 11 _ _ _ q2⟩);simp only[List.take_succ_cons,List.take_zero,List.map_cons,List.map_nil,zB,List.setIfInBounds_toArray,List.set_cons_succ,List.set_cons_zero,Nat.zero_add,Nat.reduceAdd,List.drop_succ_cons,List.drop_zero];simp only[e0,e8];generalize v 1=y1,v 2=y2,v 3=y3,v 4=y4,v 5=y5,v 6=y6,v 7=y7;clear e0 e8 hall hC hU hg hSY hM5 HGb5 hR' hz hzo hown v;go_upto_region 6 with(fail);rw[<-HU.out];clear sc0 sf0;refine zN 6 (fun w'=>Below U.heap.size U w') (Q6 (w.heap.size+3) (w.heap.size+2) y) (by kernel_rfl) (by kernel_rfl) (Below.refl _ _).drew ?_ ?_
    · generalize hfr:(fun v:Nat->Value=>_)=fr
      simp only[List.take_succ_cons,List.take_zero,List.map_cons,List.map_nil,zB,List.setIfInBounds_toArray,List.set_cons_succ,List.set_cons_zero,Nat.zero_add,Nat.reduceAdd]at hfr;simp only[List.take_succ_cons,List.take_zero,yN];refine⟨?_,?_,?_,?_,?_,?_,trivial⟩
      · intro v w5 hC hd K hK
        rw[<-hfr]at hK⊢;go_simp;exact hK _ _ hC (zD (Below.refl _ _)) rfl
      · intro v w5 hC hd K hK
        obtain⟨(e0:v 0=_),-⟩:=hd;rw[<-hfr]at hK⊢;simp only[e0]at hK⊢;go_simp;exact hK _ _ hC (zD (Below.refl _ _)) rfl
      · intro v w5 hC hd K hK
        obtain⟨(e1:v 1=_),-⟩:=hd;rw[<-hfr]at hK⊢;simp only[e1]at hK⊢;go_simp;exact hK _ _ hC (zD (Below.refl _ _)) rfl
      · intro v w5 hC hd K hK
        obtain⟨(e2:v 2=_),-⟩:=hd;obtain⟨p1,g0,g1,g2,g3,g4,g5,g6,g7,g8,g9,g10,g11⟩:=HAu.out w5 hC;rw[<-hfr]at hK⊢;simp only[e2]at hK⊢;go_simp;exact hK _ _ hC (zD (Below.refl _ _)) rfl
      · intro v w5 hC hd K hK
        obtain⟨p1,g0,g1,g2,g3,g4,g5,g6,g7,g8,g9,g10,g11⟩:=HAu.out w5 hC;rw[<-hfr]at hK⊢;go_simp;exact hK _ _ hC (zD (Below.refl _ _)) rfl
      intro v w5 hC hd K hK;obtain⟨(e4:v 4=_),-⟩:=hd;rw[<-hfr]at hK⊢;simp only[e4]at hK⊢;go_simp;refine(kV y w5).mono ?_;rintro e w6 ⟨rfl,hb4⟩;exact hK _ _ (hC.trans (hb4.mono hC.size)) (zD hb4) rfl
    intro v w8 hC hall;have e3:v 3=.map (some (w.heap.size+2)):=hall.1.1.2;have e5:v 5=yD y.b:=hall.2;simp only[List.take_succ_cons,List.take_zero,List.map_cons,List.map_nil,zB,List.setIfInBounds_toArray,List.set_cons_succ,List.set_cons_zero,Nat.zero_add,Nat.reduceAdd,List.drop_succ_cons,List.drop_zero];simp only[e3,e5];generalize v 0=y0,v 1=y1,v 2=y2,v 4=y4;have HM8:=zb (HMU.out.below hC);have HR8:=zb (ze HRo.out hC);have HB8:=zb (show ∀r∈R',BuO (w.heap.size+4) w8 r from fun r hr=>(HRb.out r hr).below hC);have U8:=zb ((hC.block _ hSU).trans U0.out);have Hb8:=zb (HbU.out.trans (hC.mono (show w.heap.size+2<=U.heap.size by omega)));obtain⟨lk,hlk⟩:=keyD HKy.out;have Hlk:=zb hlk;have HKln:=zb (show(Kl.map yD).length<maxLen by rw[List.length_map];have:=HK3.out;rw[qf,List.length_take]at this;have:=HXl.out;unfold maxLen;omega);clear e3 e5 hall hC v HAu hlk;refine vK lawD Tryz.underlying106 _ rfl _ _ _ rfl (w.heap.size+2) (Kl.map yD) rfl HM8.out HKln.out (yD y.b) lk rfl rfl Hlk.out ?_;intro w9 hm9 hg9;obtain⟨es,cc9,hmap⟩:=HM8.out.map;have hno:∀{v:Value} {e:TypeId} {b2 sz n:Nat} {xs:List Value},w8.ownsRow b2 e sz v n xs->v.ownBlock≠some (w.heap.size+2):=fun {v e b2 sz n xs} ho hq=>by
     rcases ho.2 with⟨rfl,-⟩|⟨g',cap',cur,rfl,-,hh,-⟩;· cases hq
     simp only[Value.ownBlock,Option.some.injEq]at hq;subst hq;rw[hmap]at hh;cases hh
    have HSt9:=zb (show jy (w.heap.size+3) (w.heap.size+2) (w.heap.size+4) (plB (X.take (k+1))) w9 from
     ⟨⟨a7,c7,R',(hg9.block _ (zw U8.out) (fun e=>by have:=Option.some.inj e;omega)).trans U8.out,yX HR8.out hg9 (Or.inr (hno HR8.out)),HPl.out,fun r hr=>⟨yX (HB8.out r hr).row hg9 (Or.inr (hno (HB8.out r hr).row)),(HB8.out r hr).sizes,(HB8.out r hr).p,(HB8.out r hr).len⟩⟩,
     ⟨Kl++[y.b],by rw[List.map_append];exact hm9,fun b=>by rw[List.any_append,HK2.out,HTk.out,QO];simp,by rw[List.length_append,List.length_singleton,HTk.out,List.length_append,List.length_singleton];have:=HK3.out;omega⟩,by omega,by omega,by omega⟩);have Hb9:=zb (Hb8.out.grown hg9 (show w.heap.size+2<=w8.heap.size by have:=(zw U8.out);omega) (fun g hg=>by have:=Option.some.inj hg;omega));clear hm9 hg9 hmap hno;go_wp2;exact⟨⟨k+1,hlt,by go_num,HSt9.out,Hb9.out⟩,by simp[intOf];omega⟩
  have hk2:¬(k:Int)<(X.length:Int):=by omega
  have HStE:=zb (show jy (w.heap.size+3) (w.heap.size+2) (w.heap.size+4) (plB X) wo by rw[show X.take k=X from List.take_of_length_le (by omega)]at hst;exact hst);have HwoS:=zb (show w.heap.size+4<=wo.heap.size by have:=hb.size;have:=Hs3.out;omega);have HAb:=zb (show ∀Z,Below wo.heap.size wo Z->Z.cell? ⟨w.heap.size,1,none⟩=some (.slice wa WL.length wc)/\Z.cell? ⟨w.heap.size,2,none⟩=some (.slice ca CL.length cc)from fun Z hZ=>by
   have hlt0:=(zw R0.out);have q:=(hZ.block _ (by have:=hb.size;omega)).trans ((hb.block _ (by omega)).trans R0.out);exact⟨cell_of_row Z _ 1 _ _ _ q,cell_of_row Z _ 2 _ _ _ q⟩);have hle:=Hbw.out.size;have HWZ:=zb (fun Z (hZ:Below wo.heap.size wo Z)=>HWL.out.below (Hbw.out.trans (hZ.mono hle)));have HCZ:=zb (fun Z (hZ:Below wo.heap.size wo Z)=>HCL.out.below (Hbw.out.trans (hZ.mono hle)));clear hst hb hbw hle;go_upto_region 8 with(fail);refine zN 8 (fun w'=>Below wo.heap.size wo w') (xg w.heap.size (w.heap.size+4) wo.heap.size wa ca wc cc WL CL) (by kernel_rfl) (by kernel_rfl) (Below.refl _ _).drew ?_ ?_
  · generalize hfr:(fun v:Nat->Value=>_)=fr
    simp only[List.take_succ_cons,List.take_zero,List.map_cons,List.map_nil,zB,List.setIfInBounds_toArray,List.set_cons_succ,List.set_cons_zero,Nat.zero_add,Nat.reduceAdd]at hfr;simp only[List.take_succ_cons,List.take_zero,yN];refine⟨?_,?_,?_,?_,?_,?_,?_,?_,trivial⟩
    · intro v w5 hC hd K hK
      rw[<-hfr]at hK⊢;go_simp;exact hK _ _ hC (qx (Below.refl _ _)) rfl
    · intro v w5 hC hd K hK
      obtain⟨(e0:v 0=_),-⟩:=hd;obtain⟨p1,p2⟩:=HAb.out w5 hC;rw[<-hfr]at hK⊢;simp only[e0]at hK⊢;go_simp;exact hK _ _ hC (qx (Below.refl _ _)) rfl
    · intro v w5 hC hd K hK
      obtain⟨(e1:v 1=_),-⟩:=hd;refine zV (c:=zC) (sz:=5) (fun _=>rfl) KZ 102 42 _ 40 Tryz.underlying42 Tryz.walInfo rfl (by decide) rfl _ _ rfl (w.heap.size+4) (by have:=HwoS.out;have:=hC.size;omega) none _ WL rfl (by rw[<-hfr];exact e1) (World.ownsRow_nil _ _ _ _) (HWZ.out w5 hC) (by have:=HWn.out;unfold maxLen;omega) (by have:=HWn.out;omega) ?_;intro v' w6 h1 hb4;obtain⟨a6,c6,rfl,-,-⟩:=zf h1;exact hK _ _ (hC.trans (hb4.mono hC.size)) (qx hb4) ⟨a6,c6,rfl,h1⟩
    · intro v w5 hC hd K hK
      rw[<-hfr]at hK⊢;go_simp;exact hK _ _ hC (qx (Below.refl _ _)) rfl
    · intro v w5 hC hd K hK
      obtain⟨(e3:v 3=_),-⟩:=hd;obtain⟨p1,p2⟩:=HAb.out w5 hC;rw[<-hfr]at hK⊢;simp only[e3]at hK⊢;go_simp;exact hK _ _ hC (qx (Below.refl _ _)) rfl
    · intro v w5 hC hd K hK
      obtain⟨(e4:v 4=_),-⟩:=hd;refine zV (c:=zC) (sz:=5) (fun _=>rfl) KZ 104 43 _ 40 Tryz.underlying43 Tryz.cntInfo rfl (by decide) rfl _ _ rfl (w.heap.size+4) (by have:=HwoS.out;have:=hC.size;omega) none _ CL rfl (by rw[<-hfr];exact e4) (World.ownsRow_nil _ _ _ _) (HCZ.out w5 hC) (by have:=HCn.out;unfold maxLen;omega) (by have:=HCn.out;omega) ?_;intro v' w6 h1 hb4;obtain⟨a6,c6,rfl,-,-⟩:=zf h1;exact hK _ _ (hC.trans (hb4.mono hC.size)) (qx hb4) ⟨a6,c6,rfl,h1⟩
    · intro v w5 hC hd K hK
      obtain⟨f2,f5,-⟩:=hd;obtain⟨a,c,e2,h2⟩:∃a c,v 2=.slice a WL.length c/\w5.ownsRow (w.heap.size+4) 102 5 (.slice a WL.length c) WL.length (WL.flatMap zC):=f2;obtain⟨a2,c2,e5,h5⟩:∃a c,v 5=.slice a CL.length c/\w5.ownsRow (w.heap.size+4) 104 5 (.slice a CL.length c) CL.length (CL.flatMap zC):=f5;rw[<-hfr]at hK⊢;simp only[e2,e5]at hK⊢;go_simp;exact hK _ _ hC (qx (Below.refl _ _)) ⟨a,c,a2,c2,rfl,h2,h5⟩
    intro v w5 hC hd K hK;rw[<-hfr]at hK⊢;go_simp;exact hK _ _ (hC.alloc hC.size _) (qx ((Below.refl _ _).alloc (Nat.le_refl _) _)) ⟨_,_,rfl,hC.size,heap_alloc_new _ _,rfl⟩
  intro v w5 hC hall;obtain⟨qa,qc,qa2,qc2,e6,hq,hq2⟩:∃a c a2 c2,v 6=.agg #[.slice none 0 0,.slice a WL.length c,.slice a2 CL.length c2]/\w5.ownsRow (w.heap.size+4) 102 5 (.slice a WL.length c) WL.length (WL.flatMap zC)/\w5.ownsRow (w.heap.size+4) 104 5 (.slice a2 CL.length c2) CL.length (CL.flatMap zC):=hall.1.2;obtain⟨g,cs,e7,hg,hrow,hcs⟩:∃g cs,v 7=.pointer (some ⟨g,0,none⟩)/\wo.heap.size<=g/\w5.heap[g]?=some (Obj.cells cs 45)/\cs.size=3:=hall.2;have hb9:=zk hC hg #[.slice none 0 0,.slice qa WL.length qc,.slice qa2 CL.length qc2];have hrow2:=setRow_heap w5 g cs #[.slice none 0 0,.slice qa WL.length qc,.slice qa2 CL.length qc2] _ _ hrow;have hown2:=zp hq (zi hq hrow (by decide)) #[.slice none 0 0,.slice qa WL.length qc,.slice qa2 CL.length qc2];have hown3:=zp hq2 (zi hq2 hrow (by decide)) #[.slice none 0 0,.slice qa WL.length qc,.slice qa2 CL.length qc2];simp only[List.take_succ_cons,List.take_zero,List.map_cons,List.map_nil,zB,List.setIfInBounds_toArray,List.set_cons_succ,List.set_cons_zero,Nat.zero_add,Nat.reduceAdd,List.drop_succ_cons,List.drop_zero];simp only[e6,e7];generalize v 0=y0,v 1=y1,v 2=y2,v 3=y3,v 4=y4,v 5=y5;clear e6 e7 hall;refine wpList_store_row rfl _ _ _ rfl g #[.slice none 0 0,.slice qa WL.length qc,.slice qa2 CL.length qc2] rfl rfl 45 _ hrow (by kernel_rfl) hcs (by simp[Value.oneCell']) ?_;obtain⟨Q,hQ⟩:∃Q,Q=w5.setRow g #[.slice none 0 0,.slice qa WL.length qc,.slice qa2 CL.length qc2]:=⟨_,rfl⟩;rw[<-hQ]at hrow2 hown2 hown3 hb9⊢;have HGr:=zb hrow2;have HO2:=zb hown2;have HO3:=zb hown3;have HStQ:=zb (HStE.out.keep hb9);have HbQ:=zb (Hb.out.trans (hb9.mono (show w.heap.size+2<=wo.heap.size by have:=HwoS.out;omega)));have hgn:w.heap.size+4<=g:=by have:=HwoS.out;omega
  have HwQ:=zb (HbW.out.trans (HbQ.out.mono (show w.heap.size<=w.heap.size+2 by omega)));have HAn:=zb (Ui ve l ac Q (He.out.below HwQ.out));clear hC hq hq2 hrow hcs hown2 hown3 hrow2 hQ hb9 hg HAb HWZ HCZ v;go_wp2_with fail;refine HAn.out.mono ?_;rintro e Z ⟨rfl,hbz⟩;dsimp only;have HSz:=zb (HStQ.out.keep hbz);have HGz:=zb ((hbz.block _ (zw HGr.out)).trans HGr.out);have HOz2:=zb (ze HO2.out hbz);have HOz3:=zb (ze HO3.out hbz);have HBz:=zb (HbQ.out.trans (hbz.mono (show w.heap.size+2<=Q.heap.size by have h1:=HbQ.out.size;have h2:=Hs3.out;omega)));clear hbz HStQ HGr HO2 HO3 HbQ HwQ HAn;by_cases ht0:0<=t
  · by_cases ht1:t<12622780800
    · by_cases ha:0<vn l ac
      · have HOn:=zb (show kK l ac t from⟨ht0,ht1,ha⟩)
        have HwZ:=zb (HbW.out.trans (HBz.out.mono (show w.heap.size<=w.heap.size+2 by omega)));have HHo:=zb (VI ve l ac Z (He.out.below HwZ.out) Hr.out Hl.out);have Hha:=zb ha;have Ht0:=zb ht0;have Ht1:=zb ht1;go_wp2_with fail;refine HHo.out.mono ?_;rintro e Z1 ⟨ha1,hc1,H,rfl,hH1,hHad,hHrd,hHl,hbz1⟩;dsimp only;have HCy:=zb (Wc l ac (.slice ha1 H.length hc1) H (vn l ac) t Z1 hH1 hHrd Hha.out HA.out.a28 Ht0.out Ht1.out (HA.out.cin _ hHad) (HA.out.clen _ hHad HOn.out));have HHad:=zb hHad;have HH1:=zb hH1;have HHrd:=zb hHrd;have Hbz1:=zb hbz1;clear hHad hH1 hHrd hbz1 HHo;go_wp2_with fail;refine HCy.out.mono ?_;rintro e Z2 ⟨O,hO,v2,rfl,hPO,hbz2⟩;obtain⟨ao,co,rfl,hao,hco,-⟩:=id hPO;have hco2:=hco.1;unfold maxLen at hco2;clear hco;dsimp only;have HO:=zb hO;have HFr:=zb (show AdFr (w.heap.size+3) (w.heap.size+2) (w.heap.size+4) g (w.heap.size+2) l ac (.slice ao O.length co) (.slice ha1 H.length hc1) O H #[.slice none 0 0,.slice qa WL.length qc,.slice qa2 CL.length qc2] qa qa2 qc qc2 WL CL (plB X) W Z2 from
         have hb12:=Hbz1.out.trans (hbz2.mono Hbz1.out.size)
         ⟨HSz.out.keep hb12,hPO,HH1.out.below hbz2,fun x hx=>⟨(HHrd.out x hx).1.below hbz2,(HHrd.out x hx).2⟩,(hb12.block _ (zw HGz.out)).trans HGz.out,by omega,by omega,ze HOz2.out hb12,ze HOz3.out hb12,HBz.out.trans (hb12.mono (by have:=HBz.out.size;have:=Hs3.out;omega)),by have:=Hs3.out;omega,by omega,by omega⟩);obtain⟨h2a,h2c,e2,hH2,hH3,-⟩:=HH1.out;cases e2;have hH4:=hH3.1;unfold maxLen at hH4;clear hO hPO hbz2 HCy HSz HGz HOz2 HOz3 hH3;go_wp2_with fail;go_loopw [79] (fun i wr=>∃kc:Nat,kc<=O.length/\i=.int .i64 kc/\AdFr (w.heap.size+3) (w.heap.size+2) (w.heap.size+4) g (w.heap.size+2) l ac (.slice ao O.length co) (.slice ha1 H.length hc1) O H #[.slice none 0 0,.slice qa WL.length qc,.slice qa2 CL.length qc2] qa qa2 qc qc2 WL CL (yl (zL l P ac t (H.map (·.h)) (O.take kc)) (plB X)) W wr) (fun i _=>O.length-(intOf i).toNat);case atStart=>exact⟨0,Nat.zero_le _,rfl,HFr.out⟩
        case round=>
         obtain⟨wo1,rfl⟩:∃wo1:World,wo1=wr:=⟨_,rfl⟩;obtain⟨kc,hkc,rfl,hfr⟩:=hrel;have HFo:=zb hfr;have hkc0:(0:Int)<=(kc:Int):=Int.natCast_nonneg _;by_cases hlc:kc<O.length
         · have hkc1:(kc:Int)<(O.length:Int):=by omega
           obtain⟨a3,c3,e3,-,-,hx⟩:=hfr.cyc;cases e3;obtain⟨bb,o,rfl,hB,hx⟩:=hx (by rintro rfl;cases hlc);have x0:=(hx kc hlc).1;have x1:=(hx kc hlc).2;have HCe:=zb (Qp (l:=l) (P:=P) (ac:=ac) (t:=t) (H:=(H.map (·.h))) hlc);have HCut:=zb (fun(kh:Nat) (hh:kh<(H.map (·.h)).length) (B R:List (Bu×Int)) hB=>UK (l:=l) (P:=P) (ac:=ac) (t:=t) hlc hh (B:=B) (R:=R) hB);clear hx hfr;generalize O[kc]=cy at *;obtain⟨Y,hY⟩:∃Y,Y=wo1.alloc (Obj.cells #[.int .i64 cy.1,.int .i64 cy.2] 25):=⟨_,rfl⟩;have hbY:Below wo1.heap.size wo1 Y:=by rw[hY];exact(Below.refl _ _).alloc (Nat.le_refl _) _
           have YN:=zb (show Y.heap[wo1.heap.size]?=some (Obj.cells #[.int .i64 cy.1,.int .i64 cy.2] 25) by rw[hY];exact heap_alloc_new _ _);have HFY:=zb (HFo.out.go hbY);have HY:=zb hY;have Hn1:=zb (show wo1.heap.size≠w.heap.size+3/\wo1.heap.size≠w.heap.size+2 by have:=HFo.out.bel.size;have:=Hs3.out;omega);clear hY hbY;go_upto_region 15 with(fail);rw[<-HY.out];clear x0 x1;go_wp2_with fail;go_loopw [85] (fun i wr=>∃kh:Nat,kh<=H.length/\i=.int .i64 kh/\AdFr (w.heap.size+3) (w.heap.size+2) (w.heap.size+4) g (w.heap.size+2) l ac (.slice (some ⟨bb,o,none⟩) O.length co) (.slice ha1 H.length hc1) O H #[.slice none 0 0,.slice qa WL.length qc,.slice qa2 CL.length qc2] qa qa2 qc qc2 WL CL (yl (preG l P ac t (H.map (·.h)) O kc cy kh []) (plB X)) W wr/\wr.heap[wo1.heap.size]?=some (Obj.cells #[.int .i64 cy.1,.int .i64 cy.2] 25)) (fun i _=>H.length-(intOf i).toNat);case atStart=>exact⟨0,Nat.zero_le _,rfl,by rw[Qo];exact HFY.out,YN.out⟩
           case round=>
            obtain⟨wo2,rfl⟩:∃wo2:World,wo2=wr:=⟨_,rfl⟩;obtain⟨kh,hkh,rfl,hfr,hn1⟩:=hrel;have HF2:=zb hfr;have HN1:=zb hn1;have hkh0:(0:Int)<=(kh:Int):=Int.natCast_nonneg _;by_cases hlh:kh<H.length
            · have hkh1:(kh:Int)<(H.length:Int):=by omega
              obtain⟨a3,c3,e3,-,-,hx⟩:=hfr.hos;cases e3;obtain⟨b2,o2,rfl,hB2,hx⟩:=hx (by rintro rfl;cases hlh);have hx:=hx kh hlh;have x0:wo2.cell? ⟨b2,o2+kh*4,none⟩=some (.int .i64 ac):=hx 0 (by decide);have x1:wo2.cell? ⟨b2,o2+kh*4+1,none⟩=some (.int .i64 (H[kh]).h.1):=hx 1 (by decide);have x2:wo2.cell? ⟨b2,o2+kh*4+2,none⟩=some (.string (H[kh]).h.2):=hx 2 (by decide);have x3:wo2.cell? ⟨b2,o2+kh*4+3,none⟩=some (.slice (H[kh]).pa (H[kh]).pn (H[kh]).pc):=hx 3 (by decide);have HRdh:=zb (hfr.hrd _ (List.getElem_mem hlh));have HHold:=zb (show preG l P ac t (H.map (·.h)) O kc cy kh (yG P ac (H[kh]).h (actL (H[kh]).h.1 (H[kh]).h.2 l) cy)=preG l P ac t (H.map (·.h)) O kc cy (kh+1) [] from by
               have h:=J1 (l:=l) (P:=P) (ac:=ac) (t:=t) (H:=(H.map (·.h))) (O:=O) (kc:=kc) (c:=cy) (kh:=kh) (by rw[List.length_map];exact hlh);rw[List.getElem_map]at h;exact h);have HCutH:=zb (fun(B R:List (Bu×Int)) (hB:yG P ac (H[kh]).h (actL (H[kh]).h.1 (H[kh]).h.2 l) cy=B++R)=>HCut.out kh (by rw[List.length_map];exact hlh) B R (by rw[List.getElem_map];exact hB));clear hx hfr hn1;generalize H[kh]=hd at *;obtain⟨Y2,hY2⟩:∃Y2,Y2=wo2.alloc (Obj.cells #[.int .i64 ac,.int .i64 hd.h.1,.string hd.h.2,.slice hd.pa hd.pn hd.pc] 118):=⟨_,rfl⟩;have hbY2:Below wo2.heap.size wo2 Y2:=by rw[hY2];exact(Below.refl _ _).alloc (Nat.le_refl _) _
              have Y2N:=zb (show Y2.heap[wo2.heap.size]?=some (Obj.cells #[.int .i64 ac,.int .i64 hd.h.1,.string hd.h.2,.slice hd.pa hd.pn hd.pc] 118) by rw[hY2];exact heap_alloc_new _ _);have HFY2:=zb (HF2.out.go hbY2);have N1Y:=zb ((hbY2.block _ (zw HN1.out)).trans HN1.out);have HGr:=zb (Xf ac hd.h.1 hd.h.2 hd.pa hd.pn hd.pc vp P (actL hd.h.1 hd.h.2 l) cy Y2 (HRdh.out.1.below hbY2) (Hp.out.below (HbW.out.trans (HFY2.out.bel.mono (by omega)))) Hf.out HRdh.out.2);have HY2:=zb hY2;clear hY2 hbY2;go_upto_region 18 with(fail);rw[<-HY2.out];clear x0 x1 x2 x3;have tQ:=fun j=>cell_of_row Y2 _ j _ _ _ Y2N.out;have s0:=tQ 0;have s1:=tQ 1;have s2:=tQ 2;have s3:=tQ 3;clear tQ;have p0:=cell_of_row Y2 _ 0 _ _ _ N1Y.out;have p1:=cell_of_row Y2 _ 1 _ _ _ N1Y.out;go_wp2_with fail;refine HGr.out.mono ?_;rintro e Z3 ⟨ag,cg,XG,rfl,hown,hpl,hrdg,hb3⟩;dsimp only;have HF3:=zb (HFY2.out.go hb3);have N13:=zb ((hb3.block _ (zw N1Y.out)).trans N1Y.out);have HOw:=zb hown;have HPl:=zb hpl;have HRg:=zb hrdg;obtain⟨ag2,cg2,e4,hXG1,hXG2⟩:=zf hown;cases e4;unfold maxLen at hXG2;clear hown hpl hrdg hb3 HGr s0 s1 s2 s3 p0 p1;go_wp2_with fail;go_loopw [94] (fun i wr=>∃kg:Nat,kg<=XG.length/\i=.int .i64 kg/\AdFr (w.heap.size+3) (w.heap.size+2) (w.heap.size+4) g (w.heap.size+2) l ac (.slice (some ⟨bb,o,none⟩) O.length co) (.slice (some ⟨b2,o2,none⟩) H.length hc1) O H #[.slice none 0 0,.slice qa WL.length qc,.slice qa2 CL.length qc2] qa qa2 qc qc2 WL CL (yl (preG l P ac t (H.map (·.h)) O kc cy kh (plG (XG.take kg))) (plB X)) W wr/\wr.heap[wo1.heap.size]?=some (Obj.cells #[.int .i64 cy.1,.int .i64 cy.2] 25)/\wr.ownsRow Y2.heap.size 122 13 (.slice ag XG.length cg) XG.length (XG.flatMap jb)/\∀x∈XG,BuRd wr x.1) (fun i _=>XG.length-(intOf i).toNat);case atStart=>exact⟨0,Nat.zero_le _,rfl,HF3.out,N13.out,HOw.out,HRg.out⟩
              case round=>
               obtain⟨wo3,rfl⟩:∃wo3:World,wo3=wr:=⟨_,rfl⟩;obtain⟨kg,hkg,rfl,hfr,hn1,hown,hrdg⟩:=hrel;have HF4:=zb hfr;have HN4:=zb hn1;have HO4:=zb hown;have HR4:=zb hrdg;have hkg0:(0:Int)<=(kg:Int):=Int.natCast_nonneg _;by_cases hlg:kg<XG.length
               · have hkg1:(kg:Int)<(XG.length:Int):=by omega
                 obtain⟨a3,c3,e3,-,-,hx⟩:=(zh.own (c:=jb) (sz:=13) (fun _=>rfl) hown:zh jb 13 wo3 _ XG);cases e3;obtain⟨b3,o3,rfl,hB3,hx⟩:=hx (by rintro rfl;cases hlg);have hx:=hx kg hlg;have x0:wo3.cell? ⟨b3,o3+kg*13,none⟩=some (.int .i64 (XG[kg]).1.b.ac):=hx 0 (by decide);have x1:wo3.cell? ⟨b3,o3+kg*13+1,none⟩=some (.int .i64 (XG[kg]).1.b.sb):=hx 1 (by decide);have x2:wo3.cell? ⟨b3,o3+kg*13+2,none⟩=some (.string (XG[kg]).1.b.pr):=hx 2 (by decide);have x3:wo3.cell? ⟨b3,o3+kg*13+3,none⟩=some (.int .i64 (XG[kg]).1.b.ix):=hx 3 (by decide);have x4:wo3.cell? ⟨b3,o3+kg*13+4,none⟩=some (.int .i64 (XG[kg]).1.b.kd):=hx 4 (by decide);have x5:wo3.cell? ⟨b3,o3+kg*13+5,none⟩=some (.slice (XG[kg]).1.za (XG[kg]).1.zn (XG[kg]).1.zc):=hx 5 (by decide);have x6:wo3.cell? ⟨b3,o3+kg*13+6,none⟩=some (.int .i64 (XG[kg]).1.b.f):=hx 6 (by decide);have x7:wo3.cell? ⟨b3,o3+kg*13+7,none⟩=some (.int .i64 (XG[kg]).1.b.t):=hx 7 (by decide);have x8:wo3.cell? ⟨b3,o3+kg*13+8,none⟩=some (.int .i64 (XG[kg]).1.b.un):=hx 8 (by decide);have x9:wo3.cell? ⟨b3,o3+kg*13+9,none⟩=some (.int .i64 (XG[kg]).1.b.lf):=hx 9 (by decide);have x10:wo3.cell? ⟨b3,o3+kg*13+10,none⟩=some (.int .i64 (XG[kg]).1.b.pt):=hx 10 (by decide);have x11:wo3.cell? ⟨b3,o3+kg*13+11,none⟩=some (.bool (XG[kg]).1.b.sh):=hx 11 (by decide);have x12:wo3.cell? ⟨b3,o3+kg*13+12,none⟩=some (.int .i64 (XG[kg]).2):=hx 12 (by decide);have HTk:=zb (E5 XG kg hlg);have HRx:=zb (hrdg _ (List.getElem_mem hlg));have HCt:=zb (HCutH.out (plG (XG.take (kg+1))) (plG (XG.drop (kg+1))) (by rw[<-HPl.out];(conv=>lhs;rw[<-List.take_append_drop (kg+1) XG]);unfold plG;rw[List.map_append]));clear hx hfr hn1 hown hrdg;generalize XG[kg]=q at *;obtain⟨y,rr⟩:=q;dsimp only at *;obtain⟨Y3,hY3⟩:∃Y3,Y3=wo3.alloc (Obj.cells #[.int .i64 y.b.ac,.int .i64 y.b.sb,.string y.b.pr,.int .i64 y.b.ix,.int .i64 y.b.kd,.slice y.za y.zn y.zc,.int .i64 y.b.f,.int .i64 y.b.t,.int .i64 y.b.un,.int .i64 y.b.lf,.int .i64 y.b.pt,.bool y.b.sh,.int .i64 rr] 122):=⟨_,rfl⟩;have hbY3:Below wo3.heap.size wo3 Y3:=by rw[hY3];exact(Below.refl _ _).alloc (Nat.le_refl _) _
                 have Y3N:=zb (show Y3.heap[wo3.heap.size]?=some (Obj.cells #[.int .i64 y.b.ac,.int .i64 y.b.sb,.string y.b.pr,.int .i64 y.b.ix,.int .i64 y.b.kd,.slice y.za y.zn y.zc,.int .i64 y.b.f,.int .i64 y.b.t,.int .i64 y.b.un,.int .i64 y.b.lf,.int .i64 y.b.pt,.bool y.b.sh,.int .i64 rr] 122) by rw[hY3];exact heap_alloc_new _ _);have HFY3:=zb (HF4.out.go hbY3);have N14:=zb ((hbY3.block _ (zw HN4.out)).trans HN4.out);have HO5:=zb (ze HO4.out hbY3);have HR5:=zb (show ∀x∈XG,BuRd Y3 x.1 from fun x hx=>(HR4.out x hx).below hbY3);have HRx3:=zb (HRx.out.below hbY3);have HY3:=zb hY3;clear hY3 hbY3;go_upto_region 21 with(fail);rw[<-HY3.out];clear x0 x1 x2 x3 x4 x5 x6 x7 x8 x9 x10 x11 x12;have tQ:=fun j=>cell_of_row Y3 _ j _ _ _ Y3N.out;have y0:=tQ 0;have y1:=tQ 1;have y2:=tQ 2;have y3:=tQ 3;have y4:=tQ 4;have y5:=tQ 5;have y6:=tQ 6;have y7:=tQ 7;have y8:=tQ 8;have y9:=tQ 9;have y10:=tQ 10;have y11:=tQ 11;have y12:=tQ 12;clear tQ;by_cases hf:y.b.f<=t
                 · have HIn:=zb (show preG l P ac t (H.map (·.h)) O kc cy kh (plG (XG.take (kg+1)))=preG l P ac t (H.map (·.h)) O kc cy kh (plG (XG.take kg))++[(y.b,rr)] by rw[HTk.out];exact W6 (decide_eq_true hf))
                   have HKy:=zb (show KeyB y.b from by
                    obtain⟨T,hT⟩:=HCt.out;exact HA.out.key _ O HHad.out HO.out (y.b,rr) (by rw[hT,HIn.out];simp));have HLn:=zb (show(yl (preG l P ac t (H.map (·.h)) O kc cy kh (plG (XG.take kg))) (plB X)).length<=900000 from by
                    obtain⟨T,hT⟩:=HCt.out;have h1:=HA.out.few _ O HHad.out HO.out HOn.out;rw[hT,HIn.out]at h1;simp only[List.length_append]at h1;have h2:=Xh (preG l P ac t (H.map (·.h)) O kc cy kh (plG (XG.take kg))) (plB X);rw[qf]at h2;have h3:=HXl.out
                    omega);have HAdd:=zb (XT (w.heap.size+3) (w.heap.size+2) (w.heap.size+4) _ y rr Y3 HFY3.out.st (by have:=HFY3.out.bel.size;have:=Hs3.out;omega) HRx3.out HKy.out HLn.out);go_wp2_with fail;refine HAdd.out.mono ?_;clear hf;rintro e Z4 ⟨rfl,hst4,hk4⟩;dsimp only;have hnc:=HFY3.out.st.noCells;have HF6:=zb (HFY3.out.two hst4 hk4);have N16:=zb ((hk4.block _ (zw N14.out) Hn1.out.1 Hn1.out.2).trans N14.out);have HO6:=zb (KN HO5.out HFY3.out.st (by decide) hk4);have HR6:=zb (show ∀x∈XG,BuRd Z4 x.1 from fun x hx=>NX (HR5.out x hx) hnc hk4);clear hst4 hk4 hnc y0 y1 y2 y3 y4 y5 y6 y7 y8 y9 y10 y11 y12;go_wp2;exact⟨⟨kg+1,hlg,by go_num,by rw[HIn.out,QF];exact HF6.out,N16.out,HO6.out,HR6.out⟩,by simp[intOf];omega⟩
                 have HIn:=zb (show preG l P ac t (H.map (·.h)) O kc cy kh (plG (XG.take (kg+1)))=preG l P ac t (H.map (·.h)) O kc cy kh (plG (XG.take kg)) by rw[HTk.out];exact UJ (decide_eq_false hf));go_wp2;exact⟨⟨kg+1,hlg,by go_num,by rw[HIn.out];exact HFY3.out,N14.out,HO5.out,HR5.out⟩,by simp[intOf];omega⟩
               have HEg:=zb (show AdFr (w.heap.size+3) (w.heap.size+2) (w.heap.size+4) g (w.heap.size+2) l ac (.slice (some ⟨bb,o,none⟩) O.length co) (.slice (some ⟨b2,o2,none⟩) H.length hc1) O H #[.slice none 0 0,.slice qa WL.length qc,.slice qa2 CL.length qc2] qa qa2 qc qc2 WL CL (yl (preG l P ac t (H.map (·.h)) O kc cy (kh+1) []) (plB X)) W wo3 by
                rw[List.take_of_length_le (show XG.length<=kg by omega),HPl.out,HHold.out]at hfr;exact hfr);clear hfr hown hrdg hn1 HF4;go_wp2;exact⟨⟨kh+1,hlh,by go_num,HEg.out,HN4.out⟩,by simp[intOf];omega⟩
            have HEh:=zb (show AdFr (w.heap.size+3) (w.heap.size+2) (w.heap.size+4) g (w.heap.size+2) l ac (.slice (some ⟨bb,o,none⟩) O.length co) (.slice ha1 H.length hc1) O H #[.slice none 0 0,.slice qa WL.length qc,.slice qa2 CL.length qc2] qa qa2 qc qc2 WL CL (yl (zL l P ac t (H.map (·.h)) (O.take (kc+1))) (plB X)) W wo2 by
             rw[show kh=((H.map (·.h))).length by rw[List.length_map];omega,HCe.out]at hfr;exact hfr);clear hfr hn1 HF2;go_wp2;exact⟨⟨kc+1,hlc,by go_num,HEh.out⟩,by simp[intOf];omega⟩
         have HEnd:=zb (show AdFr (w.heap.size+3) (w.heap.size+2) (w.heap.size+4) g (w.heap.size+2) l ac (.slice ao O.length co) (.slice ha1 H.length hc1) O H #[.slice none 0 0,.slice qa WL.length qc,.slice qa2 CL.length qc2] qa qa2 qc qc2 WL CL (yl (zL l P ac t (H.map (·.h)) O) (plB X)) W wo1 by rw[List.take_of_length_le (by omega)]at hfr;exact hfr);clear hfr HFo hkc;have FSt:=zb HEnd.out.st;have FG:=zb HEnd.out.box;have FW:=zb HEnd.out.wal;have FC:=zb HEnd.out.cnt;have FB:=zb HEnd.out.bel;clear HEnd;go_upto_region 26 with(fail);obtain⟨lr,lcr,R,s1,s2,s3,s4⟩:=FSt.out.row;have sc0:=cell_of_row wo1 _ 0 _ _ _ s1;have gc0:=cell_of_row wo1 _ 0 _ _ _ FG.out;have gf0:=frozen_of_row wo1 _ 0 _ _ FG.out;obtain⟨U,hU⟩:∃U,U=wo1.setCell ⟨g,0,none⟩ (.slice lr R.length lcr):=⟨_,rfl⟩;have UG:=zb (show U.heap[g]?=some (Obj.cells #[.slice lr R.length lcr,.slice qa WL.length qc,.slice qa2 CL.length qc2] 45) by rw[hU];exact zU _ FG.out);have hg1:w.heap.size+1≠g:=by omega
         have U1:=zb (show U.heap[w.heap.size+1]?=some (Obj.cells #[.slice none 0 0,.slice none 0 0,.slice none 0 0] 45) by rw[hU];exact zF ((FB.out.block _ (by omega)).trans R1.out) hg1);have HbU:=zb (show Below (w.heap.size+2) W U by rw[hU];exact FB.out.trans ⟨rfl,rfl,rfl,by simp,fun k hk=>Below.heap_setCell _ _ _ _ (by show k≠g;omega)⟩);have HFin:=zb (show StTo (yl (zL l P ac t (H.map (·.h)) O) (plB X)) WL CL w (.returned (.agg #[.slice lr R.length lcr,.slice qa WL.length qc,.slice qa2 CL.length qc2])) (U.setRow (w.heap.size+1) #[.slice lr R.length lcr,.slice qa WL.length qc,.slice qa2 CL.length qc2])from by
          have o1:U.ownsRow (w.heap.size+4) 60 12 (.slice lr R.length lcr) R.length (R.flatMap zt):=by rw[hU];exact zq s2 (zi s2 FG.out (by decide))
          have o2:U.ownsRow (w.heap.size+4) 102 5 (.slice qa WL.length qc) WL.length (WL.flatMap zC):=by rw[hU];exact zq FW.out (zi FW.out FG.out (by decide))
          have o3:U.ownsRow (w.heap.size+4) 104 5 (.slice qa2 CL.length qc2) CL.length (CL.flatMap zC):=by rw[hU];exact zq FC.out (zi FC.out FG.out (by decide))
          refine⟨lr,lcr,R,qa,qc,qa2,qc2,rfl,zr (zp o1 (zi o1 U1.out (by decide)) _) (by omega),s3,fun x hx=>?_,zr (zp o2 (zi o2 U1.out (by decide)) _) (by omega),zr (zp o3 (zi o3 U1.out (by decide)) _) (by omega),zk (HbW.out.trans (HbU.out.mono (by omega))) (by omega) _⟩;have h1:=s4 x hx;have r1:U.ownsRow (w.heap.size+4) 9 1 (.slice x.za x.zn x.zc) x.b.zs.length (x.b.zs.flatMap zm):=by rw[hU];exact zq h1.row (zi h1.row FG.out (by decide))
          exact⟨zr (zp r1 (zi r1 U1.out (by decide)) _) (by omega),h1.sizes,h1.p,h1.len⟩);have HU:=zb hU;clear hU s1 s2 s3 s4;go_upto_region 27 with(fail);rw[<-HU.out];clear sc0 gc0 gf0;have y0:=cell_of_row U _ 0 _ _ _ UG.out;have y1:=cell_of_row U _ 1 _ _ _ UG.out;have y2:=cell_of_row U _ 2 _ _ _ UG.out;have tQ:=fun j=>cell_setRow_same U (w.heap.size+1) j _ #[.slice lr R.length lcr,.slice qa WL.length qc,.slice qa2 CL.length qc2] _ _ U1.out;have t0:=tQ 0;have t1:=tQ 1;have t2:=tQ 2;clear tQ;repeat (first|refine wpList_store_row rfl _ _ _ rfl (w.heap.size+1) #[.slice lr R.length lcr,.slice qa WL.length qc,.slice qa2 CL.length qc2] rfl rfl 45 _ U1.out (by kernel_rfl) rfl (by simp[Value.oneCell']) ?_|go_step)
         refine bodyPost_ret (v:=.agg #[.slice lr R.length lcr,.slice qa WL.length qc,.slice qa2 CL.length qc2]) (by simp[results,Tryz.results22,go_sem,t0,t1,t2]) rfl ?_;exact Or.inr ⟨HOn.out,(H.map (·.h)),O,HHad.out,HO.out,HFin.out⟩
      have HOff:=zb (show ¬kK l ac t from fun h=>ha h.2.2);go_upto_region 26 with(fail);obtain⟨lr,lcr,R,s1,s2,s3,s4⟩:=HSz.out.row;have sc0:=cell_of_row Z _ 0 _ _ _ s1;have gc0:=cell_of_row Z _ 0 _ _ _ HGz.out;have gf0:=frozen_of_row Z _ 0 _ _ HGz.out;obtain⟨U,hU⟩:∃U,U=Z.setCell ⟨g,0,none⟩ (.slice lr R.length lcr):=⟨_,rfl⟩;have UG:=zb (show U.heap[g]?=some (Obj.cells #[.slice lr R.length lcr,.slice qa WL.length qc,.slice qa2 CL.length qc2] 45) by rw[hU];exact zU _ HGz.out);have hg1:w.heap.size+1≠g:=by omega
      have U1:=zb (show U.heap[w.heap.size+1]?=some (Obj.cells #[.slice none 0 0,.slice none 0 0,.slice none 0 0] 45) by rw[hU];exact zF ((HBz.out.block _ (by omega)).trans R1.out) hg1);have HbU:=zb (show Below (w.heap.size+2) W U by rw[hU];exact HBz.out.trans ⟨rfl,rfl,rfl,by simp,fun k hk=>Below.heap_setCell _ _ _ _ (by show k≠g;omega)⟩);have HFin:=zb (show StTo (plB X) WL CL w (.returned (.agg #[.slice lr R.length lcr,.slice qa WL.length qc,.slice qa2 CL.length qc2])) (U.setRow (w.heap.size+1) #[.slice lr R.length lcr,.slice qa WL.length qc,.slice qa2 CL.length qc2])from by
       have o1:U.ownsRow (w.heap.size+4) 60 12 (.slice lr R.length lcr) R.length (R.flatMap zt):=by rw[hU];exact zq s2 (zi s2 HGz.out (by decide))
       have o2:U.ownsRow (w.heap.size+4) 102 5 (.slice qa WL.length qc) WL.length (WL.flatMap zC):=by rw[hU];exact zq HOz2.out (zi HOz2.out HGz.out (by decide))
       have o3:U.ownsRow (w.heap.size+4) 104 5 (.slice qa2 CL.length qc2) CL.length (CL.flatMap zC):=by rw[hU];exact zq HOz3.out (zi HOz3.out HGz.out (by decide))
       refine⟨lr,lcr,R,qa,qc,qa2,qc2,rfl,zr (zp o1 (zi o1 U1.out (by decide)) _) (by omega),s3,fun x hx=>?_,zr (zp o2 (zi o2 U1.out (by decide)) _) (by omega),zr (zp o3 (zi o3 U1.out (by decide)) _) (by omega),zk (HbW.out.trans (HbU.out.mono (by omega))) (by omega) _⟩;have h1:=s4 x hx;have r1:U.ownsRow (w.heap.size+4) 9 1 (.slice x.za x.zn x.zc) x.b.zs.length (x.b.zs.flatMap zm):=by rw[hU];exact zq h1.row (zi h1.row HGz.out (by decide))
       exact⟨zr (zp r1 (zi r1 U1.out (by decide)) _) (by omega),h1.sizes,h1.p,h1.len⟩);have HU:=zb hU;clear hU s1 s2 s3 s4;go_upto_region 27 with(fail);rw[<-HU.out];clear sc0 gc0 gf0;have y0:=cell_of_row U _ 0 _ _ _ UG.out;have y1:=cell_of_row U _ 1 _ _ _ UG.out;have y2:=cell_of_row U _ 2 _ _ _ UG.out;have tQ:=fun j=>cell_setRow_same U (w.heap.size+1) j _ #[.slice lr R.length lcr,.slice qa WL.length qc,.slice qa2 CL.length qc2] _ _ U1.out;have t0:=tQ 0;have t1:=tQ 1;have t2:=tQ 2;clear tQ;repeat (first|refine wpList_store_row rfl _ _ _ rfl (w.heap.size+1) #[.slice lr R.length lcr,.slice qa WL.length qc,.slice qa2 CL.length qc2] rfl rfl 45 _ U1.out (by kernel_rfl) rfl (by simp[Value.oneCell']) ?_|go_step)
      refine bodyPost_ret (v:=.agg #[.slice lr R.length lcr,.slice qa WL.length qc,.slice qa2 CL.length qc2]) (by simp[results,Tryz.results22,go_sem,t0,t1,t2]) rfl ?_;exact Or.inl ⟨HOff.out,HFin.out⟩
    have HOff:=zb (show ¬kK l ac t from fun h=>ht1 h.2.1);go_upto_region 26 with(fail);obtain⟨lr,lcr,R,s1,s2,s3,s4⟩:=HSz.out.row;have sc0:=cell_of_row Z _ 0 _ _ _ s1;have gc0:=cell_of_row Z _ 0 _ _ _ HGz.out;have gf0:=frozen_of_row Z _ 0 _ _ HGz.out;obtain⟨U,hU⟩:∃U,U=Z.setCell ⟨g,0,none⟩ (.slice lr R.length lcr):=⟨_,rfl⟩;have UG:=zb (show U.heap[g]?=some (Obj.cells #[.slice lr R.length lcr,.slice qa WL.length qc,.slice qa2 CL.length qc2] 45) by rw[hU];exact zU _ HGz.out);have hg1:w.heap.size+1≠g:=by omega
    have U1:=zb (show U.heap[w.heap.size+1]?=some (Obj.cells #[.slice none 0 0,.slice none 0 0,.slice none 0 0] 45) by rw[hU];exact zF ((HBz.out.block _ (by omega)).trans R1.out) hg1);have HbU:=zb (show Below (w.heap.size+2) W U by rw[hU];exact HBz.out.trans ⟨rfl,rfl,rfl,by simp,fun k hk=>Below.heap_setCell _ _ _ _ (by show k≠g;omega)⟩);have HFin:=zb (show StTo (plB X) WL CL w (.returned (.agg #[.slice lr R.length lcr,.slice qa WL.length qc,.slice qa2 CL.length qc2])) (U.setRow (w.heap.size+1) #[.slice lr R.length lcr,.slice qa WL.length qc,.slice qa2 CL.length qc2])from by
     have o1:U.ownsRow (w.heap.size+4) 60 12 (.slice lr R.length lcr) R.length (R.flatMap zt):=by rw[hU];exact zq s2 (zi s2 HGz.out (by decide))
     have o2:U.ownsRow (w.heap.size+4) 102 5 (.slice qa WL.length qc) WL.length (WL.flatMap zC):=by rw[hU];exact zq HOz2.out (zi HOz2.out HGz.out (by decide))
     have o3:U.ownsRow (w.heap.size+4) 104 5 (.slice qa2 CL.length qc2) CL.length (CL.flatMap zC):=by rw[hU];exact zq HOz3.out (zi HOz3.out HGz.out (by decide))
     refine⟨lr,lcr,R,qa,qc,qa2,qc2,rfl,zr (zp o1 (zi o1 U1.out (by decide)) _) (by omega),s3,fun x hx=>?_,zr (zp o2 (zi o2 U1.out (by decide)) _) (by omega),zr (zp o3 (zi o3 U1.out (by decide)) _) (by omega),zk (HbW.out.trans (HbU.out.mono (by omega))) (by omega) _⟩;have h1:=s4 x hx;have r1:U.ownsRow (w.heap.size+4) 9 1 (.slice x.za x.zn x.zc) x.b.zs.length (x.b.zs.flatMap zm):=by rw[hU];exact zq h1.row (zi h1.row HGz.out (by decide))
     exact⟨zr (zp r1 (zi r1 U1.out (by decide)) _) (by omega),h1.sizes,h1.p,h1.len⟩);have HU:=zb hU;clear hU s1 s2 s3 s4;go_upto_region 27 with(fail);rw[<-HU.out];clear sc0 gc0 gf0;have y0:=cell_of_row U _ 0 _ _ _ UG.out;have y1:=cell_of_row U _ 1 _ _ _ UG.out;have y2:=cell_of_row U _ 2 _ _ _ UG.out;have tQ:=fun j=>cell_setRow_same U (w.heap.size+1) j _ #[.slice lr R.length lcr,.slice qa WL.length qc,.slice qa2 CL.length qc2] _ _ U1.out;have t0:=tQ 0;have t1:=tQ 1;have t2:=tQ 2;clear tQ;repeat (first|refine wpList_store_row rfl _ _ _ rfl (w.heap.size+1) #[.slice lr R.length lcr,.slice qa WL.length qc,.slice qa2 CL.length qc2] rfl rfl 45 _ U1.out (by kernel_rfl) rfl (by simp[Value.oneCell']) ?_|go_step)
    refine bodyPost_ret (v:=.agg #[.slice lr R.length lcr,.slice qa WL.length qc,.slice qa2 CL.length qc2]) (by simp[results,Tryz.results22,go_sem,t0,t1,t2]) rfl ?_;exact Or.inl ⟨HOff.out,HFin.out⟩
  have HOff:=zb (show ¬kK l ac t from fun h=>ht0 h.1);go_upto_region 26 with(fail);obtain⟨lr,lcr,R,s1,s2,s3,s4⟩:=HSz.out.row;have sc0:=cell_of_row Z _ 0 _ _ _ s1;have gc0:=cell_of_row Z _ 0 _ _ _ HGz.out;have gf0:=frozen_of_row Z _ 0 _ _ HGz.out;obtain⟨U,hU⟩:∃U,U=Z.setCell ⟨g,0,none⟩ (.slice lr R.length lcr):=⟨_,rfl⟩;have UG:=zb (show U.heap[g]?=some (Obj.cells #[.slice lr R.length lcr,.slice qa WL.length qc,.slice qa2 CL.length qc2] 45) by rw[hU];exact zU _ HGz.out);have hg1:w.heap.size+1≠g:=by omega
  have U1:=zb (show U.heap[w.heap.size+1]?=some (Obj.cells #[.slice none 0 0,.slice none 0 0,.slice none 0 0] 45) by rw[hU];exact zF ((HBz.out.block _ (by omega)).trans R1.out) hg1);have HbU:=zb (show Below (w.heap.size+2) W U by rw[hU];exact HBz.out.trans ⟨rfl,rfl,rfl,by simp,fun k hk=>Below.heap_setCell _ _ _ _ (by show k≠g;omega)⟩);have HFin:=zb (show StTo (plB X) WL CL w (.returned (.agg #[.slice lr R.length lcr,.slice qa WL.length qc,.slice qa2 CL.length qc2])) (U.setRow (w.heap.size+1) #[.slice lr R.length lcr,.slice qa WL.length qc,.slice qa2 CL.length qc2])from by
   have o1:U.ownsRow (w.heap.size+4) 60 12 (.slice lr R.length lcr) R.length (R.flatMap zt):=by rw[hU];exact zq s2 (zi s2 HGz.out (by decide))
   have o2:U.ownsRow (w.heap.size+4) 102 5 (.slice qa WL.length qc) WL.length (WL.flatMap zC):=by rw[hU];exact zq HOz2.out (zi HOz2.out HGz.out (by decide))
   have o3:U.ownsRow (w.heap.size+4) 104 5 (.slice qa2 CL.length qc2) CL.length (CL.flatMap zC):=by rw[hU];exact zq HOz3.out (zi HOz3.out HGz.out (by decide))
   refine⟨lr,lcr,R,qa,qc,qa2,qc2,rfl,zr (zp o1 (zi o1 U1.out (by decide)) _) (by omega),s3,fun x hx=>?_,zr (zp o2 (zi o2 U1.out (by decide)) _) (by omega),zr (zp o3 (zi o3 U1.out (by decide)) _) (by omega),zk (HbW.out.trans (HbU.out.mono (by omega))) (by omega) _⟩;have h1:=s4 x hx;have r1:U.ownsRow (w.heap.size+4) 9 1 (.slice x.za x.zn x.zc) x.b.zs.length (x.b.zs.flatMap zm):=by rw[hU];exact zq h1.row (zi h1.row HGz.out (by decide))
   exact⟨zr (zp r1 (zi r1 U1.out (by decide)) _) (by omega),h1.sizes,h1.p,h1.len⟩);have HU:=zb hU;clear hU s1 s2 s3 s4;go_upto_region 27 with(fail);rw[<-HU.out];clear sc0 gc0 gf0;have y0:=cell_of_row U _ 0 _ _ _ UG.out;have y1:=cell_of_row U _ 1 _ _ _ UG.out;have y2:=cell_of_row U _ 2 _ _ _ UG.out;have tQ:=fun j=>cell_setRow_same U (w.heap.size+1) j _ #[.slice lr R.length lcr,.slice qa WL.length qc,.slice qa2 CL.length qc2] _ _ U1.out;have t0:=tQ 0;have t1:=tQ 1;have t2:=tQ 2;clear tQ;repeat (first|refine wpList_store_row rfl _ _ _ rfl (w.heap.size+1) #[.slice lr R.length lcr,.slice qa WL.length qc,.slice qa2 CL.length qc2] rfl rfl 45 _ U1.out (by kernel_rfl) rfl (by simp[Value.oneCell']) ?_|go_step)
  refine bodyPost_ret (v:=.agg #[.slice lr R.length lcr,.slice qa WL.length qc,.slice qa2 CL.length qc2]) (by simp[results,Tryz.results22,go_sem,t0,t1,t2]) rfl ?_;exact Or.inl ⟨HOff.out,HFin.out⟩
end Go.Proofs.YtngippiilgdnoaaGreat
namespace Go.Proofs.YtngippiilgdnoaaGreat
open Go.RowKit
def NP (b1 base:Nat) (sa wa ca:Option Addr) (sc wc cc:Nat) (X:List BuX) (WL CL:List I5):Nat->Value->World->Prop
 |0,v,_=>v=.pointer (some ⟨b1,0,none⟩)
 |1,v,_=>v=.slice sa X.length sc
 |2,v,w=>∃(a:Option Addr) (c:Nat) (R:List BuX),v=.slice a R.length c/\w.ownsRow base 60 12 (.slice a R.length c) R.length (R.flatMap zt)/\plB R=plB X/\(∀r∈R,BuO base w r)
 |3,v,w=>∃g,v=.slice (some ⟨g,0,none⟩) 0 0/\w.ownsRow base 102 5 (.slice (some ⟨g,0,none⟩) 0 0) 0 []
 |4,v,_=>v=.pointer (some ⟨b1,1,none⟩)
 |5,v,_=>v=.slice wa WL.length wc
 |6,v,w=>∃a c,v=.slice a WL.length c/\w.ownsRow base 102 5 (.slice a WL.length c) WL.length (WL.flatMap zC)
 |7,v,w=>∃g,v=.slice (some ⟨g,0,none⟩) 0 0/\w.ownsRow base 104 5 (.slice (some ⟨g,0,none⟩) 0 0) 0 []
 |8,v,_=>v=.pointer (some ⟨b1,2,none⟩)
 |9,v,_=>v=.slice ca CL.length cc
 |10,v,w=>∃a c,v=.slice a CL.length c/\w.ownsRow base 104 5 (.slice a CL.length c) CL.length (CL.flatMap zC)
 |11,v,w=>∃(a:Option Addr) (c:Nat) (R:List BuX) (a2:Option Addr) (c2:Nat) (a3:Option Addr) (c3:Nat),v=.agg #[.slice a R.length c,.slice a2 WL.length c2,.slice a3 CL.length c3]/\(w.ownsRow base 60 12 (.slice a R.length c) R.length (R.flatMap zt)/\plB R=plB X/\(∀r∈R,BuO base w r))/\w.ownsRow base 102 5 (.slice a2 WL.length c2) WL.length (WL.flatMap zC)/\w.ownsRow base 104 5 (.slice a3 CL.length c3) CL.length (CL.flatMap zC)
 |_,_,_=>True
theorem yW {b1 base:Nat} {sa wa ca:Option Addr} {sc wc cc:Nat} {X:List BuX} {WL CL:List I5} {w1 w2:World} (hb:Below w1.heap.size w1 w2):∀kQ yQ,NP b1 base sa wa ca sc wc cc X WL CL kQ yQ w1->NP b1 base sa wa ca sc wc cc X WL CL kQ yQ w2
 |0,_,h=>h
 |1,_,h=>h
 |2,_,h=>(by obtain⟨a,c,R,h1,h2,h3,h4⟩:=h;exact⟨a,c,R,h1,ze h2 hb,h3,fun r hr=>(h4 r hr).below hb⟩)
 |3,_,h=>(by obtain⟨g,h1,h2⟩:=h;exact⟨g,h1,ze h2 hb⟩)
 |4,_,h=>h
 |5,_,h=>h
 |6,_,h=>(by obtain⟨a,c,h1,h2⟩:=h;exact⟨a,c,h1,ze h2 hb⟩)
 |7,_,h=>(by obtain⟨g,h1,h2⟩:=h;exact⟨g,h1,ze h2 hb⟩)
 |8,_,h=>h
 |9,_,h=>h
 |10,_,h=>(by obtain⟨a,c,h1,h2⟩:=h;exact⟨a,c,h1,ze h2 hb⟩)
 |11,_,h=>(by obtain⟨a,c,R,a2,c2,a3,c3,h1,⟨h2,h3,h4⟩,h5,h6⟩:=h;exact⟨a,c,R,a2,c2,a3,c3,h1,⟨ze h2 hb,h3,fun r hr=>(h4 r hr).below hb⟩,ze h5 hb,ze h6 hb⟩)
 |_+12,_,_=>trivial
theorem Jx (X:List BuX) (WL CL:List I5) (sa wa ca:Option Addr) (sc wc cc:Nat) (w:World) (hX:zh zt 12 w (.slice sa X.length sc) X) (hx:∀x∈X,BuRd w x) (hl:X.length<=400000)
 (hWL:zh zC 5 w (.slice wa WL.length wc) WL) (hWn:WL.length<=1000) (hCL:zh zC 5 w (.slice ca CL.length cc) CL) (hCn:CL.length<=1000):
 Calls Tryz.prog 58 #[.agg #[.slice sa X.length sc,.slice wa WL.length wc,.slice ca CL.length cc]] w (StTo (plB X) WL CL w):=by
 obtain⟨W,hW,r0,r1,hw0,hz⟩:=yL w (Obj.cells #[.slice sa X.length sc,.slice wa WL.length wc,.slice ca CL.length cc] 45) (Obj.cells #[.slice none 0 0,.slice none 0 0,.slice none 0 0] 45);have HW:=zb hW;have R0:=zb r0;have R1:=zb r1;have Hz:=zb hz;have Hb:=zb hw0;have HWn:=zb hWn;have HCn:=zb hCn;have HCo:=zb (fun Z (hZ:Below W.heap.size W Z)=>Jy _ X Z ((hX.below hw0).below hZ) (fun x h=>((hx x h).below hw0).below hZ) hl);have HWZ:=zb (fun Z (hZ:Below W.heap.size W Z)=>(hWL.below hw0).below hZ);have HCZ:=zb (fun Z (hZ:Below W.heap.size W Z)=>(hCL.below hw0).below hZ);have HAw:=zb (show ∀Z,Below W.heap.size W Z->Z.cell? ⟨w.heap.size,0,none⟩=some (.slice sa X.length sc)/\Z.cell? ⟨w.heap.size,1,none⟩=some (.slice wa WL.length wc)/\Z.cell? ⟨w.heap.size,2,none⟩=some (.slice ca CL.length cc)from fun Z hZ=>by
  have q0:=(hZ.block _ (by have:=Hz.out;omega)).trans R0.out;exact⟨cell_of_row Z _ 0 _ _ _ q0,cell_of_row Z _ 1 _ _ _ q0,cell_of_row Z _ 2 _ _ _ q0⟩);clear hW r0 r1 hw0 hz hx hWn hCn hX hWL hCL;go_enter Tryz.func58,Tryz.ntmps58;go_upto_region 1 with(fail);rw[<-HW.out];refine zN 12 (fun w'=>Below W.heap.size W w') (NP w.heap.size W.heap.size sa wa ca sc wc cc X WL CL) (by kernel_rfl) (by kernel_rfl) (Below.refl _ _).drew ?_ ?_
 · generalize hfr:(fun v:Nat->Value=>_)=fr
   simp only[List.take_succ_cons,List.take_zero,List.map_cons,List.map_nil,zB,List.setIfInBounds_toArray,List.set_cons_succ,List.set_cons_zero,Nat.zero_add,Nat.reduceAdd]at hfr;simp only[List.take_succ_cons,List.take_zero,yN];refine⟨?_,?_,?_,?_,?_,?_,?_,?_,?_,?_,?_,?_,trivial⟩
   · intro v w5 hC hd K hK
     rw[<-hfr]at hK⊢;go_simp;exact hK _ _ hC (yW (Below.refl _ _)) rfl
   · intro v w5 hC hd K hK
     obtain⟨(e0:v 0=_),-⟩:=hd;obtain⟨p0,p1,p2⟩:=HAw.out w5 hC;rw[<-hfr]at hK⊢;simp only[e0]at hK⊢;go_simp;exact hK _ _ hC (yW (Below.refl _ _)) rfl
   · intro v w5 hC hd K hK
     obtain⟨(e1:v 1=_),-⟩:=hd;rw[<-hfr]at hK⊢;simp only[e1]at hK⊢;go_simp;refine(HCo.out w5 hC).mono ?_;rintro e w6 ⟨a,c,R,rfl,h1,h2,h3,hb4⟩;exact hK _ _ (hC.trans (hb4.mono hC.size)) (yW hb4) ⟨a,c,R,rfl,zr h1 hC.size,h2,fun r hr=>(h3 r hr).down hC.size⟩
   · intro v w5 hC hd K hK
     rw[<-hfr]at hK⊢;go_simp;exact hK _ _ (hC.alloc hC.size _) (yW ((Below.refl _ _).alloc (Nat.le_refl _) _)) ⟨_,rfl,zr (yx _ _) hC.size⟩
   · intro v w5 hC hd K hK
     rw[<-hfr]at hK⊢;go_simp;exact hK _ _ hC (yW (Below.refl _ _)) rfl
   · intro v w5 hC hd K hK
     obtain⟨(e4:v 4=_),-⟩:=hd;obtain⟨p0,p1,p2⟩:=HAw.out w5 hC;rw[<-hfr]at hK⊢;simp only[e4]at hK⊢;go_simp;exact hK _ _ hC (yW (Below.refl _ _)) rfl
   · intro v w5 hC hd K hK
     obtain⟨f3,f5,-⟩:=hd;obtain⟨g,e3,hg⟩:∃g,v 3=.slice (some ⟨g,0,none⟩) 0 0/\w5.ownsRow W.heap.size 102 5 (.slice (some ⟨g,0,none⟩) 0 0) 0 []:=f3;have e5:v 5=_:=f5;refine zV (c:=zC) (sz:=5) (fun _=>rfl) KZ 102 42 _ 40 Tryz.underlying42 Tryz.walInfo rfl (by decide) rfl _ _ rfl W.heap.size hC.size (some ⟨g,0,none⟩) _ WL (by rw[<-hfr];exact e3) (by rw[<-hfr];exact e5) hg (HWZ.out w5 hC) (by have:=HWn.out;unfold maxLen;omega) (by have:=HWn.out;omega) ?_;intro v' w6 h1 hb4;obtain⟨a6,c6,rfl,-,-⟩:=zf h1;exact hK _ _ (hC.trans (hb4.mono hC.size)) (yW hb4) ⟨a6,c6,rfl,h1⟩
   · intro v w5 hC hd K hK
     rw[<-hfr]at hK⊢;go_simp;exact hK _ _ (hC.alloc hC.size _) (yW ((Below.refl _ _).alloc (Nat.le_refl _) _)) ⟨_,rfl,zr (yx _ _) hC.size⟩
   · intro v w5 hC hd K hK
     rw[<-hfr]at hK⊢;go_simp;exact hK _ _ hC (yW (Below.refl _ _)) rfl
   · intro v w5 hC hd K hK
     obtain⟨(e8:v 8=_),-⟩:=hd;obtain⟨p0,p1,p2⟩:=HAw.out w5 hC;rw[<-hfr]at hK⊢;simp only[e8]at hK⊢;go_simp;exact hK _ _ hC (yW (Below.refl _ _)) rfl
   · intro v w5 hC hd K hK
     obtain⟨f7,f9,-⟩:=hd;obtain⟨g,e7,hg⟩:∃g,v 7=.slice (some ⟨g,0,none⟩) 0 0/\w5.ownsRow W.heap.size 104 5 (.slice (some ⟨g,0,none⟩) 0 0) 0 []:=f7;have e9:v 9=_:=f9;refine zV (c:=zC) (sz:=5) (fun _=>rfl) KZ 104 43 _ 40 Tryz.underlying43 Tryz.cntInfo rfl (by decide) rfl _ _ rfl W.heap.size hC.size (some ⟨g,0,none⟩) _ CL (by rw[<-hfr];exact e7) (by rw[<-hfr];exact e9) hg (HCZ.out w5 hC) (by have:=HCn.out;unfold maxLen;omega) (by have:=HCn.out;omega) ?_;intro v' w6 h1 hb4;obtain⟨a6,c6,rfl,-,-⟩:=zf h1;exact hK _ _ (hC.trans (hb4.mono hC.size)) (yW hb4) ⟨a6,c6,rfl,h1⟩
   intro v w5 hC hd K hK;obtain⟨f2,f6,f10,-⟩:=hd;obtain⟨a,c,R,e2,h2⟩:∃(a:Option Addr) (c:Nat) (R:List BuX),v 2=.slice a R.length c/\w5.ownsRow W.heap.size 60 12 (.slice a R.length c) R.length (R.flatMap zt)/\plB R=plB X/\(∀r∈R,BuO W.heap.size w5 r):=f2;obtain⟨a2,c2,e6,h6⟩:∃a c,v 6=.slice a WL.length c/\w5.ownsRow W.heap.size 102 5 (.slice a WL.length c) WL.length (WL.flatMap zC):=f6;obtain⟨a3,c3,e10,h10⟩:∃a c,v 10=.slice a CL.length c/\w5.ownsRow W.heap.size 104 5 (.slice a CL.length c) CL.length (CL.flatMap zC):=f10;rw[<-hfr]at hK⊢;simp only[e2,e6,e10]at hK⊢;go_simp;exact hK _ _ hC (yW (Below.refl _ _)) ⟨a,c,R,a2,c2,a3,c3,rfl,h2,h6,h10⟩
 intro v w5 hC hall;obtain⟨a,c,R,a2,c2,a3,c3,e11,⟨h2,h3,h4⟩,h5,h6⟩:∃(a:Option Addr) (c:Nat) (R:List BuX) (a2:Option Addr) (c2:Nat) (a3:Option Addr) (c3:Nat),v 11=.agg #[.slice a R.length c,.slice a2 WL.length c2,.slice a3 CL.length c3]/\(w5.ownsRow W.heap.size 60 12 (.slice a R.length c) R.length (R.flatMap zt)/\plB R=plB X/\(∀r∈R,BuO W.heap.size w5 r))/\w5.ownsRow W.heap.size 102 5 (.slice a2 WL.length c2) WL.length (WL.flatMap zC)/\w5.ownsRow W.heap.size 104 5 (.slice a3 CL.length c3) CL.length (CL.flatMap zC):=hall.2;have ZR:=zb ((hC.block _ Hz.out).trans R1.out);have hle:=Hb.out.size;have HFin:=zb (show StTo (plB X) WL CL w (.returned (.agg #[.slice a R.length c,.slice a2 WL.length c2,.slice a3 CL.length c3])) (w5.setRow (w.heap.size+1) #[.slice a R.length c,.slice a2 WL.length c2,.slice a3 CL.length c3])from
  ⟨a,c,R,a2,c2,a3,c3,rfl,zr (zp h2 (zi h2 ZR.out (by decide)) _) hle,h3,fun x hx=>⟨zr (zp (h4 x hx).row (zi (h4 x hx).row ZR.out (by decide)) _) hle,(h4 x hx).sizes,(h4 x hx).p,(h4 x hx).len⟩,zr (zp h5 (zi h5 ZR.out (by decide)) _) hle,zr (zp h6 (zi h6 ZR.out (by decide)) _) hle,zk (Hb.out.trans (hC.mono hle)) (by omega) _⟩);simp only[List.take_succ_cons,List.take_zero,List.map_cons,List.map_nil,zB,List.setIfInBounds_toArray,List.set_cons_succ,List.set_cons_zero,Nat.zero_add,Nat.reduceAdd,List.drop_succ_cons,List.drop_zero];simp only[e11];generalize v 0=y0,v 1=y1,v 2=y2,v 3=y3,v 4=y4,v 5=y5,v 6=y6,v 7=y7,v 8=y8,v 9=y9,v 10=y10;clear e11 hall h2 h3 h4 h5 h6 v;have tQ:=fun j=>cell_setRow_same w5 (w.heap.size+1) j _ #[.slice a R.length c,.slice a2 WL.length c2,.slice a3 CL.length c3] _ _ ZR.out;have t0:=tQ 0;have t1:=tQ 1;have t2:=tQ 2;clear tQ;repeat (first|refine wpList_store_row rfl _ _ _ rfl (w.heap.size+1) #[.slice a R.length c,.slice a2 WL.length c2,.slice a3 CL.length c3] rfl rfl 45 _ ZR.out (by kernel_rfl) rfl (by simp[Value.oneCell']) ?_|go_step)
 refine bodyPost_ret (v:=.agg #[.slice a R.length c,.slice a2 WL.length c2,.slice a3 CL.length c3]) (by simp[results,Tryz.results58,go_sem,t0,t1,t2]) rfl ?_;exact HFin.out
theorem Xg {P:List Pd} (hf:∀p∈P,p.bs.length<=4) (ac:Int) (h:Had) (A:List (Int×Int)) (c:Int×Int):(yG P ac h A c).length<=4:=by
 unfold yG;split;· exact Nat.zero_le _
 rw[Vx];rename_i q _;cases ha:atL P h.2 q.1 with
 |none=>exact Nat.zero_le _
 |some x=>
   have hx:x∈P:=by unfold atL at ha;exact(List.mem_filter.1 (List.mem_of_getLast? ha)).1
   exact hf x hx
theorem xZ {l:List Ev} {ac:Int} {H:List Had} (h:jw l ac H):H.length<=l.length:=by
 have h1:H.Nodup:=h.srt.imp (fun {a b} hab e=>by subst e;exact k9 _ hab);have h2:=qH H (l.map fun e=>(e.sb,e.nm)) h1 (fun x hx=>by
  obtain⟨e,he,-,-,rfl⟩:=(h.mem x).1 hx;exact List.mem_map.2 ⟨e,he,rfl⟩);rwa[List.length_map]at h2
theorem Em {a:Int} (ha:1<=a) (hb:a<=28) {A:List (Int×Int)} (hA:∀p∈A,0<=p.1/\p.1<p.2/\p.2<=12622780800) {t:Int} (h0:0<=t) (h1:t<12622780800) {O:List (Int×Int)} (h:vH a A t O):O.length<=(A.flatMap (vy a t)).length:=by
 have hs:=qH _ ((A.flatMap (vy a t)).map (·.1)) (Y5 h.srt) fun y hy=>by
  obtain⟨c,hc,rfl⟩:=List.mem_map.1 hy;obtain⟨m,m1,m2,e,x,⟨p,hp,x1,x2⟩,y1,y2,x3,x4⟩:=(h.mem c).1 hc;obtain⟨w0,w1,w2⟩:=hA p hp;refine List.mem_map.2 ⟨c,List.mem_flatMap.2 ⟨p,hp,?_⟩,rfl⟩;unfold vy;rw[if_pos ((vz _ _ _ _).2 ⟨(zx _ _).2 ⟨w0,w1,w2⟩,(zx _ _).2 ⟨by decide,by omega,by omega⟩,by omega⟩)];exact(qp ha hb (p:=(max p.1 0,min p.2 (t+1))) (by dsimp only;omega) (by dsimp only;omega) (by dsimp only;omega)).2 ⟨m,m1,m2,e,x,by dsimp only;omega,by dsimp only;omega,x3,x4⟩
 rwa[List.length_map,List.length_map]at hs
theorem Wn {l:List Ev} {P:List Pd} {ac t:Int} {H:List Had} {O:List (Int×Int)} (hf:∀p∈P,p.bs.length<=4) (hl:l.length<=40) (h:jw l ac H) (ho:O.length<=1600):(zL l P ac t H O).length<=300000:=by
 have h1:=xZ h;have h3:∀c∈O,(vX l P ac t H c).length<=160:=fun c _=>by
  have h4:=uu (fun h=>(yG P ac h (actL h.1 h.2 l) c).filter fun g=>decide (g.1.f<=t)) 4 H (fun x _=>Nat.le_trans (List.length_filter_le _ _) (Xg hf _ _ _ _));show(H.flatMap _).length<=160;omega
 have h5:=uu (vX l P ac t H) 160 O h3;show(O.flatMap _).length<=_;omega
theorem ZU {l:List Ev} {P:List Pd} {ac t:Int} {H:List Had} {O:List (Int×Int)} {g:Bu×Int} (hg:g∈zL l P ac t H O):g.1.f<=t/\∃h∈H,∃c∈O,g∈yG P ac h (actL h.1 h.2 l) c:=by unfold zL at hg;obtain⟨c,hc,hg⟩:=List.mem_flatMap.1 hg;unfold vX at hg;obtain⟨h,hh,hg⟩:=List.mem_flatMap.1 hg;obtain⟨h1,h2⟩:=List.mem_filter.1 hg;exact⟨of_decide_eq_true h2,h,hh,c,hc,h1⟩
theorem jg {P:List Pd} {ac:Int} {h:Had} {A:List (Int×Int)} {c:Int×Int} {g:Bu×Int} (hg:g∈yG P ac h A c):∃p∈A,∃(i:Nat) (x:Pd) (b:Bd),x∈P/\x.bs[i]?=some b/\yY p.1 p.2 c.1 c.2=true/\atL P h.2 (max p.1 c.1)=some x/\g=(buOf ac h (max p.1 c.1,min p.2 c.2) i b,b.ro):=by
 unfold yG at hg;cases hq:ju A c with
 |none=>rw[hq]at hg;cases hg
 |some q=>
   rw[hq]at hg;simp only[]at hg;unfold ju at hq;cases hp:A.find? (fun p=>yY p.1 p.2 c.1 c.2)with
   |none=>rw[hp]at hq;cases hq
   |some p=>
     rw[hp]at hq;simp only[Option.some.injEq]at hq;subst hq;unfold qg at hg;obtain⟨i,hi,he⟩:=List.mem_mapIdx.1 hg;cases ha:atL P h.2 (max p.1 c.1)with
     |none=>simp[ha,bsOf]at hi
     |some x=>
       have hx:x∈P:=by unfold atL at ha;exact(List.mem_filter.1 (List.mem_of_getLast? ha)).1
       refine⟨p,List.mem_of_find?_eq_some hp,i,x,x.bs[i]'(by simpa [ha,bsOf]using hi),hx,List.getElem?_eq_getElem _,List.find?_some (p:=fun p:Int×Int=>yY p.1 p.2 c.1 c.2) hp,ha,?_⟩;rw[<-he];simp[ha,bsOf]
theorem Gw {l:List Ev} {P:List Pd} {ac t:Int} (hr:yB l) (hl:l.length<=40) (hn:ZC l t) (hs:∀e∈l,e.nm.size<=maxLen) (hf:∀p∈P,p.bs.length<=4) (ha:vn l ac<=28) (ht:t<=9223372036854775807):AdvH l P ac t:=by
 refine⟨ha,fun H _=>uS hr,fun H hH hOn=>VY hr hl hn hOn.2.1 hH.srt,fun H O hH hO g hg=>?_,fun H O hH hO hOn=>Wn hf hl hH (Nat.le_trans (Em (by have:=hOn.2.2;omega) ha (uS hr) hOn.1 hOn.2.1 hO) (VY hr hl hn hOn.2.1 hH.srt))⟩;obtain⟨hft,h,hh,c,hc,hg⟩:=ZU hg;obtain⟨p,hp,i,x,b,hx,hi,-,-,rfl⟩:=jg hg;obtain⟨e,he,hk,-,rfl⟩:=(hH.mem h).1 hh;have h0:=(uS hr (H:=H) p (List.mem_flatMap.2 ⟨_,hh,hp⟩)).1;obtain⟨k,hkl,rfl⟩:=List.mem_iff_getElem.1 he;have hsb:-9223372036854775808<=(l[k]).sb/\(l[k]).sb<=9223372036854775807:=by
  have h:=hr k hkl;cases hu:qN (l[k]).kd with
  |true=>have:=h.s1 hu;omega
  |false=>have:=h.s0 hu;omega
 have hib:i<4:=by have h1:=(List.getElem?_eq_some_iff.1 hi).1;have h2:=hf x hx;omega
 have hft:max p.1 c.1<=t:=hft;exact⟨wf64 hsb.1 hsb.2,hs _ (List.getElem_mem hkl),wf64 (show(-9223372036854775808:Int)<=(i:Int) by omega) (show(i:Int)<=9223372036854775807 by omega),wf64 (show(-9223372036854775808:Int)<=max p.1 c.1 by omega) (show max p.1 c.1<=9223372036854775807 by omega)⟩
theorem Ks {l:List Ev} (hr:yB l) (n:Int):0<=vn l n/\vn l n<=28:=by
 unfold vn;cases ho:Yj l n with
 |none=>exact⟨by decide,by decide⟩
 |some o=>
   obtain⟨h1,h2,-⟩:=ZM ho;obtain⟨-,-,h3,h4⟩:=W7 (gO hr) h1 h2;have h5:0<=o.vl:=by omega
   exact⟨h5,h4⟩
theorem kq {α β:Type} (p:α->Bool) (f:α->List β):∀L:List α,(∀x∈L,p x=false->f x=[])->L.flatMap f=(L.filter p).flatMap f
 | [],_=>rfl
 |x::L,h=>by
   have ih:=kq p f L (fun y hy=>h y (List.mem_cons_of_mem _ hy));rw[List.flatMap_cons,List.filter_cons,ih];cases hp:p x with
   |true=>simp
   |false=>rw[h x (List.mem_cons_self ..) hp];simp
theorem Vw {l:List Ev} {P:List Pd} {ac t u a:Int} {H:List Had} {Ot Ou:List (Int×Int)} (hr:yB l) (ht:vH a (vu l H) t Ot) (hu:vH a (vu l H) u Ou) (htu:t<=u):
 zL l P ac t H Ot=(zL l P ac u H Ou).filter fun g=>decide (g.1.f<=t):=by
 have e1:(zL l P ac u H Ou).filter (fun g=>decide (g.1.f<=t))=Ou.flatMap (vX l P ac t H):=by
  unfold zL;rw[List.filter_flatMap]
  congr 1
  funext c
  show((H.flatMap _).filter _)=H.flatMap _;rw[List.filter_flatMap]
  congr 1
  funext h
  rw[List.filter_filter]
  congr 1
  funext g
  by_cases hg:g.1.f<=t;· rw[decide_eq_true hg,decide_eq_true (show g.1.f<=u by omega)];rfl
  rw[decide_eq_false hg];rfl
 have e2:Ou.flatMap (vX l P ac t H)=(Ou.filter fun c=>decide (c∈Ot)).flatMap (vX l P ac t H):=
  kq _ _ _ fun c hc hn=>by
   have hn:c∉Ot:=of_decide_eq_false hn;apply List.eq_nil_iff_forall_not_mem.2;intro g hg;apply hn;have hg2:g∈zL l P ac t H [c]:=by unfold zL;rw[List.flatMap_singleton];exact hg
   obtain⟨hf,h,hh,c',hc',hg3⟩:=ZU hg2;obtain rfl:=List.mem_singleton.1 hc';obtain⟨p,hp,i,x,b,-,-,hm,-,rfl⟩:=jg hg3;obtain⟨-,-,hm⟩:=(vz _ _ _ _).1 hm;obtain⟨m,hm0,hm1,rfl,-⟩:=(hu.mem c').1 hc;have hpa:p∈vu l H:=List.mem_flatMap.2 ⟨_,hh,hp⟩;have h0:=(uS hr (H:=H) p hpa).1;have hf:max p.1 (beg a m)<=t:=hf;have hm:max p.1 (beg a m)<min p.2 (beg a (m+1)):=hm;exact(ht.mem _).2 ⟨m,hm0,hm1,rfl,max p.1 (beg a m),⟨p,hpa,by omega,by omega⟩,by omega,hf,by omega,by omega⟩
 have e3:(Ou.filter fun c=>decide (c∈Ot))=Ot:=
  Zj (r:=fun c d:Int×Int=>c.1<d.1) (fun _=>Int.lt_irrefl _) (fun _ _ _ h g=>Int.lt_trans h g) _ _ (hu.srt.filter _) ht.srt fun c=>by
   rw[List.mem_filter,decide_eq_true_eq];refine⟨fun h=>h.2,fun h=>⟨?_,h⟩⟩;obtain⟨m,h1,h2,h3,x,h4,h5,h6,h7,h8⟩:=(ht.mem c).1 h;exact(hu.mem c).2 ⟨m,h1,h2,h3,x,h4,h5,by omega,h7,h8⟩
 rw[e1,e2,e3];rfl
def WN (a b:Bu×Int):Prop:=yC a.1 b.1=false/\zQ b.1 a.1=false
theorem XF {a b:Bu×Int} (h:¬(a.1.sb=b.1.sb/\a.1.pr=b.1.pr/\a.1.ix=b.1.ix)):WN a b:=by
 constructor
 · cases hs:yC a.1 b.1 with
   |false=>rfl
   |true=>unfold yC at hs;simp only[Bool.and_eq_true,decide_eq_true_eq,zH]at hs;exact absurd ⟨hs.1.1.1,hs.1.1.2,hs.1.2⟩ h
 cases hs:zQ b.1 a.1 with
 |false=>rfl
 |true=>unfold zQ at hs;simp only[Bool.and_eq_true,decide_eq_true_eq,zH]at hs;exact absurd ⟨hs.1.1.1.1.symm,hs.1.1.1.2.symm,hs.1.1.2.symm⟩ h
theorem gB {a b:Bu×Int} (h1:a.1.f<b.1.f) (h2:b.1.f<b.1.t):WN a b:=by
 constructor
 · cases hs:yC a.1 b.1 with
   |false=>rfl
   |true=>unfold yC at hs;simp only[Bool.and_eq_true,decide_eq_true_eq]at hs;omega
 cases hs:zQ b.1 a.1 with
 |false=>rfl
 |true=>unfold zQ at hs;simp only[Bool.and_eq_true,decide_eq_true_eq]at hs;omega
theorem Ed {l:List Ev} {P:List Pd} {ac t a:Int} {H:List Had} {O:List (Int×Int)} (ha:1<=a) (hb:a<=28) (hH:jw l ac H) (hO:vH a (vu l H) t O):Jg (zL l P ac t H O):=by
 have key:(zL l P ac t H O).Pairwise WN:=by
  unfold zL;rw[List.pairwise_flatMap];constructor
  · intro c hc
    unfold vX;rw[List.pairwise_flatMap];constructor
    · intro h hh
      refine List.Pairwise.filter _ ?_;unfold yG;split;· exact List.Pairwise.nil
      unfold qg;rw[List.pairwise_iff_getElem];intro i j hi hj hij;rw[List.getElem_mapIdx,List.getElem_mapIdx];refine XF fun h=>?_;have h3:(i:Int)=(j:Int):=h.2.2;omega
    refine hH.srt.imp fun {h h'} hlt x hx y hy=>?_;obtain⟨hx,-⟩:=List.mem_filter.1 hx;obtain⟨hy,-⟩:=List.mem_filter.1 hy;obtain⟨p,-,i,u,b,-,-,-,-,rfl⟩:=jg hx;obtain⟨q,-,j,v,d,-,-,-,-,rfl⟩:=jg hy;refine XF fun hs=>?_;have h1:h.1=h'.1:=hs.1;have h2:h.2=h'.2:=hs.2.1;have h3:h=h':=Prod.ext h1 h2;exact k9 h' (h3▸hlt)
  refine List.Pairwise.imp_of_mem (fun {c c'} hc hc' hlt x hx y hy=>?_) hO.srt;obtain⟨m,-,-,rfl,-⟩:=(hO.mem c).1 hc;obtain⟨m',-,-,rfl,-⟩:=(hO.mem c').1 hc';have hlt:beg a m<beg a m':=hlt;have hmm:m<m':=by apply Int.lt_of_not_ge;intro h;have:=vw ha hb h;omega
  have hmm2:=vw ha hb (show m+1<=m' by omega);unfold vX at hx hy;obtain⟨h,-,hx⟩:=List.mem_flatMap.1 hx;obtain⟨h',-,hy⟩:=List.mem_flatMap.1 hy;obtain⟨hx,-⟩:=List.mem_filter.1 hx;obtain⟨hy,-⟩:=List.mem_filter.1 hy;obtain⟨p,-,i,u,b,-,-,hm1,-,rfl⟩:=jg hx;obtain⟨q,-,j,v,d,-,-,hm2,-,rfl⟩:=jg hy;obtain⟨-,-,hm1⟩:=(vz _ _ _ _).1 hm1;obtain⟨-,-,hm2⟩:=(vz _ _ _ _).1 hm2;have hm1:max p.1 (beg a m)<min p.2 (beg a (m+1)):=hm1;have hm2:max q.1 (beg a m')<min q.2 (beg a (m'+1)):=hm2;exact gB (show max p.1 (beg a m)<max q.1 (beg a m') by omega) hm2
 exact⟨key.imp fun h=>h.1,key.imp fun h=>h.2⟩
theorem Xe {l:List Ev} {P:List Pd} {ac t u:Int} {H:List Had} {O:List (Int×Int)}:∀x∈zL l P ac u H O,∀y∈zL l P ac u H O,zQ x.1 y.1=true->decide (y.1.f<=t)=true->decide (x.1.f<=t)=true:=by intro x hx y hy hp hf;obtain⟨-,h,-,c,-,hx⟩:=ZU hx;obtain⟨p,-,i,v,b,-,-,hm1,-,rfl⟩:=jg hx;obtain⟨-,-,hm1⟩:=(vz _ _ _ _).1 hm1;unfold zQ at hp;simp only[Bool.and_eq_true,decide_eq_true_eq]at hp;have h1:min p.2 c.2=y.1.f:=hp.2;have hf:=of_decide_eq_true hf;exact decide_eq_true (show max p.1 c.1<=t by omega)
theorem gC {l:List Ev} {P:List Pd} {ac t u a:Int} {H:List Had} {Ot Ou:List (Int×Int)} {L:List Bu} (hr:yB l) (ha:1<=a) (hb:a<=28) (hL:OrdB L) (hH:jw l ac H) (ht:vH a (vu l H) t Ot) (hu:vH a (vu l H) u Ou) (htu:t<=u):
 yl (zL l P ac u H Ou) (yl (zL l P ac t H Ot) L)=yl (zL l P ac u H Ou) L:=by
 rw[Vw hr ht hu htu];exact Eg hL (Ed ha hb hH hu) (fun x hx y hy h1 h2=>Xe x hx y hy h1 h2)
theorem K1 {G:List (Bu×Int)} {L:List Bu} (h:∀g∈G,yi L g.1=true):yl G L=L:=ZW G h
theorem ED {l:List Ev} {P:List Pd} {ac t u a:Int} {H:List Had} {Ot Ou:List (Int×Int)} {L:List Bu} (hr:yB l) (ht:vH a (vu l H) t Ot) (hu:vH a (vu l H) u Ou) (htu:t<=u):
 yl (zL l P ac t H Ot) (yl (zL l P ac u H Ou) L)=yl (zL l P ac u H Ou) L:=by
 refine K1 fun g hg=>?_;rw[Vw hr ht hu htu]at hg;exact Y0 _ (List.mem_filter.1 hg).1
def GsOf (l:List Ev) (P:List Pd) (ac t:Int) (G:List (Bu×Int)):Prop:=(¬kK l ac t/\G=[])\/(kK l ac t/\∃H O,jw l ac H/\vH (vn l ac) (vu l H) t O/\G=zL l P ac t H O)
theorem Ky.gs {l:List Ev} {P:List Pd} {ac t:Int} {L:List Bu} {WL CL:List I5} {w w':World} {e:Ending} (h:Ky l P ac t L WL CL w e w'):∃G,GsOf l P ac t G/\StTo (yl G L) WL CL w e w':=by
 rcases h with⟨h1,h2⟩|⟨h1,H,O,h2,h3,h4⟩;· exact⟨[],Or.inl ⟨h1,rfl⟩,h2⟩
 exact⟨_,Or.inr ⟨h1,H,O,h2,h3,rfl⟩,h4⟩
section
variable {l:List Ev} {P:List Pd} {ac t u:Int} {G K:List (Bu×Int)} {L:List Bu}
theorem GsOf.one (h:GsOf l P ac t G) (g:GsOf l P ac t K):G=K:=by
 rcases h with⟨h1,rfl⟩|⟨h1,H,O,h2,h3,rfl⟩
 · rcases g with⟨g1,rfl⟩|⟨g1,-⟩
   · rfl
   exact absurd g1 h1
 rcases g with⟨g1,-⟩|⟨g1,H',O',g2,g3,rfl⟩;· exact absurd h1 g1
 obtain rfl:=h2.one g2;obtain rfl:=h3.one g3;rfl
theorem GsOf.two (hr:yB l) (hL:OrdB L) (ht:GsOf l P ac t G) (hu:GsOf l P ac u K) (htu:t<=u) (h1:u<12622780800):yl K (yl G L)=yl K L:=by
 rcases ht with⟨-,rfl⟩|⟨⟨t0,-,t2⟩,H,O,h2,h3,rfl⟩;· rfl
 rcases hu with⟨g1,-⟩|⟨-,H',O',g2,g3,rfl⟩;· exact absurd ⟨by omega,h1,t2⟩ g1
 obtain rfl:=h2.one g2;exact gC hr (by omega) (Ks hr ac).2 hL h2 h3 g3 htu
theorem GsOf.again (hr:yB l) (ht:GsOf l P ac t G) (hu:GsOf l P ac u K) (htu:t<=u) (h1:u<12622780800):yl G (yl K L)=yl K L:=by
 rcases ht with⟨-,rfl⟩|⟨⟨t0,-,t2⟩,H,O,h2,h3,rfl⟩;· rfl
 rcases hu with⟨g1,-⟩|⟨-,H',O',g2,g3,rfl⟩;· exact absurd ⟨by omega,h1,t2⟩ g1
 obtain rfl:=h2.one g2;exact ED hr h3 g3 htu
theorem GsOf.key (hA:AdvH l P ac t) (h:GsOf l P ac t G):∀g∈G,KeyB g.1:=by
 rcases h with⟨-,rfl⟩|⟨-,H,O,h2,h3,rfl⟩;· exact fun g hg=>by cases hg
 exact hA.key H O h2 h3
theorem GsOf.few (hA:AdvH l P ac t) (h:GsOf l P ac t G):G.length<=300000:=by
 rcases h with⟨-,rfl⟩|⟨h1,H,O,h2,h3,rfl⟩;· exact Nat.zero_le _
 exact hA.few H O h2 h3 h1
end
theorem qJ.key {a b:Bu} (h:qJ a b) (hk:KeyB b):KeyB a:=⟨by rw[h.sb];exact hk.s,by rw[h.pr];exact hk.p,by rw[h.ix];exact hk.i,by rw[h.f];exact hk.f⟩
def RoR (w:World) (b o:Nat) (x:Bd):Prop:=w.cell? ⟨b,o+3,none⟩=some (.int .i64 x.ro)
def Jd (w:World) (v:Value) (l:List Bd):Prop:=zA 6 RoR w v l
theorem qW.ros {w:World} {v:Value} {l:List Bd} (h:qW w v l):Jd w v l:=by obtain⟨a,c,rfl,h1,h2,h3⟩:=h;refine⟨a,c,rfl,h1,h2,fun hne=>?_⟩;obtain⟨b,o,rfl,hB,hx⟩:=h3 hne;exact⟨b,o,rfl,hB,fun i hi=>(hx i hi).2.2.2.1⟩
theorem Jd.below {w w':World} {v:Value} {l:List Bd} (h:Jd w v l) (hb:Below w.heap.size w w'):Jd w' v l:=zA.below (R:=RoR) (fun _ _ b o _ hb hB h=>(hb.cell (p:=⟨b,o+3,none⟩) hB).trans h) h hb
theorem GU {w w':World} {v:Value} {L:List Bd} {g:Nat} (h:Jd w v L) (hg:kz w g jP) (hs:w.heap.size<=w'.heap.size) (hk:∀k,k<w.heap.size->k≠g->w'.heap[k]?=w.heap[k]?):Jd w' v L:=
 uJ (R:=RoR) (p:=jP) (fun _ _ _ _ _ hj h=>(hj _).trans h) (fun _ _ _ _ h=>⟨_,_,h,_,_,rfl⟩) h hg hs hk
structure RvFr (B base b0:Nat) (l:List Ev) (ac:Int) (cv hv:Value) (O:List (Int×Int)) (H:List HoX) (wa ca:Option Addr) (wc cc:Nat) (WL CL:List I5) (L:List Bu) (w0 w:World):Prop where
 row:∃(a:Option Addr) (c:Nat) (X:List BuX),w.heap[B]?=some (Obj.cells #[.slice a X.length c,.slice wa WL.length wc,.slice ca CL.length cc] 45)/\w.ownsRow base 60 12 (.slice a X.length c) X.length (X.flatMap zt)/\plB X=L/\∀x∈X,BuO base w x
 cyc:yf w cv O
 hos:zh (yj ac) 4 w hv H
 hrd:∀x∈H,HoRd l w x
 wal:w.ownsRow base 102 5 (.slice wa WL.length wc) WL.length (WL.flatMap zC)
 cnt:w.ownsRow base 104 5 (.slice ca CL.length cc) CL.length (CL.flatMap zC)
 bel:Below b0 w0 w
 sz:b0<=w0.heap.size
 bB:b0<=B
section
variable {B base b0:Nat} {l:List Ev} {ac:Int} {cv hv:Value} {O:List (Int×Int)} {H:List HoX} {wa ca:Option Addr} {wc cc:Nat} {WL CL:List I5} {L:List Bu} {w0 w w':World}
theorem RvFr.go (h:RvFr B base b0 l ac cv hv O H wa ca wc cc WL CL L w0 w) (hb:Below w.heap.size w w'):RvFr B base b0 l ac cv hv O H wa ca wc cc WL CL L w0 w':=by obtain⟨a,c,X,h1,h2,h3,h4⟩:=h.row;exact⟨⟨a,c,X,(hb.block _ (zw h1)).trans h1,ze h2 hb,h3,fun x hx=>(h4 x hx).below hb⟩,h.cyc.below hb,h.hos.below hb,fun x hx=>⟨(h.hrd x hx).1.below hb,(h.hrd x hx).2⟩,ze h.wal hb,ze h.cnt hb,h.bel.trans (hb.mono (Nat.le_trans h.sz h.bel.size)),h.sz,h.bB⟩
theorem RvFr.blank (h:RvFr B base b0 l ac cv hv O H wa ca wc cc WL CL L w0 w):kz w B jP:=by obtain⟨a,c,X,h1,-⟩:=h.row;refine Y4 h1 fun u hu=>?_;rintro⟨q,n,rfl⟩;simp at hu
theorem RvFr.put {L':List Bu} {y:Value} (h:RvFr B base b0 l ac cv hv O H wa ca wc cc WL CL L w0 w) (hy:ZD base L' w y):RvFr B base b0 l ac cv hv O H wa ca wc cc WL CL L' w0 (w.setCell ⟨B,0,none⟩ y):=by
 obtain⟨a,c,X,h1,h2,h3,h4⟩:=h.row;obtain⟨a2,c2,R,rfl,g1,g2,g3⟩:=hy;have hbl:=h.blank;have hs:w.heap.size<=(w.setCell ⟨B,0,none⟩ (.slice a2 R.length c2)).heap.size:=by simp
 have hk:∀k,k<w.heap.size->k≠B->(w.setCell ⟨B,0,none⟩ (.slice a2 R.length c2)).heap[k]?=w.heap[k]?:=fun k _ hne=>Below.heap_setCell _ _ _ _ hne
 exact⟨⟨a2,c2,R,zU _ h1,zq g1 (zi g1 h1 (by decide)),g2,fun x hx=>⟨zq (g3 x hx).row (zi (g3 x hx).row h1 (by decide)),(g3 x hx).sizes,(g3 x hx).p,(g3 x hx).len⟩⟩,
  Qs h.cyc hbl hs hk,Zl h.hos hbl hs hk,fun x hx=>Yq (h.hrd x hx) hbl hs hk,zq h.wal (zi h.wal h1 (by decide)),zq h.cnt (zi h.cnt h1 (by decide)),
  h.bel.trans ⟨rfl,rfl,rfl,hs,fun k hk2=>Below.heap_setCell _ _ _ _ (by have:=h.bB;show k≠B;omega)⟩,h.sz,h.bB⟩
end
def UD (vp vh vc:Value) (kc kh:Int) (b2 o2 bb bo:Nat) (ac:Int) (hd:HoX) (cy:Int×Int) (base:Nat) (G:List (Bu×Int)):Nat->(Nat->Value)->World->Prop
 |0,v,_=>v 0=vp
 |1,v,_=>v 1=vh
 |2,v,_=>v 2=.int .i64 kh
 |3,v,_=>v 3=.pointer (some ⟨b2,o2,none⟩)
 |4,v,_=>v 4=.agg #[.int .i64 ac,.int .i64 hd.h.1,.string hd.h.2,.slice hd.pa hd.pn hd.pc]
 |5,v,_=>v 5=vc
 |6,v,_=>v 6=.int .i64 kc
 |7,v,_=>v 7=.pointer (some ⟨bb,bo,none⟩)
 |8,v,_=>v 8=.agg #[.int .i64 cy.1,.int .i64 cy.2]
 |9,v,w=>Zc G base w (v 9)
 |10,v,w=>Zc G base w (v 10)
 |11,v,w=>YH G base w (v 11)
 |12,v,w=>YI G w (v 12)
 |13,v,w=>YH G base w (v 13)
 |14,v,w=>YI G w (v 14)
 |_,_,_=>True
theorem GZ {vp vh vc:Value} {kc kh:Int} {b2 o2 bb bo:Nat} {ac:Int} {hd:HoX} {cy:Int×Int} {base:Nat} {G:List (Bu×Int)}:∀(kQ mQ:Nat) (xQ:Value) (v:Nat->Value) (w:World),kQ≠mQ->UD vp vh vc kc kh b2 o2 bb bo ac hd cy base G kQ v w->UD vp vh vc kc kh b2 o2 bb bo ac hd cy base G kQ (updV v mQ xQ) w
 |0,m,x,v,_,hk,h=>(show updV v m x 0=v 0 from if_neg hk).trans h
 |1,m,x,v,_,hk,h=>(show updV v m x 1=v 1 from if_neg hk).trans h
 |2,m,x,v,_,hk,h=>(show updV v m x 2=v 2 from if_neg hk).trans h
 |3,m,x,v,_,hk,h=>(show updV v m x 3=v 3 from if_neg hk).trans h
 |4,m,x,v,_,hk,h=>(show updV v m x 4=v 4 from if_neg hk).trans h
 |5,m,x,v,_,hk,h=>(show updV v m x 5=v 5 from if_neg hk).trans h
 |6,m,x,v,_,hk,h=>(show updV v m x 6=v 6 from if_neg hk).trans h
 |7,m,x,v,_,hk,h=>(show updV v m x 7=v 7 from if_neg hk).trans h
 |8,m,x,v,_,hk,h=>(show updV v m x 8=v 8 from if_neg hk).trans h
 |9,m,x,v,w,hk,h=>by
   have e:updV v m x 9=v 9:=if_neg hk;show Zc G base w (updV v m x 9);rw[e];exact h
 |10,m,x,v,w,hk,h=>by
   have e:updV v m x 10=v 10:=if_neg hk;show Zc G base w (updV v m x 10);rw[e];exact h
 |11,m,x,v,w,hk,h=>by
   have e:updV v m x 11=v 11:=if_neg hk;show YH G base w (updV v m x 11);rw[e];exact h
 |12,m,x,v,w,hk,h=>by
   have e:updV v m x 12=v 12:=if_neg hk;show YI G w (updV v m x 12);rw[e];exact h
 |13,m,x,v,w,hk,h=>by
   have e:updV v m x 13=v 13:=if_neg hk;show YH G base w (updV v m x 13);rw[e];exact h
 |14,m,x,v,w,hk,h=>by
   have e:updV v m x 14=v 14:=if_neg hk;show YI G w (updV v m x 14);rw[e];exact h
 |_+15,_,_,_,_,_,_=>trivial
theorem yU {vp vh vc:Value} {kc kh:Int} {b2 o2 bb bo:Nat} {ac:Int} {hd:HoX} {cy:Int×Int} {base:Nat} {G:List (Bu×Int)} {w1 w2:World} (hb:Below w1.heap.size w1 w2):∀kQ v,UD vp vh vc kc kh b2 o2 bb bo ac hd cy base G kQ v w1->UD vp vh vc kc kh b2 o2 bb bo ac hd cy base G kQ v w2
 |0,_,h=>h
 |1,_,h=>h
 |2,_,h=>h
 |3,_,h=>h
 |4,_,h=>h
 |5,_,h=>h
 |6,_,h=>h
 |7,_,h=>h
 |8,_,h=>h
 |9,_,h=>h.below hb
 |10,_,h=>h.below hb
 |11,_,h=>h.below hb
 |12,_,h=>h.below hb
 |13,_,h=>h.below hb
 |14,_,h=>h.below hb
 |_+15,_,_=>trivial
def EV (B:Nat) (vx vg vb:Value) (kg:Int) (b3 o3 b4 o4 o43:Nat) (y:BuX) (rr:Int) (base:Nat) (Q:List Bu):Nat->Value->World->Prop
 |0,v,_=>v=.pointer (some ⟨B,0,none⟩)
 |1,v,_=>v=vx
 |2,v,_=>v=vg
 |3,v,_=>v=.int .i64 kg
 |4,v,_=>v=.pointer (some ⟨b3,o3,none⟩)
 |5,v,_=>v=ym y
 |6,v,_=>v=vb
 |7,v,_=>v=.int .i64 kg
 |8,v,_=>v=.pointer (some ⟨b4,o4,none⟩)
 |9,v,_=>v=.pointer (some ⟨b4,o43,none⟩)
 |10,v,_=>v=.int .i64 rr
 |11,v,w=>ZD base Q w v
 |12,v,_=>v=.pointer (some ⟨B,0,none⟩)
 |_,_,_=>True
theorem vt {B:Nat} {vx vg vb:Value} {kg:Int} {b3 o3 b4 o4 o43:Nat} {y:BuX} {rr:Int} {base:Nat} {Q:List Bu} {w1 w2:World} (hb:Below w1.heap.size w1 w2):∀kQ yQ,EV B vx vg vb kg b3 o3 b4 o4 o43 y rr base Q kQ yQ w1->EV B vx vg vb kg b3 o3 b4 o4 o43 y rr base Q kQ yQ w2
 |0,_,h=>h
 |1,_,h=>h
 |2,_,h=>h
 |3,_,h=>h
 |4,_,h=>h
 |5,_,h=>h
 |6,_,h=>h
 |7,_,h=>h
 |8,_,h=>h
 |9,_,h=>h
 |10,_,h=>h
 |11,_,h=>h.below hb
 |12,_,h=>h
 |_+13,_,_=>trivial
theorem gz {X:List BuX} {bs:List Bd} {G:List (Bu×Int)} (h1:plB X=G.map (·.1)) (h2:bs.map (·.ro)=G.map (·.2)) {k:Nat} (hx:k<X.length) (hb:k<bs.length) (hg:k<G.length):G[k]=((X[k]).b,(bs[k]).ro):=by
 have e1:(plB X)[k]?=(G.map (·.1))[k]?:=by rw[h1]
 have e2:(bs.map (·.ro))[k]?=(G.map (·.2))[k]?:=by rw[h2]
 unfold plB at e1;rw[List.getElem?_map,List.getElem?_map,List.getElem?_eq_getElem hx,List.getElem?_eq_getElem hg]at e1;rw[List.getElem?_map,List.getElem?_map,List.getElem?_eq_getElem hb,List.getElem?_eq_getElem hg]at e2;have e1:=Option.some.inj e1;have e2:=Option.some.inj e2;exact Prod.ext e1.symm e2.symm
theorem Ql (l:List Ev) (P:List Pd) (ac t:Int) (ve vp:Value) (X:List BuX) (WL CL:List I5) (sa wa ca:Option Addr) (sc wc cc:Nat) (w:World)
 (he:vQ w ve l) (hr:yB l) (hl:l.length<=100) (hp:qG w vp P) (hf:FewP P) (hX:zh zt 12 w (.slice sa X.length sc) X) (hrd:∀x∈X,BuRd w x) (hXl:X.length<=400000)
 (hWL:zh zC 5 w (.slice wa WL.length wc) WL) (hWn:WL.length<=1000) (hCL:zh zC 5 w (.slice ca CL.length cc) CL) (hCn:CL.length<=1000) (hA:AdvH l P ac t):
 Calls Tryz.prog 23 #[ve,vp,.agg #[.slice sa X.length sc,.slice wa WL.length wc,.slice ca CL.length cc],.int .i64 ac,.int .i64 t] w (Ky l P ac t (plB X) WL CL w):=by
 obtain⟨W,hW,r0,r1,hw0,hz⟩:=yL w (Obj.cells #[.slice sa X.length sc,.slice wa WL.length wc,.slice ca CL.length cc] 45) (Obj.cells #[.slice none 0 0,.slice none 0 0,.slice none 0 0] 45);have HW:=zb hW;have R0:=zb r0;have R1:=zb r1;have Hz:=zb hz;have Hb:=zb hw0;have He:=zb he;have Hr:=zb hr;have Hl:=zb hl;have Hp:=zb hp;have Hf:=zb hf;have HXl:=zb hXl;have HA:=zb hA;have HCp:=zb (Jx X WL CL sa wa ca sc wc cc W (hX.below hw0) (fun x h=>(hrd x h).below hw0) hXl (hWL.below hw0) hWn (hCL.below hw0) hCn);have x0:=cell_of_row W _ 0 _ _ _ r0;have x1:=cell_of_row W _ 1 _ _ _ r0;have x2:=cell_of_row W _ 2 _ _ _ r0;clear hW r0 r1 hw0 hz he hr hl hp hf hX hrd hXl hWL hWn hCL hCn hA;go_enter Tryz.func23,Tryz.ntmps23;go_upto_region 1 with(fail);rw[<-HW.out];go_wp2_with fail;refine HCp.out.mono ?_;rintro e w1 ⟨la,lc,Y,qa,qc,qa2,qc2,rfl,ho1,hpl,hbo,ho2,ho3,hb1⟩;dsimp only;obtain⟨V,hV⟩:∃V,V=w1.alloc (Obj.cells #[.slice la Y.length lc,.slice qa WL.length qc,.slice qa2 CL.length qc2] 45):=⟨_,rfl⟩;have hbV:Below w1.heap.size w1 V:=by rw[hV];exact(Below.refl _ _).alloc (Nat.le_refl _) _
 have VN:=zb (show V.heap[w1.heap.size]?=some (Obj.cells #[.slice la Y.length lc,.slice qa WL.length qc,.slice qa2 CL.length qc2] 45) by rw[hV];exact heap_alloc_new _ _);have HbV:=zb (hb1.trans (hbV.mono hb1.size));have HwB0:=zb (show w.heap.size+1<w1.heap.size by have:=hb1.size;have:=Hz.out;omega);have HO1:=zb (ze ho1 hbV);have HO2:=zb (ze ho2 hbV);have HO3:=zb (ze ho3 hbV);have HPl:=zb hpl;have HBo:=zb (show ∀x∈Y,BuO W.heap.size V x from fun x hx=>(hbo x hx).below hbV);have HV:=zb hV;have HOp:=zb (KP ve l ac V (He.out.below (Hb.out.trans (HbV.out.mono Hb.out.size))));clear hV hbV ho1 ho2 ho3 hpl hbo hb1 x0 x1 x2;go_upto_region 2 with(fail);rw[<-HV.out];cases hoo:Yj l ac with
 |none=>
   rw[hoo]at HOp;have HOff:=zb (show ¬kK l ac t from fun h=>by
    have h3:=h.2.2;unfold vn at h3;rw[hoo]at h3;exact absurd h3 (by decide));clear hoo;go_wp2_with fail;refine HOp.out.mono ?_;rintro e w2 ⟨rfl,hb2⟩;dsimp only;generalize (none:Option Ev).getD default=d;unfold yZ;obtain⟨V2,hV2⟩:∃V2,V2=w2.alloc (Obj.cells #[.int .i64 d.tm,.int .i64 d.kd,.int .i64 d.ac,.int .i64 d.sb,.string d.nu,.string d.nm,.int .i64 d.vl] 55):=⟨_,rfl⟩;have hbV2:Below w2.heap.size w2 V2:=by rw[hV2];exact(Below.refl _ _).alloc (Nat.le_refl _) _
   have Hb2:=zb (hb2.trans (hbV2.mono hb2.size));have HV2:=zb hV2;clear hV2 hbV2 hb2;go_upto_region 3 with(fail);rw[<-HV2.out];go_upto_region 4 with(fail);have hlt1:=(zw VN.out);have VN2:=zb ((Hb2.out.block _ hlt1).trans VN.out);have ZR:=zb ((Hb2.out.block _ (by have:=HbV.out.size;have:=Hz.out;omega)).trans ((HbV.out.block _ Hz.out).trans R1.out));have HFin:=zb (show StTo (plB X) WL CL w (.returned (.agg #[.slice la Y.length lc,.slice qa WL.length qc,.slice qa2 CL.length qc2])) (V2.setRow (w.heap.size+1) #[.slice la Y.length lc,.slice qa WL.length qc,.slice qa2 CL.length qc2])from by
    have hle:=Hb.out.size;have o1:=ze HO1.out Hb2.out;have o2:=ze HO2.out Hb2.out;have o3:=ze HO3.out Hb2.out;refine⟨la,lc,Y,qa,qc,qa2,qc2,rfl,zr (zp o1 (zi o1 ZR.out (by decide)) _) hle,HPl.out,fun x hx=>?_,zr (zp o2 (zi o2 ZR.out (by decide)) _) hle,zr (zp o3 (zi o3 ZR.out (by decide)) _) hle,zk (Hb.out.trans ((HbV.out.trans (Hb2.out.mono HbV.out.size)).mono hle)) (by omega) _⟩;have h1:=(HBo.out x hx).below Hb2.out;exact⟨zr (zp h1.row (zi h1.row ZR.out (by decide)) _) hle,h1.sizes,h1.p,h1.len⟩);have y0:=cell_of_row V2 _ 0 _ _ _ VN2.out;have y1:=cell_of_row V2 _ 1 _ _ _ VN2.out;have y2:=cell_of_row V2 _ 2 _ _ _ VN2.out;have tQ:=fun j=>cell_setRow_same V2 (w.heap.size+1) j _ #[.slice la Y.length lc,.slice qa WL.length qc,.slice qa2 CL.length qc2] _ _ ZR.out;have t0:=tQ 0;have t1:=tQ 1;have t2:=tQ 2;clear tQ;repeat (first|refine wpList_store_row rfl _ _ _ rfl (w.heap.size+1) #[.slice la Y.length lc,.slice qa WL.length qc,.slice qa2 CL.length qc2] rfl rfl 45 _ ZR.out (by kernel_rfl) rfl (by simp[Value.oneCell']) ?_|go_step)
   refine bodyPost_ret (v:=.agg #[.slice la Y.length lc,.slice qa WL.length qc,.slice qa2 CL.length qc2]) (by simp[results,Tryz.results23,go_sem,t0,t1,t2]) rfl ?_;exact Or.inl ⟨HOff.out,HFin.out⟩
 |some o=>
   rw[hoo]at HOp;go_wp2_with fail;refine HOp.out.mono ?_;rintro e w2 ⟨rfl,hb2⟩;dsimp only;have HIn:=zb (fun w1=>JH t w1);have hd:(some o).getD default=o:=rfl;rw[hd,show(some o).isSome=true from rfl];generalize o=d at *;unfold yZ;obtain⟨V2,hV2⟩:∃V2,V2=w2.alloc (Obj.cells #[.int .i64 d.tm,.int .i64 d.kd,.int .i64 d.ac,.int .i64 d.sb,.string d.nu,.string d.nm,.int .i64 d.vl] 55):=⟨_,rfl⟩;have hbV2:Below w2.heap.size w2 V2:=by rw[hV2];exact(Below.refl _ _).alloc (Nat.le_refl _) _
   have Hb2:=zb (hb2.trans (hbV2.mono hb2.size));have HV2:=zb hV2;clear hV2 hbV2 hb2;go_upto_region 3 with(fail);rw[<-HV2.out];by_cases hti:0<=t/\t<12622780800
   · have HAn:=zb (show vn l ac=d.vl by unfold vn;rw[hoo])
     have hbd:=W7 (gO Hr.out) (ZM hoo).1 (ZM hoo).2.1;have HOn:=zb (show kK l ac t from⟨hti.1,hti.2,by have:=HAn.out;omega⟩);rw[show(decide (0<=t)&&decide (t<12622780800))=true by rw[Bool.and_eq_true,decide_eq_true_eq,decide_eq_true_eq];exact hti]at HIn;have Hti:=zb hti;have Hbd:=zb hbd;clear hti hoo hbd;go_wp2_with fail;refine(HIn.out V2).mono ?_;rintro e w4 ⟨rfl,hb4⟩;subst hb4;dsimp only;have HwV:=zb (show Below w.heap.size w V2 from Hb.out.trans ((HbV.out.trans (Hb2.out.mono HbV.out.size)).mono Hb.out.size));have HHo:=zb (VG ve l ac V2 (He.out.below HwV.out) Hr.out Hl.out);have hltB:=(zw VN.out);have HltB:=zb (show w1.heap.size<V.heap.size from hltB);have VN2:=zb ((Hb2.out.block _ hltB).trans VN.out);have HwB:=zb (show w.heap.size+1<w1.heap.size from HwB0.out);have ZR:=zb ((Hb2.out.block _ (by have:=HwB.out;omega)).trans ((HbV.out.block _ Hz.out).trans R1.out));have EvN:=zb (show V2.heap[w2.heap.size]?=some (Obj.cells #[.int .i64 d.tm,.int .i64 d.kd,.int .i64 d.ac,.int .i64 d.sb,.string d.nu,.string d.nm,.int .i64 d.vl] 55) by rw[HV2.out];exact heap_alloc_new _ _);clear hltB;go_wp2_with fail;refine HHo.out.mono ?_;rintro e Z1 ⟨ha1,hc1,H,rfl,hH1,hHad,hHrd,hHl,hbz1⟩;dsimp only;have hrl:=Kd Hr.out hHad.srt;have HCy:=zb (X6 l ac (.slice ha1 H.length hc1) H d.vl t Z1 hH1 hHrd Hbd.out.2.2.1 Hbd.out.2.2.2 Hti.out.1 Hti.out.2 (HA.out.cin _ hHad) (by have:=Hl.out;omega));have HHad:=zb hHad;have HH1:=zb hH1;have HHrd:=zb hHrd;have Hbz1:=zb hbz1;have q:=(hbz1.block _ (zw EvN.out)).trans EvN.out;have q6:=cell_of_row Z1 _ 6 _ _ _ q;clear hHad hH1 hHrd hbz1 HHo hrl q;go_wp2_with fail;refine HCy.out.mono ?_;rintro e Z2 ⟨O,hO,v2,rfl,hPO,hbz2⟩;obtain⟨ao,co,rfl,hao,hco,-⟩:=id hPO;have hco2:=hco.1;unfold maxLen at hco2;clear hco q6;dsimp only;have HO:=zb (show vH (vn l ac) (vu l (H.map (·.h))) t O by rw[HAn.out];exact hO);have HFr:=zb (show RvFr w1.heap.size w.heap.size w1.heap.size l ac (.slice ao O.length co) (.slice ha1 H.length hc1) O H qa qa2 qc qc2 WL CL (plB X) V2 Z2 from
      have hb12:=Hbz1.out.trans (hbz2.mono Hbz1.out.size);have hV2:w1.heap.size<=V2.heap.size:=by have:=HltB.out;have:=Hb2.out.size;omega
      have hbx:=Hb2.out.trans (hb12.mono Hb2.out.size)
      ⟨⟨la,lc,Y,(hb12.block _ (by have:=HltB.out;have:=Hb2.out.size;omega)).trans VN2.out,zr (ze HO1.out hbx) Hb.out.size,HPl.out,fun x hx=>((HBo.out x hx).below hbx).down Hb.out.size⟩,
       hPO,HH1.out.below hbz2,fun x hx=>⟨(HHrd.out x hx).1.below hbz2,(HHrd.out x hx).2⟩,zr (ze HO2.out hbx) Hb.out.size,zr (ze HO3.out hbx) Hb.out.size,hb12.mono hV2,hV2,Nat.le_refl _⟩);obtain⟨h2a,h2c,e2,hH2,hH3,-⟩:=HH1.out;cases e2;have hH4:=hH3.1;unfold maxLen at hH4;clear hO hPO hbz2 HCy hH3;go_wp2_with fail;go_loopw [16] (fun i wr=>∃kc:Nat,kc<=O.length/\i=.int .i64 kc/\RvFr w1.heap.size w.heap.size w1.heap.size l ac (.slice ao O.length co) (.slice ha1 H.length hc1) O H qa qa2 qc qc2 WL CL (yl (zL l P ac t (H.map (·.h)) (O.take kc)) (plB X)) V2 wr) (fun i _=>O.length-(intOf i).toNat);case atStart=>exact⟨0,Nat.zero_le _,rfl,HFr.out⟩
     case round=>
      obtain⟨wo1,rfl⟩:∃wo1:World,wo1=wr:=⟨_,rfl⟩;obtain⟨kc,hkc,rfl,hfr⟩:=hrel;have HFo:=zb hfr;have hkc0:(0:Int)<=(kc:Int):=Int.natCast_nonneg _;by_cases hlc:kc<O.length
      · have hkc1:(kc:Int)<(O.length:Int):=by omega
        have HCe:=zb (Qp (l:=l) (P:=P) (ac:=ac) (t:=t) (H:=(H.map (·.h))) hlc);have HCut:=zb (fun(kh:Nat) (hh:kh<(H.map (·.h)).length) (B R:List (Bu×Int)) hB=>UK (l:=l) (P:=P) (ac:=ac) (t:=t) hlc hh (B:=B) (R:=R) hB);clear hfr;go_wp2_with fail;go_loopw [17] (fun i wr=>∃kh:Nat,kh<=H.length/\i=.int .i64 kh/\RvFr w1.heap.size w.heap.size w1.heap.size l ac (.slice ao O.length co) (.slice ha1 H.length hc1) O H qa qa2 qc qc2 WL CL (yl (preG l P ac t (H.map (·.h)) O kc O[kc] kh []) (plB X)) V2 wr) (fun i _=>H.length-(intOf i).toNat);case atStart=>exact⟨0,Nat.zero_le _,rfl,by rw[Qo];exact HFo.out⟩
        case round=>
         obtain⟨wo2,rfl⟩:∃wo2:World,wo2=wr:=⟨_,rfl⟩;obtain⟨kh,hkh,rfl,hfr⟩:=hrel;have HF2:=zb hfr;have hkh0:(0:Int)<=(kh:Int):=Int.natCast_nonneg _;by_cases hlh:kh<H.length
         · have hkh1:(kh:Int)<(H.length:Int):=by omega
           obtain⟨a3,c3,e3,-,-,hx⟩:=id hfr.cyc;cases e3;obtain⟨bb,o,rfl,hB,hx⟩:=hx (by rintro rfl;cases hlc);have hc:=hx kc hlc;clear hx;obtain⟨a4,c4,e4,-,-,hx⟩:=id hfr.hos;cases e4;obtain⟨b2,o2,rfl,hB2,hx⟩:=hx (by rintro rfl;cases hlh);have hx:=hx kh hlh;have HAw:=zb (show ∀w5,Below wo2.heap.size wo2 w5->(w5.cell? ⟨b2,o2+kh*4,none⟩=some (.int .i64 ac)/\w5.cell? ⟨b2,o2+kh*4+1,none⟩=some (.int .i64 (H[kh]).h.1)/\w5.cell? ⟨b2,o2+kh*4+2,none⟩=some (.string (H[kh]).h.2)/\w5.cell? ⟨b2,o2+kh*4+3,none⟩=some (.slice (H[kh]).pa (H[kh]).pn (H[kh]).pc))/\w5.cell? ⟨bb,o+kc*2,none⟩=some (.int .i64 (O[kc]).1)/\w5.cell? ⟨bb,o+kc*2+1,none⟩=some (.int .i64 (O[kc]).2)from fun w5 hb=>
            ⟨⟨(hb.cell (p:=⟨b2,_,none⟩) hB2).trans (hx 0 (by decide)),(hb.cell (p:=⟨b2,_,none⟩) hB2).trans (hx 1 (by decide)),(hb.cell (p:=⟨b2,_,none⟩) hB2).trans (hx 2 (by decide)),(hb.cell (p:=⟨b2,_,none⟩) hB2).trans (hx 3 (by decide))⟩,(hb.cell (p:=⟨bb,_,none⟩) hB).trans hc.1,(hb.cell (p:=⟨bb,_,none⟩) hB).trans hc.2⟩);have HRdh:=zb (hfr.hrd _ (List.getElem_mem hlh));have HHold:=zb (show preG l P ac t (H.map (·.h)) O kc O[kc] kh (yG P ac (H[kh]).h (actL (H[kh]).h.1 (H[kh]).h.2 l) O[kc])=preG l P ac t (H.map (·.h)) O kc O[kc] (kh+1) [] from by
            have h:=J1 (l:=l) (P:=P) (ac:=ac) (t:=t) (H:=(H.map (·.h))) (O:=O) (kc:=kc) (c:=O[kc]) (kh:=kh) (by rw[List.length_map];exact hlh);rw[List.getElem_map]at h;exact h);have HCutH:=zb (fun(B R:List (Bu×Int)) (hB:yG P ac (H[kh]).h (actL (H[kh]).h.1 (H[kh]).h.2 l) O[kc]=B++R)=>HCut.out kh (by rw[List.length_map];exact hlh) B R (by rw[List.getElem_map];exact hB));clear hx hc hfr;generalize H[kh]=hd at *;generalize O[kc]=cy at *;have HLe:=zb (show w.heap.size<=wo2.heap.size by have:=HF2.out.bel.size;have:=HwV.out.size;omega);have HwO:=zb (show Below w.heap.size w wo2 from HwV.out.trans (HF2.out.bel.mono (by have:=HwB.out;omega)));have HGr:=zb (fun w5 (hb:Below wo2.heap.size wo2 w5)=>JI ac hd.h.1 hd.h.2 hd.pa hd.pn hd.pc vp P (actL hd.h.1 hd.h.2 l) cy w5 (HRdh.out.1.below hb) (Hp.out.below (HwO.out.trans (hb.mono HLe.out))) Hf.out HRdh.out.2);obtain⟨GV,hGV⟩:∃GV,GV=(yG P ac hd.h (actL hd.h.1 hd.h.2 l) cy):=⟨_,rfl⟩;rw[show((hd.h.1,hd.h.2):Had)=hd.h from rfl,<-hGV]at HGr;rw[<-hGV]at HHold HCutH;have HGl:=zb (show GV.length<=100 by rw[hGV];exact Wo Hf.out _ _ _ _);clear hGV;go_upto_region 13 with(fail);refine ux (fun w'=>Below wo2.heap.size wo2 w') (UD vp (.slice (some ⟨b2,o2,none⟩) H.length hc1) (.slice (some ⟨bb,o,none⟩) O.length co) (kc:Int) (kh:Int) b2 (o2+kh*4) bb (o+kc*2) ac hd cy w.heap.size GV) (by kernel_rfl) (by kernel_rfl) ?_ (Below.refl _ _).drew ?_ ?_;· exact fun k1 i1 x v w' hki _ h=>GZ k1 i1 x v w' hki h
           · generalize hfr:(fun v:Nat->Value=>_)=fr
             simp only[List.map_cons,List.map_nil,zB,List.setIfInBounds_toArray,List.set_cons_succ,List.set_cons_zero,Nat.zero_add,Nat.reduceAdd]at hfr;simp only[jV];refine⟨?_,?_,?_,?_,?_,?_,?_,?_,?_,?_,?_,?_,?_,?_,?_,trivial⟩;iterate 3
              · intro v w5 hC hd K hK
                rw[<-hfr]at hK⊢;go_simp;exact hK _ _ hC (fun j1=>yU (Below.refl _ _) j1 _) rfl
             · intro v w5 hC hd K hK
               obtain⟨(e1:v 1=_),(e2:v 2=_),-⟩:=hd;rw[<-hfr]at hK⊢;simp only[e1,e2]at hK⊢;go_simp;exact hK _ _ hC (fun j1=>yU (Below.refl _ _) j1 _) rfl
             · intro v w5 hC hd K hK
               obtain⟨(e3:v 3=_),-⟩:=hd;obtain⟨⟨h0,h1,h2,h3⟩,c0,c1⟩:=HAw.out w5 hC;rw[<-hfr]at hK⊢;simp only[e3]at hK⊢;go_simp;exact hK _ _ hC (fun j1=>yU (Below.refl _ _) j1 _) rfl
             iterate 2
              · intro v w5 hC hd K hK
                rw[<-hfr]at hK⊢;go_simp;exact hK _ _ hC (fun j1=>yU (Below.refl _ _) j1 _) rfl
             · intro v w5 hC hd K hK
               obtain⟨(e5:v 5=_),(e6:v 6=_),-⟩:=hd;rw[<-hfr]at hK⊢;simp only[e5,e6]at hK⊢;go_simp;exact hK _ _ hC (fun j1=>yU (Below.refl _ _) j1 _) rfl
             · intro v w5 hC hd K hK
               obtain⟨(e7:v 7=_),-⟩:=hd;obtain⟨⟨h0,h1,h2,h3⟩,c0,c1⟩:=HAw.out w5 hC;rw[<-hfr]at hK⊢;simp only[e7]at hK⊢;go_simp;exact hK _ _ hC (fun j1=>yU (Below.refl _ _) j1 _) rfl
             · intro v w5 hC hd K hK
               obtain⟨(e0:v 0=_),(e4:v 4=_),(e8:v 8=_),-⟩:=hd;have HG:=HGr.out w5 hC;rw[<-hfr]at hK⊢;simp only[e0,e4,e8]at hK⊢;go_simp;refine HG.mono ?_;intro e w6 hg;obtain⟨y,rfl,hy,hb4⟩:=hg.val (show w.heap.size<=w5.heap.size from Nat.le_trans HLe.out hC.size);exact hK _ _ (hC.trans (hb4.mono hC.size)) (fun j1=>yU hb4 j1 _) hy
             · intro v w5 hC hd K hK
               have f9:Zc GV w.heap.size w5 (v 9):=hd.1;rw[<-hfr]at hK⊢;go_simp;exact hK _ _ hC (fun j1=>yU (Below.refl _ _) j1 _) f9
             · intro v w5 hC hd K hK
               obtain⟨a,cc,X,ba,bc,bs,e10,h2,h3,h4,h5,h6⟩:Zc GV w.heap.size w5 (v 10):=hd.1;rw[<-hfr]at hK⊢;simp only[e10]at hK⊢;go_simp;exact hK _ _ hC (fun j1=>yU (Below.refl _ _) j1 _) ⟨a,cc,X,rfl,h2,h3,h4⟩
             · intro v w5 hC hd K hK
               obtain⟨a,cc,X,ba,bc,bs,e10,h2,h3,h4,h5,h6⟩:Zc GV w.heap.size w5 (v 10):=hd.1;rw[<-hfr]at hK⊢;simp only[e10]at hK⊢;go_simp;exact hK _ _ hC (fun j1=>yU (Below.refl _ _) j1 _) ⟨ba,bc,bs,rfl,h5,h6⟩
             · intro v w5 hC hd K hK
               have f11:YH GV w.heap.size w5 (v 11):=hd.1;rw[<-hfr]at hK⊢;go_simp;exact hK _ _ hC (fun j1=>yU (Below.refl _ _) j1 _) f11
             intro v w5 hC hd K hK;have f12:YI GV w5 (v 12):=hd.1;rw[<-hfr]at hK⊢;go_simp;exact hK _ _ hC (fun j1=>yU (Below.refl _ _) j1 _) f12
           intro v w5 hC hall;obtain⟨ag,cg,XG,e13,hown,hpl,hrdg⟩:YH GV w.heap.size w5 (v 13):=hall 13 (by decide);obtain⟨ba,bc,bs,e14,hbds,hros⟩:YI GV w5 (v 14):=hall 14 (by decide);have HF3:=zb (HF2.out.go hC);have HOw:=zb hown;have HRg:=zb hrdg;have HQw:=zb hbds.ros;have hlx:XG.length=GV.length:=by rw[<-qf,hpl,List.length_map]
           have hlb:bs.length=GV.length:=by have:=congrArg List.length hros;rwa[List.length_map,List.length_map]at this
           have hXG2:XG.length<=100:=by have:=HGl.out;omega
           have HAt:=zb (fun k h1 h2 h3=>gz hpl hros (k:=k) h1 h2 h3);have HLx:=zb hlx;have HLb:=zb hlb;simp only[List.map_cons,List.map_nil,zB,List.setIfInBounds_toArray,List.set_cons_succ,List.set_cons_zero,Nat.zero_add,Nat.reduceAdd];simp only[e13,e14];generalize v 0=y0,v 1=y1,v 2=y2,v 3=y3,v 4=y4,v 5=y5,v 6=y6,v 7=y7,v 8=y8,v 9=y9,v 10=y10,v 11=y11,v 12=y12;clear e13 e14 hall hC v HAw HGr hown hpl hrdg hbds hros hlx hlb;go_wp2_with fail;go_loopw [20] (fun i wr=>∃kg:Nat,kg<=XG.length/\i=.int .i64 kg/\RvFr w1.heap.size w.heap.size w1.heap.size l ac (.slice (some ⟨bb,o,none⟩) O.length co) (.slice (some ⟨b2,o2,none⟩) H.length hc1) O H qa qa2 qc qc2 WL CL (yl (preG l P ac t (H.map (·.h)) O kc cy kh (GV.take kg)) (plB X)) V2 wr/\wr.ownsRow w.heap.size 60 12 (.slice ag XG.length cg) XG.length (XG.flatMap zt)/\(∀x∈XG,BuO w.heap.size wr x)/\Jd wr (.slice ba bs.length bc) bs) (fun i _=>XG.length-(intOf i).toNat);case atStart=>exact⟨0,Nat.zero_le _,rfl,HF3.out,HOw.out,HRg.out,HQw.out⟩
           case round=>
            obtain⟨wo3,rfl⟩:∃wo3:World,wo3=wr:=⟨_,rfl⟩;obtain⟨kg,hkg,rfl,hfr,hown,hrdg,hros⟩:=hrel;have hkg0:(0:Int)<=(kg:Int):=Int.natCast_nonneg _;by_cases hlg:kg<XG.length
            · have hkg1:(kg:Int)<(XG.length:Int):=by omega
              have hlb:kg<bs.length:=by have:=HLx.out;have:=HLb.out;omega
              have hlG:kg<GV.length:=by have:=HLx.out;omega
              have HF4:=zb hfr;obtain⟨a3,c3,e3,-,-,hx⟩:=(zh.own (c:=zt) (sz:=12) (fun _=>rfl) hown:zh zt 12 wo3 _ XG);cases e3;obtain⟨b3,o3,rfl,hB3,hx⟩:=hx (by rintro rfl;cases hlg);have hx:=hx kg hlg;obtain⟨a4,c4,e4,-,-,hy⟩:=id hros;cases e4;obtain⟨b4,o4,rfl,hB4,hy⟩:=hy (by rintro rfl;cases hlb);have hy:wo3.cell? ⟨b4,o4+kg*6+3,none⟩=some (.int .i64 (bs[kg]).ro):=hy kg hlb;have HO4:=zb hown;have HR4:=zb hrdg;have HQ4:=zb hros;obtain⟨xa,xc,XX,hrow,hownX,hplX,hboX⟩:=id hfr.row;have HRo:=zb hrow;have HTk:=zb (show GV.take (kg+1)=GV.take kg++[((XG[kg]).b,(bs[kg]).ro)] by rw[List.take_succ_eq_append_getElem hlG,HAt.out kg hlg hlb hlG]);have HRx:=zb (hrdg _ (List.getElem_mem hlg));have HCt:=zb (HCutH.out (GV.take (kg+1)) (GV.drop (kg+1)) (List.take_append_drop _ _).symm);have x6:wo3.cell? ⟨b3,o3+kg*12+6,none⟩=some (.int .i64 (XG[kg]).b.f):=hx 6 (by decide);have HAw:=zb (show ∀w5,Below wo3.heap.size wo3 w5->w5.cell? ⟨w1.heap.size,0,none⟩=some (.slice xa XX.length xc)/\(w5.cell? ⟨b3,o3+kg*12,none⟩=some (.int .i64 (XG[kg]).b.ac)/\w5.cell? ⟨b3,o3+kg*12+1,none⟩=some (.int .i64 (XG[kg]).b.sb)/\w5.cell? ⟨b3,o3+kg*12+2,none⟩=some (.string (XG[kg]).b.pr)/\w5.cell? ⟨b3,o3+kg*12+3,none⟩=some (.int .i64 (XG[kg]).b.ix)/\w5.cell? ⟨b3,o3+kg*12+4,none⟩=some (.int .i64 (XG[kg]).b.kd)/\w5.cell? ⟨b3,o3+kg*12+5,none⟩=some (.slice (XG[kg]).za (XG[kg]).zn (XG[kg]).zc)/\w5.cell? ⟨b3,o3+kg*12+6,none⟩=some (.int .i64 (XG[kg]).b.f)/\w5.cell? ⟨b3,o3+kg*12+7,none⟩=some (.int .i64 (XG[kg]).b.t)/\w5.cell? ⟨b3,o3+kg*12+8,none⟩=some (.int .i64 (XG[kg]).b.un)/\w5.cell? ⟨b3,o3+kg*12+9,none⟩=some (.int .i64 (XG[kg]).b.lf)/\w5.cell? ⟨b3,o3+kg*12+10,none⟩=some (.int .i64 (XG[kg]).b.pt)/\w5.cell? ⟨b3,o3+kg*12+11,none⟩=some (.bool (XG[kg]).b.sh))/\w5.cell? ⟨b4,o4+kg*6+3,none⟩=some (.int .i64 (bs[kg]).ro)from fun w5 hb=>⟨cell_of_row w5 _ 0 _ _ _ ((hb.block _ (zw HRo.out)).trans HRo.out),⟨(hb.cell (p:=⟨b3,_,none⟩) hB3).trans (hx 0 (by decide)),(hb.cell (p:=⟨b3,_,none⟩) hB3).trans (hx 1 (by decide)),(hb.cell (p:=⟨b3,_,none⟩) hB3).trans (hx 2 (by decide)),(hb.cell (p:=⟨b3,_,none⟩) hB3).trans (hx 3 (by decide)),(hb.cell (p:=⟨b3,_,none⟩) hB3).trans (hx 4 (by decide)),(hb.cell (p:=⟨b3,_,none⟩) hB3).trans (hx 5 (by decide)),(hb.cell (p:=⟨b3,_,none⟩) hB3).trans (hx 6 (by decide)),(hb.cell (p:=⟨b3,_,none⟩) hB3).trans (hx 7 (by decide)),(hb.cell (p:=⟨b3,_,none⟩) hB3).trans (hx 8 (by decide)),(hb.cell (p:=⟨b3,_,none⟩) hB3).trans (hx 9 (by decide)),(hb.cell (p:=⟨b3,_,none⟩) hB3).trans (hx 10 (by decide)),(hb.cell (p:=⟨b3,_,none⟩) hB3).trans (hx 11 (by decide))⟩,(hb.cell (p:=⟨b4,_,none⟩) hB4).trans hy⟩);have HCr0:=zb (fun(y:BuX) (rr:Int) (hy:BuO w.heap.size wo3 y) (hl:XX.length<=900000) w5 (hb:Below wo3.heap.size wo3 w5)=>K7 w.heap.size (.slice xa XX.length xc) XX y rr w5 (by have:=hb.size;have:=hfr.bel.size;have:=HwV.out.size;omega) (ze hownX hb) (fun x h=>(hboX x h).below hb) (hy.below hb) hl);rw[hplX]at HCr0;have HXl2:=zb (show XX.length=(yl (preG l P ac t (H.map (·.h)) O kc cy kh (GV.take kg)) (plB X)).length by rw[<-hplX,qf]);clear hx hy hfr hown hrdg hros hrow hownX hplX hboX;generalize XG[kg]=y at *;generalize (bs[kg]).ro=rr at *;by_cases hf:y.b.f<=t
              · have HIn:=zb (show preG l P ac t (H.map (·.h)) O kc cy kh (GV.take (kg+1))=preG l P ac t (H.map (·.h)) O kc cy kh (GV.take kg)++[(y.b,rr)] by rw[HTk.out];exact W6 (decide_eq_true hf))
                have HLn:=zb (show XX.length<=900000 from by
                 obtain⟨T,hT⟩:=HCt.out;have h1:=HA.out.few _ O HHad.out HO.out HOn.out;rw[hT,HIn.out]at h1;simp only[List.length_append]at h1;have h2:=Xh (preG l P ac t (H.map (·.h)) O kc cy kh (GV.take kg)) (plB X);rw[qf]at h2;have h3:=HXl.out;have h4:=HXl2.out
                 omega);have HCr:=zb (HCr0.out y rr HRx.out HLn.out);obtain⟨QL,hQL⟩:∃QL,QL=yl (preG l P ac t (H.map (·.h)) O kc cy kh (GV.take kg)) (plB X):=⟨_,rfl⟩;rw[<-hQL]at HCr HF4;have HQL:=zb hQL;clear hQL;go_upto_region 18 with(fail);clear hf x6;refine zN 13 (fun w'=>Below wo3.heap.size wo3 w') (EV w1.heap.size (.slice xa XX.length xc) (.slice (some ⟨b3,o3,none⟩) XG.length cg) (.slice (some ⟨b4,o4,none⟩) bs.length bc) (kg:Int) b3 (o3+kg*12) b4 (o4+kg*6) (o4+kg*6+3) y rr w.heap.size (zI QL (y.b,rr))) (by kernel_rfl) (by kernel_rfl) (Below.refl _ _).drew ?_ ?_
                · generalize hfr:(fun v:Nat->Value=>_)=fr
                  simp only[List.take_succ_cons,List.take_zero,List.map_cons,List.map_nil,zB,List.setIfInBounds_toArray,List.set_cons_succ,List.set_cons_zero,Nat.zero_add,Nat.reduceAdd]at hfr;simp only[List.take_succ_cons,List.take_zero,yN];refine⟨?_,?_,?_,?_,?_,?_,?_,?_,?_,?_,?_,?_,?_,trivial⟩
                  · intro v w5 hC hd K hK
                    rw[<-hfr]at hK⊢;go_simp;exact hK _ _ hC (vt (Below.refl _ _)) rfl
                  · intro v w5 hC hd K hK
                    obtain⟨(e0:v 0=_),-⟩:=hd;obtain⟨hs0,⟨g0,g1,g2,g3,g4,g5,g6,g7,g8,g9,g10,g11⟩,hr0⟩:=HAw.out w5 hC;rw[<-hfr]at hK⊢;simp only[e0]at hK⊢;go_simp;exact hK _ _ hC (vt (Below.refl _ _)) rfl
                  iterate 2
                   · intro v w5 hC hd K hK
                     rw[<-hfr]at hK⊢;go_simp;exact hK _ _ hC (vt (Below.refl _ _)) rfl
                  · intro v w5 hC hd K hK
                    obtain⟨(e2:v 2=_),(e3:v 3=_),-⟩:=hd;rw[<-hfr]at hK⊢;simp only[e2,e3]at hK⊢;go_simp;exact hK _ _ hC (vt (Below.refl _ _)) rfl
                  · intro v w5 hC hd K hK
                    obtain⟨(e4:v 4=_),-⟩:=hd;obtain⟨hs0,⟨g0,g1,g2,g3,g4,g5,g6,g7,g8,g9,g10,g11⟩,hr0⟩:=HAw.out w5 hC;rw[<-hfr]at hK⊢;simp only[e4]at hK⊢;go_simp;exact hK _ _ hC (vt (Below.refl _ _)) rfl
                  iterate 2
                   · intro v w5 hC hd K hK
                     rw[<-hfr]at hK⊢;go_simp;exact hK _ _ hC (vt (Below.refl _ _)) rfl
                  · intro v w5 hC hd K hK
                    obtain⟨(e6:v 6=_),(e7:v 7=_),-⟩:=hd;rw[<-hfr]at hK⊢;simp only[e6,e7]at hK⊢;go_simp;exact hK _ _ hC (vt (Below.refl _ _)) rfl
                  · intro v w5 hC hd K hK
                    obtain⟨(e8:v 8=_),-⟩:=hd;rw[<-hfr]at hK⊢;simp only[e8]at hK⊢;go_simp;exact hK _ _ hC (vt (Below.refl _ _)) rfl
                  · intro v w5 hC hd K hK
                    obtain⟨(e9:v 9=_),-⟩:=hd;obtain⟨hs0,⟨g0,g1,g2,g3,g4,g5,g6,g7,g8,g9,g10,g11⟩,hr0⟩:=HAw.out w5 hC;rw[<-hfr]at hK⊢;simp only[e9]at hK⊢;go_simp;exact hK _ _ hC (vt (Below.refl _ _)) rfl
                  · intro v w5 hC hd K hK
                    obtain⟨(e1:v 1=_),(e5:v 5=_),(e10:v 10=_),-⟩:=hd;have HG:=HCr.out w5 hC;rw[<-hfr]at hK⊢;simp only[e1,e5,e10]at hK⊢;go_simp;refine HG.mono ?_;rintro e w6 ⟨y6,rfl,hy,hb4⟩;exact hK _ _ (hC.trans (hb4.mono hC.size)) (vt hb4) hy
                  intro v w5 hC hd K hK;rw[<-hfr]at hK⊢;go_simp;exact hK _ _ hC (vt (Below.refl _ _)) rfl
                intro v w5 hC hall;obtain⟨y2,e11,hy⟩:∃y2,v 11=y2/\ZD w.heap.size (zI QL (y.b,rr)) w5 y2:=⟨_,rfl,hall.1.2⟩;have e12:v 12=.pointer (some ⟨w1.heap.size,0,none⟩):=hall.2;have HF5:=zb ((HF4.out.go hC).put hy);have HFg:=zb (HF4.out.go hC);have hs5:w5.heap.size<=(w5.setCell ⟨w1.heap.size,0,none⟩ y2).heap.size:=by simp
                have hk5:∀k,k<w5.heap.size->k≠w1.heap.size->(w5.setCell ⟨w1.heap.size,0,none⟩ y2).heap[k]?=w5.heap[k]?:=fun k _ hne=>Below.heap_setCell _ _ _ _ hne;obtain⟨xa5,xc5,XX5,hrow5,-⟩:=HFg.out.row;have HO5:=zb (zq (u:=y2) (j:=0) (ze HO4.out hC) (zi (ze HO4.out hC) hrow5 (by decide)));have HR5:=zb (show ∀x∈XG,BuO w.heap.size (w5.setCell ⟨w1.heap.size,0,none⟩ y2) x from fun x hx=>by
                 have h1:=(HR4.out x hx).below hC;exact⟨zq h1.row (zi h1.row hrow5 (by decide)),h1.sizes,h1.p,h1.len⟩);have HQ5:=zb (GU (HQ4.out.below hC) HFg.out.blank hs5 hk5);have HRow5:=zb hrow5;obtain⟨ya,yc,YR,rfl,-,-,-⟩:=hy;simp only[List.take_succ_cons,List.take_zero,List.map_cons,List.map_nil,zB,List.setIfInBounds_toArray,List.set_cons_succ,List.set_cons_zero,Nat.zero_add,Nat.reduceAdd,List.drop_succ_cons,List.drop_zero];simp only[e11,e12];generalize v 0=y0,v 1=y1,v 2=y2,v 3=y3,v 4=y4,v 5=y5,v 6=y6,v 7=y7,v 8=y8,v 9=y9,v 10=y10;clear e11 e12 hall hC v HAw hs5 hk5 hrow5 HFg;have t0:=cell_of_row w5 _ 0 _ _ _ HRow5.out;have t1:=frozen_of_row w5 _ 0 _ _ HRow5.out;go_wp2;exact⟨⟨kg+1,hlg,by go_num,by rw[HIn.out,QF,<-HQL.out];exact HF5.out,HO5.out,HR5.out,HQ5.out⟩,by simp[intOf];omega⟩
              have HIn:=zb (show preG l P ac t (H.map (·.h)) O kc cy kh (GV.take (kg+1))=preG l P ac t (H.map (·.h)) O kc cy kh (GV.take kg) by rw[HTk.out];exact UJ (decide_eq_false hf));go_wp2;exact⟨⟨kg+1,hlg,by go_num,by rw[HIn.out];exact HF4.out,HO4.out,HR4.out,HQ4.out⟩,by simp[intOf];omega⟩
            have HEg:=zb (show RvFr w1.heap.size w.heap.size w1.heap.size l ac (.slice (some ⟨bb,o,none⟩) O.length co) (.slice (some ⟨b2,o2,none⟩) H.length hc1) O H qa qa2 qc qc2 WL CL (yl (preG l P ac t (H.map (·.h)) O kc cy (kh+1) []) (plB X)) V2 wo3 by
             rw[List.take_of_length_le (show GV.length<=kg by have:=HLx.out;omega),HHold.out]at hfr;exact hfr);clear hfr hown hrdg hros;go_wp2;exact⟨⟨kh+1,hlh,by go_num,HEg.out⟩,by simp[intOf];omega⟩
         have HEh:=zb (show RvFr w1.heap.size w.heap.size w1.heap.size l ac (.slice ao O.length co) (.slice ha1 H.length hc1) O H qa qa2 qc qc2 WL CL (yl (zL l P ac t (H.map (·.h)) (O.take (kc+1))) (plB X)) V2 wo2 by
          rw[show kh=((H.map (·.h))).length by rw[List.length_map];omega,HCe.out]at hfr;exact hfr);clear hfr HF2;go_wp2;exact⟨⟨kc+1,hlc,by go_num,HEh.out⟩,by simp[intOf];omega⟩
      have HEnd:=zb (show RvFr w1.heap.size w.heap.size w1.heap.size l ac (.slice ao O.length co) (.slice ha1 H.length hc1) O H qa qa2 qc qc2 WL CL (yl (zL l P ac t (H.map (·.h)) O) (plB X)) V2 wo1 by rw[List.take_of_length_le (by omega)]at hfr;exact hfr);clear hfr HFo hkc;obtain⟨xa,xc,XX,hrow,hownX,hplX,hboX⟩:=id HEnd.out.row;have HRo:=zb hrow;have ZE:=zb ((HEnd.out.bel.block _ HwB.out).trans ZR.out);have HFin:=zb (show StTo (yl (zL l P ac t (H.map (·.h)) O) (plB X)) WL CL w (.returned (.agg #[.slice xa XX.length xc,.slice qa WL.length qc,.slice qa2 CL.length qc2])) (wo1.setRow (w.heap.size+1) #[.slice xa XX.length xc,.slice qa WL.length qc,.slice qa2 CL.length qc2])from
       ⟨xa,xc,XX,qa,qc,qa2,qc2,rfl,zp hownX (zi hownX ZE.out (by decide)) _,hplX,fun x hx=>⟨zp (hboX x hx).row (zi (hboX x hx).row ZE.out (by decide)) _,(hboX x hx).sizes,(hboX x hx).p,(hboX x hx).len⟩,zp HEnd.out.wal (zi HEnd.out.wal ZE.out (by decide)) _,zp HEnd.out.cnt (zi HEnd.out.cnt ZE.out (by decide)) _,zk (HwV.out.trans (HEnd.out.bel.mono (by have:=HwB.out;omega))) (by omega) _⟩);clear hrow hownX hplX hboX HEnd;have y0:=cell_of_row wo1 _ 0 _ _ _ HRo.out;have y1:=cell_of_row wo1 _ 1 _ _ _ HRo.out;have y2:=cell_of_row wo1 _ 2 _ _ _ HRo.out;go_upto_region 19 with(fail);have tQ:=fun j=>cell_setRow_same wo1 (w.heap.size+1) j _ #[.slice xa XX.length xc,.slice qa WL.length qc,.slice qa2 CL.length qc2] _ _ ZE.out;have t0:=tQ 0;have t1:=tQ 1;have t2:=tQ 2;clear tQ;repeat (first|refine wpList_store_row rfl _ _ _ rfl (w.heap.size+1) #[.slice xa XX.length xc,.slice qa WL.length qc,.slice qa2 CL.length qc2] rfl rfl 45 _ ZE.out (by kernel_rfl) rfl (by simp[Value.oneCell']) ?_|go_step)
      refine bodyPost_ret (v:=.agg #[.slice xa XX.length xc,.slice qa WL.length qc,.slice qa2 CL.length qc2]) (by simp[results,Tryz.results23,go_sem,t0,t1,t2]) rfl ?_;exact Or.inr ⟨HOn.out,(H.map (·.h)),O,HHad.out,HO.out,HFin.out⟩
   have HOff:=zb (show ¬kK l ac t from fun h=>hti ⟨h.1,h.2.1⟩);rw[show(decide (0<=t)&&decide (t<12622780800))=false by rw[<-Bool.not_eq_true,Bool.and_eq_true,decide_eq_true_eq,decide_eq_true_eq];exact hti]at HIn;clear hti;go_wp2_with fail;refine(HIn.out V2).mono ?_;rintro e w4 ⟨rfl,hb4⟩;subst hb4;dsimp only;go_upto_region 4 with(fail);have hlt1:=(zw VN.out);have VN2:=zb ((Hb2.out.block _ hlt1).trans VN.out);have ZR:=zb ((Hb2.out.block _ (by have:=HbV.out.size;have:=Hz.out;omega)).trans ((HbV.out.block _ Hz.out).trans R1.out));have HFin:=zb (show StTo (plB X) WL CL w (.returned (.agg #[.slice la Y.length lc,.slice qa WL.length qc,.slice qa2 CL.length qc2])) (V2.setRow (w.heap.size+1) #[.slice la Y.length lc,.slice qa WL.length qc,.slice qa2 CL.length qc2])from by
    have hle:=Hb.out.size;have o1:=ze HO1.out Hb2.out;have o2:=ze HO2.out Hb2.out;have o3:=ze HO3.out Hb2.out;refine⟨la,lc,Y,qa,qc,qa2,qc2,rfl,zr (zp o1 (zi o1 ZR.out (by decide)) _) hle,HPl.out,fun x hx=>?_,zr (zp o2 (zi o2 ZR.out (by decide)) _) hle,zr (zp o3 (zi o3 ZR.out (by decide)) _) hle,zk (Hb.out.trans ((HbV.out.trans (Hb2.out.mono HbV.out.size)).mono hle)) (by omega) _⟩;have h1:=(HBo.out x hx).below Hb2.out;exact⟨zr (zp h1.row (zi h1.row ZR.out (by decide)) _) hle,h1.sizes,h1.p,h1.len⟩);have y0:=cell_of_row V2 _ 0 _ _ _ VN2.out;have y1:=cell_of_row V2 _ 1 _ _ _ VN2.out;have y2:=cell_of_row V2 _ 2 _ _ _ VN2.out;have tQ:=fun j=>cell_setRow_same V2 (w.heap.size+1) j _ #[.slice la Y.length lc,.slice qa WL.length qc,.slice qa2 CL.length qc2] _ _ ZR.out;have t0:=tQ 0;have t1:=tQ 1;have t2:=tQ 2;clear tQ;repeat (first|refine wpList_store_row rfl _ _ _ rfl (w.heap.size+1) #[.slice la Y.length lc,.slice qa WL.length qc,.slice qa2 CL.length qc2] rfl rfl 45 _ ZR.out (by kernel_rfl) rfl (by simp[Value.oneCell']) ?_|go_step)
   refine bodyPost_ret (v:=.agg #[.slice la Y.length lc,.slice qa WL.length qc,.slice qa2 CL.length qc2]) (by simp[results,Tryz.results23,go_sem,t0,t1,t2]) rfl ?_;exact Or.inl ⟨HOff.out,HFin.out⟩
structure StIn (w:World) (L:List Bu) (WL CL:List I5) (a:Option Addr) (c:Nat) (X:List BuX) (wa:Option Addr) (wc:Nat) (ca:Option Addr) (cc:Nat):Prop where
 bu:zh zt 12 w (.slice a X.length c) X
 pl:plB X=L
 rd:∀x∈X,BuRd w x
 wal:zh zC 5 w (.slice wa WL.length wc) WL
 cnt:zh zC 5 w (.slice ca CL.length cc) CL
theorem StIn.below {w w':World} {L:List Bu} {WL CL:List I5} {a:Option Addr} {c:Nat} {X:List BuX} {wa:Option Addr} {wc:Nat} {ca:Option Addr} {cc:Nat} (h:StIn w L WL CL a c X wa wc ca cc) (hb:Below w.heap.size w w'):StIn w' L WL CL a c X wa wc ca cc:=
 ⟨h.bu.below hb,h.pl,fun x hx=>(h.rd x hx).below hb,h.wal.below hb,h.cnt.below hb⟩
theorem StIn.len {w:World} {L:List Bu} {WL CL:List I5} {a:Option Addr} {c:Nat} {X:List BuX} {wa:Option Addr} {wc:Nat} {ca:Option Addr} {cc:Nat} (h:StIn w L WL CL a c X wa wc ca cc):X.length=L.length:=by rw[<-h.pl,qf]
def StO (L:List Bu) (WL CL:List I5) (w:World) (e:Ending) (w':World):Prop:=∃(a:Option Addr) (c:Nat) (X:List BuX) (wa:Option Addr) (wc:Nat) (ca:Option Addr) (cc:Nat),e=.returned (.agg #[.slice a X.length c,.slice wa WL.length wc,.slice ca CL.length cc])/\StIn w' L WL CL a c X wa wc ca cc/\Below w.heap.size w w'
theorem StTo.o {L:List Bu} {WL CL:List I5} {w w':World} {e:Ending} (h:StTo L WL CL w e w'):StO L WL CL w e w':=by obtain⟨a,c,X,wa,wc,ca,cc,rfl,h1,h2,h3,h4,h5,h6⟩:=h;exact⟨a,c,X,wa,wc,ca,cc,rfl,⟨zh.own (fun _=>rfl) h1,h2,fun x hx=>(h3 x hx).rd,zh.own (fun _=>rfl) h4,zh.own (fun _=>rfl) h5⟩,h6⟩
def AdvO (l:List Ev) (P:List Pd) (ac t:Int) (L:List Bu) (WL CL:List I5) (w:World) (e:Ending) (w':World):Prop:=∃G,GsOf l P ac t G/\StO (yl G L) WL CL w e w'
theorem ZC.mono {l:List Ev} {t u:Int} (h:ZC l u) (htu:t<=u):ZC l t:=by
 rcases h with h|h|h;· exact Or.inl h
 · exact Or.inr (Or.inl (by omega))
 exact Or.inr (Or.inr fun hl=>by have:=h hl;omega)
theorem N6 {l:List Ev} {P:List Pd} {w:World} {ve:Value} (hc:Jk l P) {ac t:Int} (hn:ZC l t) (ht:t<=9223372036854775807) (he:vQ w ve l):AdvH l P ac t:=
 Gw hc.r hc.le hn (fun e h=>(he.2 e h).2) hc.b (Ks hc.r ac).2 ht
section
variable (l:List Ev) (P:List Pd) (ac t:Int) (ve vp:Value) (L:List Bu) (WL CL:List I5) (a wa ca:Option Addr) (c wc cc:Nat) (X:List BuX) (w:World)
theorem Wd (hc:Jk l P) (hn:ZC l t) (ht:t<=9223372036854775807) (he:vQ w ve l) (hp:qG w vp P) (hs:StIn w L WL CL a c X wa wc ca cc) (hk:∀b∈L,KeyB b) (hl:L.length<=400000) (hwl:WL.length<=1000) (hcl:CL.length<=1000):
 Calls Tryz.prog 22 #[ve,vp,.agg #[.slice a X.length c,.slice wa WL.length wc,.slice ca CL.length cc],.int .i64 ac,.int .i64 t] w (AdvO l P ac t L WL CL w):=
 (km l P ac t ve vp X WL CL a wa ca c wc cc w he hc.r (by have:=hc.le;omega) hp hc.f hs.bu hs.rd (fun x hx=>hk _ (by rw[<-hs.pl];exact List.mem_map_of_mem hx)) (by rw[hs.len];exact hl) hs.wal hwl hs.cnt hcl (N6 hc hn ht he)).mono fun e w' h=>by
  rw[hs.pl]at h;obtain⟨G,hg,hst⟩:=h.gs;exact⟨G,hg,hst.o⟩
theorem X7 (hc:Jk l P) (hn:ZC l t) (ht:t<=9223372036854775807) (he:vQ w ve l) (hp:qG w vp P) (hs:StIn w L WL CL a c X wa wc ca cc) (hl:L.length<=400000) (hwl:WL.length<=1000) (hcl:CL.length<=1000):
 Calls Tryz.prog 23 #[ve,vp,.agg #[.slice a X.length c,.slice wa WL.length wc,.slice ca CL.length cc],.int .i64 ac,.int .i64 t] w (AdvO l P ac t L WL CL w):=
 (Ql l P ac t ve vp X WL CL a wa ca c wc cc w he hc.r (by have:=hc.le;omega) hp hc.f hs.bu hs.rd (by rw[hs.len];exact hl) hs.wal hwl hs.cnt hcl (N6 hc hn ht he)).mono fun e w' h=>by
  rw[hs.pl]at h;obtain⟨G,hg,hst⟩:=h.gs;exact⟨G,hg,hst.o⟩
end
theorem xC {w:World} {L:List Bu} {WL CL:List I5} {a a2 wa wa2 ca ca2:Option Addr} {c c2 wc wc2 cc cc2:Nat} {X Y:List BuX} (h:StIn w L WL CL a c X wa wc ca cc) (g:StIn w L WL CL a2 c2 Y wa2 wc2 ca2 cc2):
 Calls Tryz.prog 21 #[.agg #[.slice a X.length c,.slice wa WL.length wc,.slice ca CL.length cc],.agg #[.slice a2 Y.length c2,.slice wa2 WL.length wc2,.slice ca2 CL.length cc2]] w fun e w'=>e=.returned (.bool true)/\Below w.heap.size w w':=
 KI X Y WL CL a wa ca a2 wa2 ca2 c wc cc c2 wc2 cc2 w h.bu g.bu h.rd g.rd (g.pl.trans h.pl.symm) h.wal g.wal h.cnt g.cnt
end Go.Proofs.YtngippiilgdnoaaGreat
