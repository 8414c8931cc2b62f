/-
  The walks of the reference's Has and of its list of the products of a subscription.
-/
import Derived.Test.YtngippiilgdnoaaGreatMibg
import Derived.Test.YtngippiilgdnoaaGreatMiaw
set_option maxRecDepth 100000
set_option maxHeartbeats 25600000
namespace Go.Proofs.YtngippiilgdnoaaGreat
open Go.RowKit
theorem jk {w:World} {ops:Array Oper} {rest:List Oper} {o:Oper} {a:Act} {Q:Exit->Act->World->Prop} (hgd:o.guard=none) (s x:Operand)
 (ho:o.op=.call { callee:=.builtin .append,args:=#[s,x],argTypes:=#[96,96] })
 (base:Nat) (hbase:base<=w.heap.size) (v vx:Value) (L X:List Int) (hs:a.eval s=v) (hx:a.eval x=vx) (hown:w.ownsRow base 3 1 v L.length (L.flatMap yh)) (hX:zh yh 1 w vx X) (hlen:L.length+X.length<=1000000)
 (h:∀R:List Int,RowKit.Hid (R=L++X)->∀v' w',w'.ownsRow base 3 1 v' R.length (R.flatMap yh)->Below base w w'->wpList Tryz.prog ops Q rest (a.put o.dst v') w'):wpList Tryz.prog ops Q (o::rest) a w:=
 kw (c:=yh) (sz:=1) (fun _=>rfl) (fun a u hu=>by unfold yh at hu;rw[List.mem_singleton]at hu;subst hu;rfl) 3 96 _ 8 Tryz.underlying96 Tryz.intInfo rfl (by decide) hgd s x ho base hbase v vx L X hs hx hown hX (by unfold maxLen;omega) (by omega) h
theorem Kt (g j:Nat):(⟨g,0,none⟩:Addr).add j=⟨g,j,none⟩:=by unfold Addr.add;split<;>simp_all
theorem XM (a:Int):qr [] a []:=⟨List.Pairwise.nil,fun x=>by simp⟩
def xi (l:List Ev) (a:Int) (w:World) (e:Ending) (w':World):Prop:=∃v O,e=.returned v/\qr l a O/\w'.ownsRow w.heap.size 3 1 v O.length (O.flatMap yh)/\O.length<=l.length/\Below w.heap.size w w'
theorem KB (v:Value) (l:List Ev) (a:Int) (w:World) (h:vQ w v l) (hr:yB l) (hl:l.length<=1000):
 Calls Tryz.prog 46 #[v,.int .i64 a] w (xi l a w):=by
 obtain⟨av,cap,rfl,hlc,hcm⟩:=zu h.1;unfold maxLen at hcm;have HE:=zb h.1;have HA:=zb (fun(k:Nat) (hk:k<l.length) (h3:(l[k]).kd=3) (O:List Int) (hO:qr (l.take k) a O)=>N8 hr hk h3 hO);have HF:=zb (show ∀O,qr (l.take l.length) a O->qr l a O from fun O h=>by rwa[List.take_of_length_le (Nat.le_refl _)]at h);clear h hr;go_enter Tryz.func46,Tryz.ntmps46;go_wp2_with fail;go_loopg [5,6] l.length (fun g vo i wx=>∃(k:Nat) (O:List Int),k+g=l.length/\i=.int .i64 k/\qr (l.take k) a O/\O.length<=k/\wx.ownsRow w.heap.size 3 1 vo O.length (O.flatMap yh)/\Below w.heap.size w wx);case atStart=>exact⟨0,[],by omega,rfl,XM _,Nat.le_refl _,World.ownsRow_nil _ _ _ _,Below.refl _ _⟩
 case round=>
  obtain⟨wo,rfl⟩:∃wo:World,wo=wr:=⟨_,rfl⟩;obtain⟨i,O,hig,rfl,hok,hOl,hown,hb⟩:=hrel;obtain⟨ao,co,rfl,hco,hcom⟩:=zf hown;have Hown:=zb hown;have Hb:=zb hb;cases gk with
  |zero=>
    have hiz:¬((i:Int)<(l.length:Int)):=by omega
    have hEq:i=l.length:=by omega
    have HR:=zb (show xi l a w (.returned (.slice ao O.length co)) wo from⟨_,O,rfl,HF.out O (by rw[<-hEq];exact hok),hown,by omega,hb⟩);clear hig hb hown hEq hok;go_wp2;go_ret;exact HR.out
  |succ g0=>
    have hil:i<l.length:=by omega
    have hi1:(i:Int)<(l.length:Int):=by omega
    have hi0:(0:Int)<=(i:Int):=Int.natCast_nonneg _;obtain⟨a2,n2,e2,-,-,hx⟩:=HE.out;cases e2;obtain⟨eb,eo,rfl,hB,hx⟩:=hx (by intro e;rw[e]at hil;cases hil);have HX:=zb (show ∀Y,Below w.heap.size w Y->Y.cell? ⟨eb,eo+i*7+1,none⟩=some (.int .i64 (l[i]).kd)/\Y.cell? ⟨eb,eo+i*7+2,none⟩=some (.int .i64 (l[i]).ac)/\Y.cell? ⟨eb,eo+i*7+3,none⟩=some (.int .i64 (l[i]).sb)from fun Y hY=>⟨(hY.cell (p:=⟨eb,_,none⟩) hB).trans (hx i hil 1 (by decide)),(hY.cell (p:=⟨eb,_,none⟩) hB).trans (hx i hil 2 (by decide)),(hY.cell (p:=⟨eb,_,none⟩) hB).trans (hx i hil 3 (by decide))⟩);have hebW:eb<w.heap.size:=hB;clear hx;have HRel:=zb (fun(O1:List Int) (vo:Value) (wx:World) (h0:qr (l.take (i+1)) a O1) (hl1:O1.length<=i+1) (h1:wx.ownsRow w.heap.size 3 1 vo O1.length (O1.flatMap yh)) (h2:Below w.heap.size w wx)=>(⟨i+1,O1,by omega,by go_num,h0,hl1,h1,h2⟩:∃(k:Nat) (O:List Int),k+g0=l.length/\Value.int .i64 ((i:Int)+1)=.int .i64 k/\qr (l.take k) a O/\O.length<=k/\wx.ownsRow w.heap.size 3 1 vo O.length (O.flatMap yh)/\Below w.heap.size w wx));have HSk:=zb (show ¬((l[i]).kd=3/\(l[i]).ac=a)->qr (l.take (i+1)) a O from fun hn=>by rw[List.take_succ_eq_append_getElem hil];exact hok.skip _ hn);have HIn:=zb (show(l[i]).kd=3->(l[i]).ac=a->∀k,Ya (fun x y:Int=>x<y) O (l[i]).sb k->qr (l.take (i+1)) a (O.take k++[(l[i]).sb]++O.drop k)from fun h3 h4 k hp=>by rw[List.take_succ_eq_append_getElem hil];exact hok.ins _ h3 h4 (HA.out i hil h3 O hok) hp);clear HA HF;generalize qr (l.take (i+1)) a=ok1 at *;have Hok:=zb hok;clear hok;generalize l[i]=ev at *;obtain⟨tm,kd,ac,sb,nu,nm,vl⟩:=ev;dsimp only at HX HSk HIn;obtain⟨x1,x2,x3⟩:=HX.out wo hb;by_cases h3:kd=3
    · have k1:(kd != 3)=false:=bne_eq_false_iff_eq.2 h3
      by_cases h4:ac=a
      · have k2:(ac != a)=false:=bne_eq_false_iff_eq.2 h4
        have HIns:=zb (fun k hp=>HIn.out h3 h4 k hp);clear HIn HSk hig hb hown h3 h4;go_wp2_with fail;go_loopg [7] O.length (fun g x wy=>x=.int .i64 g/\g<=O.length/\(∀j (hj:j<O.length),g<=j->(fun x y:Int=>x<y) sb O[j])/\Below wo.heap.size wo wy);case atStart=>exact⟨rfl,Nat.le_refl _,fun j hj h=>by omega,Below.refl _ _⟩
        case round=>
         obtain⟨rfl,hgN,hkO,hby⟩:=hrel;have HkO:=zb hkO;have Hby:=zb hby;have HownY:=zb (ze Hown.out hby);obtain⟨y1,y2,y3⟩:=HX.out wr (Hb.out.trans (hby.mono Hb.out.size));have hebY:eb<wr.heap.size:=by have:=hby.size;have:=Hb.out.size;omega
         have f3:=fun p:zd wr=>zd.cell (a:=⟨eb,_,none⟩) hebY y3 p;have hrr:=Below.refl wr.heap.size wr;clear hkO y1 y2 y3 x1 x2 x3 hebY;cases gk with
         |zero=>
           have HPl:=zb (HIns.out 0 ⟨Nat.zero_le _,HkO.out,fun j hj e=>by omega⟩);go_upto_region 7 with(fail);refine zj hrr (by kernel_rfl) (by kernel_rfl) ?_;repeat (go_big_quiet_step (fail))
           refine wpQuiet_nil ?_;intro wa hw';have hYa:Below wr.heap.size wr wa:=by obtain⟨pq,rfl⟩:=hw';exact pq.h
           clear hw' f3 hrr;have Hbo:=zb (Hby.out.trans (hYa.mono Hby.out.size));have HownA:=zb (ze HownY.out hYa);have Ht:=zb (zO (zh.own (c:=yh) (fun _=>rfl) HownA.out:zh yh 1 _ _ _) 0 (Nat.zero_le _));have Hd:=zb (show zh yh 1 wa (.slice ao O.length co) (O.drop 0)from zh.own (fun _=>rfl) HownA.out);obtain⟨P,hP0⟩:∃P,P=O.take (0):=⟨_,rfl⟩;obtain⟨D,hD0⟩:∃D,D=O.drop (0):=⟨_,rfl⟩;have hlt1:P.length<=O.length:=by rw[hP0,List.length_take];omega
           have hld1:P.length+D.length=O.length:=by rw[hP0,hD0,<-List.length_append,List.take_append_drop]
           rw[<-hP0]at Ht;rw[<-hD0]at Hd;rw[<-hP0,<-hD0]at HPl;clear hP0 hD0;obtain⟨Y,hY⟩:∃Y,Y=wa.alloc (Obj.cells #[] 3):=⟨_,rfl⟩;have hbY:Below wa.heap.size wa Y:=by rw[hY];exact(Below.refl _ _).alloc (Nat.le_refl _) _
           have hown0:Y.ownsRow wa.heap.size 3 1 (.slice (some ⟨wa.heap.size,0,none⟩) 0 0) 0 []:=by rw[hY];exact yx _ _
           have Hown0:=zb hown0;have HbY:=zb hbY;have HYe:=zb hY;have HbA:=zb (Hb.out.trans (Hbo.out.mono Hb.out.size));clear hY hbY hown0 hYa;have hbs:=HbY.out.size;have hbA:=HbA.out.size;go_wp2_with (at_builtin;rw[<-HYe.out];refine jk rfl _ _ rfl wa.heap.size hbs _ _ [] P rfl rfl Hown0.out ?hX1 ?hl1 ?_);case hX1=>exact zh.below Ht.out HbY.out
           case hl1=>first|omega|(simp;omega)
           intro P5 hP5 v5 w5 own5 hb5;obtain rfl:P=P5:=hP5.out.symm;clear hP5;have Hb5:=zb (HbY.out.trans hb5);have Own5:=zb own5;have hbs5:=Hb5.out.size;obtain⟨a5,c5,rfl,hc5,hm5⟩:=zf own5;clear own5 hb5;obtain⟨z1,z2,z3⟩:=HX.out w5 (HbA.out.trans (Hb5.out.mono HbA.out.size));have HX2:=zb (zh.one (c:=yh) (sz:=1) w5 sb 3 #[.int .i64 sb] rfl);go_wp2_with (at_builtin;refine jk rfl _ _ rfl wa.heap.size ?hs2 _ _ P [sb] rfl rfl (Own5.out.alloc _) HX2.out ?hl2 ?_);case hs2=>simp;omega
           case hl2=>simp;omega
           intro R6 hR6 v6 w6 own6 hb6;have Hb6:=zb ((Hb5.out.alloc hbs5 (Obj.cells #[.int .i64 sb] 3)).trans hb6);have HR6:=zb hR6.out;have hR6l:R6.length=P.length+1:=by rw[hR6.out,List.length_append];rfl
           have hbs6:=Hb6.out.size;obtain⟨a6,c6,rfl,hc6,hm6⟩:=zf own6;have Own6:=zb own6;have hR6b:R6.length<=O.length+1:=by omega
           have hR6d:R6.length+D.length<=O.length+1:=by omega
           clear own6 hb6 hR6 hR6l z1 z2 z3;go_wp2_with (at_builtin;refine jk rfl _ _ rfl wa.heap.size ?hs3 _ _ R6 D rfl rfl Own6.out ?hX3 ?hl3 ?_);case hs3=>exact hbs6
           case hX3=>exact zh.below Hd.out Hb6.out
           case hl3=>omega
           intro R hR v7 w7 own7 hb7;have Hb7:=zb (HbA.out.trans ((Hb6.out.trans hb7).mono HbA.out.size));have HRl:=zb (show R.length<=i+1 by rw[hR.out,List.length_append];omega);have hR:=hR.out;have Own7:=zb (zr own7 (show w.heap.size<=wa.heap.size by omega));have HRm:=zb (show P++[sb]++D=R by rw[hR,HR6.out]);rw[HRm.out]at HPl;have HS:=zb (fun vo wx h1 h2=>HRel.out R vo wx HPl.out HRl.out h1 h2);clear own7 hb7 hR;go_wp2;go_roundg g0;case measure=>omega
           case rel=>obtain⟨k',O',h1,h2,h3⟩:=HS.out _ _ Own7.out Hb7.out;exact⟨k',O',h1,by first|exact h2|(rw[<-h2];go_num),h3⟩
         |succ n0=>
           have hn0:n0<O.length:=by omega
           obtain⟨gm,rfl⟩:∃gm,ao=some ⟨gm,0,none⟩:=by
            rcases HownY.out.2 with⟨h1,h2⟩|⟨gm,cap',cur,hv,-⟩;· omega
            simp only[Value.slice.injEq]at hv;exact⟨gm,hv.1⟩
           have hgW:=(zg HownY.out gm rfl).2;have hzr:=fun j (hj:j<1)=>(HownY.out.cellAt (n0*1+j) (by omega)).trans (vG yh 1 (fun _=>rfl) O n0 j hn0 hj);have HYs:=zb (show(fun x y:Int=>x<y) sb O[n0]->∀j (hj:j<O.length),n0<=j->(fun x y:Int=>x<y) sb O[j] from fun h j hj hle=>by
            rcases Nat.lt_or_ge n0 j with h1|h1;· exact HkO.out j hj h1
            obtain rfl:j=n0:=by omega
            exact h);have HNo:=zb (show ¬(fun x y:Int=>x<y) sb O[n0]->ok1 (O.take (n0+1)++[sb]++O.drop (n0+1))from fun h=>HIns.out (n0+1) ⟨hn0,HkO.out,fun j hj e=>by
            obtain rfl:j=n0:=by omega
            exact h⟩);clear HIns;generalize O[n0]=r at *;unfold yh at hzr;have e0:=fun p:zd wr=>zd.cell (a:=⟨gm,_,none⟩) hgW (hzr 0 (by omega)) p;have e0:∀p:zd wr,p.w.cell? ⟨gm,n0,none⟩=some (.int .i64 r):=by simpa using e0
           clear hzr hgW;have hsub:IntKind.i64.wrap ((n0:Int)+1-1)=(n0:Int):=by rw[show(n0:Int)+1-1=n0 by omega];exact IntWalk.i64_in _ (by omega)
           have hn0c:(n0:Int)<(O.length:Int):=by omega
           have hn00:(0:Int)<=(n0:Int):=Int.natCast_nonneg _;have hn0p:(0:Int)<(n0:Int)+1:=by omega
           obtain⟨bf,hbf⟩:∃bf,bf=decide (sb<r):=⟨_,rfl⟩;have Hbf:=zb hbf;cases bf with
           |true=>
             have HE2:=zb (HYs.out (of_decide_eq_true Hbf.out.symm));have hcmp:sb<r:=of_decide_eq_true Hbf.out.symm;clear HYs HNo hbf;go_upto_region 7 with(fail);refine zj hrr (by kernel_rfl) (by kernel_rfl) ?_;repeat (go_big_quiet_step (fail))
             refine wpQuiet_nil ?_;intro wa hw';have hYa:Below wr.heap.size wr wa:=by obtain⟨pq,rfl⟩:=hw';exact pq.h
             have Hbo:=zb (Hby.out.trans (hYa.mono Hby.out.size));clear hw' e0 f3 hrr hYa;go_wp2;go_roundg n0;case measure=>omega
             case rel=>exact⟨by first|rfl|simp,by omega,HE2.out,Hbo.out⟩
           |false=>
             have HPl:=zb (HNo.out (of_decide_eq_false Hbf.out.symm));have hcmp:¬sb<r:=of_decide_eq_false Hbf.out.symm;clear HYs HNo hbf;go_upto_region 7 with(fail);refine zj hrr (by kernel_rfl) (by kernel_rfl) ?_;repeat (go_big_quiet_step (fail))
             refine wpQuiet_nil ?_;intro wa hw';have hYa:Below wr.heap.size wr wa:=by obtain⟨pq,rfl⟩:=hw';exact pq.h
             clear hw' e0 f3 hrr;have Hbo:=zb (Hby.out.trans (hYa.mono Hby.out.size));have HownA:=zb (ze HownY.out hYa);have Ht:=zb (zO (zh.own (c:=yh) (fun _=>rfl) HownA.out:zh yh 1 _ _ _) (n0+1) hn0);have Hd:=zb (yg (zh.own (c:=yh) (fun _=>rfl) HownA.out:zh yh 1 _ _ _) (n0+1) hn0);obtain⟨P,hP0⟩:∃P,P=O.take (n0+1):=⟨_,rfl⟩;obtain⟨D,hD0⟩:∃D,D=O.drop (n0+1):=⟨_,rfl⟩;have hlt1:P.length<=O.length:=by rw[hP0,List.length_take];omega
             have hld1:P.length+D.length=O.length:=by rw[hP0,hD0,<-List.length_append,List.take_append_drop]
             rw[<-hP0]at Ht;rw[<-hD0]at Hd;rw[<-hP0,<-hD0]at HPl;clear hP0 hD0;obtain⟨Y,hY⟩:∃Y,Y=wa.alloc (Obj.cells #[] 3):=⟨_,rfl⟩;have hbY:Below wa.heap.size wa Y:=by rw[hY];exact(Below.refl _ _).alloc (Nat.le_refl _) _
             have hown0:Y.ownsRow wa.heap.size 3 1 (.slice (some ⟨wa.heap.size,0,none⟩) 0 0) 0 []:=by rw[hY];exact yx _ _
             have Hown0:=zb hown0;have HbY:=zb hbY;have HYe:=zb hY;have HbA:=zb (Hb.out.trans (Hbo.out.mono Hb.out.size));clear hY hbY hown0 hYa;have hbs:=HbY.out.size;have hbA:=HbA.out.size;go_wp2_with (at_builtin;rw[<-HYe.out];refine jk rfl _ _ rfl wa.heap.size hbs _ _ [] P rfl rfl Hown0.out ?hX1 ?hl1 ?_);case hX1=>exact zh.below Ht.out HbY.out
             case hl1=>first|omega|(simp;omega)
             intro P5 hP5 v5 w5 own5 hb5;obtain rfl:P=P5:=hP5.out.symm;clear hP5;have Hb5:=zb (HbY.out.trans hb5);have Own5:=zb own5;have hbs5:=Hb5.out.size;obtain⟨a5,c5,rfl,hc5,hm5⟩:=zf own5;clear own5 hb5;obtain⟨z1,z2,z3⟩:=HX.out w5 (HbA.out.trans (Hb5.out.mono HbA.out.size));have HX2:=zb (zh.one (c:=yh) (sz:=1) w5 sb 3 #[.int .i64 sb] rfl);go_wp2_with (at_builtin;refine jk rfl _ _ rfl wa.heap.size ?hs2 _ _ P [sb] rfl rfl (Own5.out.alloc _) HX2.out ?hl2 ?_);case hs2=>simp;omega
             case hl2=>simp;omega
             intro R6 hR6 v6 w6 own6 hb6;have Hb6:=zb ((Hb5.out.alloc hbs5 (Obj.cells #[.int .i64 sb] 3)).trans hb6);have HR6:=zb hR6.out;have hR6l:R6.length=P.length+1:=by rw[hR6.out,List.length_append];rfl
             have hbs6:=Hb6.out.size;obtain⟨a6,c6,rfl,hc6,hm6⟩:=zf own6;have Own6:=zb own6;have hR6b:R6.length<=O.length+1:=by omega
             have hR6d:R6.length+D.length<=O.length+1:=by omega
             clear own6 hb6 hR6 hR6l z1 z2 z3;by_cases hco1:co=n0+1
             · have Hd:=zb (show zh yh 1 wa (.slice (some ⟨gm,0,none⟩) (O.length-(n0+1)) 0) D by
                have h:=Hd.out;rw[if_pos hco1,hco1,Nat.sub_self]at h;exact h)
               go_wp2_with (at_builtin;refine jk rfl _ _ rfl wa.heap.size ?hs3 _ _ R6 D rfl rfl Own6.out ?hX3 ?hl3 ?_);case hs3=>exact hbs6
               case hX3=>exact zh.below Hd.out Hb6.out
               case hl3=>omega
               intro R hR v7 w7 own7 hb7;have Hb7:=zb (HbA.out.trans ((Hb6.out.trans hb7).mono HbA.out.size));have HRl:=zb (show R.length<=i+1 by rw[hR.out,List.length_append];omega);have hR:=hR.out;have Own7:=zb (zr own7 (show w.heap.size<=wa.heap.size by omega));have HRm:=zb (show P++[sb]++D=R by rw[hR,HR6.out]);rw[HRm.out]at HPl;have HS:=zb (fun vo wx h1 h2=>HRel.out R vo wx HPl.out HRl.out h1 h2);clear own7 hb7 hR;go_wp2;go_roundg g0;case measure=>omega
               case rel=>obtain⟨k',O',h1,h2,h3⟩:=HS.out _ _ Own7.out Hb7.out;exact⟨k',O',h1,by first|exact h2|(rw[<-h2];go_num),h3⟩
             have Hd:=zb (show zh yh 1 wa (.slice (some ⟨gm,n0+1,none⟩) (O.length-(n0+1)) (co-(n0+1))) D by
              have h:=Hd.out;rw[if_neg hco1,Option.map_some,Kt,Nat.mul_one]at h;exact h);go_wp2_with (at_builtin;refine jk rfl _ _ rfl wa.heap.size ?hs3 _ _ R6 D rfl rfl Own6.out ?hX3 ?hl3 ?_);case hs3=>exact hbs6
             case hX3=>exact zh.below Hd.out Hb6.out
             case hl3=>omega
             intro R hR v7 w7 own7 hb7;have Hb7:=zb (HbA.out.trans ((Hb6.out.trans hb7).mono HbA.out.size));have HRl:=zb (show R.length<=i+1 by rw[hR.out,List.length_append];omega);have hR:=hR.out;have Own7:=zb (zr own7 (show w.heap.size<=wa.heap.size by omega));have HRm:=zb (show P++[sb]++D=R by rw[hR,HR6.out]);rw[HRm.out]at HPl;have HS:=zb (fun vo wx h1 h2=>HRel.out R vo wx HPl.out HRl.out h1 h2);clear own7 hb7 hR;go_wp2;go_roundg g0;case measure=>omega
             case rel=>obtain⟨k',O',h1,h2,h3⟩:=HS.out _ _ Own7.out Hb7.out;exact⟨k',O',h1,by first|exact h2|(rw[<-h2];go_num),h3⟩
      have k2:(ac != a)=true:=bne_iff_ne.2 h4;have HS:=zb (HRel.out O (.slice ao O.length co) wo (HSk.out (fun h=>h4 h.2)) (by omega) Hown.out Hb.out);clear hig hb hown HIn HSk HRel h3 h4;go_wp2;go_roundg g0;case measure=>omega
      case rel=>obtain⟨k',O',h1,h2,h3⟩:=HS.out;exact⟨k',O',h1,by first|exact h2|(rw[<-h2];go_num),h3⟩
    have k1:(kd != 3)=true:=bne_iff_ne.2 h3;have HS:=zb (HRel.out O (.slice ao O.length co) wo (HSk.out (fun h=>h3 h.1)) (by omega) Hown.out Hb.out);clear hig hb hown HIn HSk HRel h3;go_wp2;go_roundg g0;case measure=>omega
    case rel=>obtain⟨k',O',h1,h2,h3⟩:=HS.out;exact⟨k',O',h1,by first|exact h2|(rw[<-h2];go_num),h3⟩
theorem ji {w:World} {ops:Array Oper} {rest:List Oper} {o:Oper} {a:Act} {Q:Exit->Act->World->Prop} (hgd:o.guard=none) (s x:Operand)
 (ho:o.op=.call { callee:=.builtin .append,args:=#[s,x],argTypes:=#[58,58] })
 (base:Nat) (hbase:base<=w.heap.size) (v vx:Value) (L X:List ByteArray) (hs:a.eval s=v) (hx:a.eval x=vx) (hown:w.ownsRow base 9 1 v L.length (L.flatMap zm)) (hX:zh zm 1 w vx X) (hlen:L.length+X.length<=1000000)
 (h:∀R:List ByteArray,RowKit.Hid (R=L++X)->∀v' w',w'.ownsRow base 9 1 v' R.length (R.flatMap zm)->Below base w w'->wpList Tryz.prog ops Q rest (a.put o.dst v') w'):wpList Tryz.prog ops Q (o::rest) a w:=
 kw (c:=zm) (sz:=1) (fun _=>rfl) (fun a u hu=>by unfold zm at hu;rw[List.mem_singleton]at hu;subst hu;rfl) 9 58 _ 16 Tryz.underlying58 Tryz.stringInfo rfl (by decide) hgd s x ho base hbase v vx L X hs hx hown hX (by unfold maxLen;omega) (by omega) h
theorem xU {a b:ByteArray} (h:ltS a b=true):Op.bytesLess b.toList a.toList=false:=by
 cases hq:Op.bytesLess b.toList a.toList with
 |false=>rfl
 |true=>exact absurd (jC h hq) (uq a)
theorem Nf {a b:ByteArray} (h:¬ltS a b=true) (hne:b≠a):Op.bytesLess b.toList a.toList=true:=VP h (Ne.symm hne)
theorem xF {a b:ByteArray} (h:a≠b):(a.toList==b.toList)=false:=by
 cases hq:(a.toList==b.toList)with
 |false=>rfl
 |true=>exact absurd ((zH a b).1 hq) h
theorem UF (a:Int):yT [] a []:=⟨List.Pairwise.nil,fun x=>by simp⟩
def GA (l:List Ev) (a:Int) (w:World) (e:Ending) (w':World):Prop:=∃v O,e=.returned v/\yT l a O/\w'.ownsRow w.heap.size 9 1 v O.length (O.flatMap zm)/\O.length<=l.length/\Below w.heap.size w w'
theorem XJ (O:List ByteArray) (s:ByteArray):O.any (fun x=>ye x s)=true↔s∈O:=by rw[List.any_eq_true];exact⟨fun⟨x,hx,he⟩=>(zH _ _).1 he▸hx,fun h=>⟨s,h,(zH _ _).2 rfl⟩⟩
theorem XI {O:List ByteArray} {s:ByteArray} (h:s∉O):O.any (fun x=>ye x s)=false:=by
 cases hq:O.any (fun x=>ye x s)with
 |false=>rfl
 |true=>exact absurd ((XJ O s).1 hq) h
theorem Xc (v:Value) (L:List ByteArray) (s:ByteArray) (w:World) (h:zh zm 1 w v L):
 Calls Tryz.prog 88 #[v,.string s] w fun e w'=>e=.returned (.bool (L.any fun x=>ye x s))/\w=w':=by
 have HA:=zb h;obtain⟨aa,an,rfl,hla,hma,-⟩:=h;have hma:=hma.1;unfold maxLen at hma;go_enter Tryz.func88,Tryz.ntmps88;go_wp2_with fail;go_loop [5] (fun i=>∃k:Nat,k<=L.length/\i=.int .i64 k/\(L.take k).any (fun x=>ye x s)=false) (fun i=>L.length-(intOf i).toNat);case atStart=>exact⟨0,Nat.zero_le _,rfl,rfl⟩
 case round=>
  obtain⟨k,hk,rfl,hno⟩:=hrel;have Hno:=zb hno;clear hno;by_cases hlt:k<L.length
  · have hk1:(k:Int)<(L.length:Int):=by omega
    have hk0:(0:Int)<=(k:Int):=Int.natCast_nonneg _;obtain⟨a2,n2,e2,-,-,hx⟩:=HA.out;cases e2;obtain⟨bb,o,rfl,hB,hx⟩:=hx (by rintro rfl;cases hlt);have x0:w.cell? ⟨bb,o+k,none⟩=some (.string L[k]):=by have:=hx k hlt 0 (by decide);rwa[Nat.mul_one,Nat.add_zero]at this
    have HH:=zb (fun hp=>Zr (p:=fun x=>ye x s) hlt hp);have HT:=zb (fun hp=>qF (p:=fun x=>ye x s) hlt Hno.out hp);clear hx;generalize L[k]=a at *;cases hid:(a.toList==s.toList)with
    |true=>have HE:=zb (HH.out hid);go_wp2;go_ret;exact⟨zo HE.out.symm,rfl⟩
    |false=>have HE:=zb (HT.out hid);go_wp2;exact⟨⟨k+1,by omega,by go_num,HE.out⟩,by simp[intOf];omega⟩
  have HE:=zb (YD (by omega) Hno.out);go_wp2;go_ret;exact⟨zo HE.out.symm,rfl⟩
theorem JD (v:Value) (l:List Ev) (a:Int) (w:World) (h:vQ w v l) (hl:l.length<=1000):
 Calls Tryz.prog 47 #[v,.int .i64 a] w (GA l a w):=by
 obtain⟨av,cap,rfl,hlc,hcm⟩:=zu h.1;unfold maxLen at hcm;have HE:=zb h.1;have HF:=zb (show ∀O,yT (l.take l.length) a O->yT l a O from fun O h=>by rwa[List.take_of_length_le (Nat.le_refl _)]at h);clear h;go_enter Tryz.func47,Tryz.ntmps47;go_wp2_with fail;go_loopg [5,6] l.length (fun g vo i wx=>∃(k:Nat) (O:List ByteArray),k+g=l.length/\i=.int .i64 k/\yT (l.take k) a O/\O.length<=k/\wx.ownsRow w.heap.size 9 1 vo O.length (O.flatMap zm)/\Below w.heap.size w wx);case atStart=>exact⟨0,[],by omega,rfl,UF _,Nat.le_refl _,World.ownsRow_nil _ _ _ _,Below.refl _ _⟩
 case round=>
  obtain⟨wo,rfl⟩:∃wo:World,wo=wr:=⟨_,rfl⟩;obtain⟨i,O,hig,rfl,hok,hOl,hown,hb⟩:=hrel;obtain⟨ao,co,rfl,hco,hcom⟩:=zf hown;have Hown:=zb hown;have Hb:=zb hb;cases gk with
  |zero=>
    have hiz:¬((i:Int)<(l.length:Int)):=by omega
    have hEq:i=l.length:=by omega
    have HR:=zb (show GA l a w (.returned (.slice ao O.length co)) wo from⟨_,O,rfl,HF.out O (by rw[<-hEq];exact hok),hown,by omega,hb⟩);clear hig hb hown hEq hok;go_wp2;go_ret;exact HR.out
  |succ g0=>
    have hil:i<l.length:=by omega
    have hi1:(i:Int)<(l.length:Int):=by omega
    have hi0:(0:Int)<=(i:Int):=Int.natCast_nonneg _;obtain⟨a2,n2,e2,-,-,hx⟩:=HE.out;cases e2;obtain⟨eb,eo,rfl,hB,hx⟩:=hx (by intro e;rw[e]at hil;cases hil);have HX:=zb (show ∀Y,Below w.heap.size w Y->Y.cell? ⟨eb,eo+i*7+1,none⟩=some (.int .i64 (l[i]).kd)/\Y.cell? ⟨eb,eo+i*7+3,none⟩=some (.int .i64 (l[i]).sb)/\Y.cell? ⟨eb,eo+i*7+5,none⟩=some (.string (l[i]).nm)from fun Y hY=>⟨(hY.cell (p:=⟨eb,_,none⟩) hB).trans (hx i hil 1 (by decide)),(hY.cell (p:=⟨eb,_,none⟩) hB).trans (hx i hil 3 (by decide)),(hY.cell (p:=⟨eb,_,none⟩) hB).trans (hx i hil 5 (by decide))⟩);have hebW:eb<w.heap.size:=hB;clear hx;have HRel:=zb (fun(O1:List ByteArray) (vo:Value) (wx:World) (h0:yT (l.take (i+1)) a O1) (hl1:O1.length<=i+1) (h1:wx.ownsRow w.heap.size 9 1 vo O1.length (O1.flatMap zm)) (h2:Below w.heap.size w wx)=>(⟨i+1,O1,by omega,by go_num,h0,hl1,h1,h2⟩:∃(k:Nat) (O:List ByteArray),k+g0=l.length/\Value.int .i64 ((i:Int)+1)=.int .i64 k/\yT (l.take k) a O/\O.length<=k/\wx.ownsRow w.heap.size 9 1 vo O.length (O.flatMap zm)/\Below w.heap.size w wx));have HSk:=zb (show(¬((l[i]).kd=8/\(l[i]).sb=a)\/(l[i]).nm∈O)->yT (l.take (i+1)) a O from fun hn=>by rw[List.take_succ_eq_append_getElem hil];exact hok.skip _ hn);have HIn:=zb (show(l[i]).kd=8->(l[i]).sb=a->(l[i]).nm∉O->∀k,Ya (fun x y:ByteArray=>ltS x y=true) O (l[i]).nm k->yT (l.take (i+1)) a (O.take k++[(l[i]).nm]++O.drop k)from fun h3 h4 h5 k hp=>by rw[List.take_succ_eq_append_getElem hil];exact hok.ins _ h3 h4 h5 hp);clear HF;generalize yT (l.take (i+1)) a=ok1 at *;have Hok:=zb hok;clear hok;generalize l[i]=ev at *;obtain⟨tm,kd,ac,sb,nu,nm,vl⟩:=ev;dsimp only at HX HSk HIn;obtain⟨x1,x2,x3⟩:=HX.out wo hb;by_cases h3:kd=8
    · have k1:(kd != 8)=false:=bne_eq_false_iff_eq.2 h3
      by_cases h4:sb=a
      · have k2:(sb != a)=false:=bne_eq_false_iff_eq.2 h4
        have HC:=zb (Xc (.slice ao O.length co) O nm wo (zh.own (fun _=>rfl) Hown.out));by_cases h5:nm∈O
        · rw[(XJ O nm).2 h5]at HC
          have HS:=zb (HRel.out O (.slice ao O.length co) wo (HSk.out (Or.inr h5)) (by omega) Hown.out Hb.out);clear hig hb hown HIn HSk HRel h3 h4 h5;go_wp2_with fail;refine HC.out.mono ?_;rintro e w1 ⟨rfl,rfl⟩;go_wp2;go_roundg g0;case measure=>omega
          case rel=>obtain⟨k',O',h1,h2,h3⟩:=HS.out;exact⟨k',O',h1,by first|exact h2|(rw[<-h2];go_num),h3⟩
        rw[XI h5]at HC;have HNe:=zb (show ∀n (h:n<O.length),O[n]≠nm from fun n h e=>h5 (e▸List.getElem_mem h));have HIns:=zb (fun k hp=>HIn.out h3 h4 h5 k hp);clear HIn HSk hig hb hown h3 h4 h5;go_wp2_with fail;refine HC.out.mono ?_;rintro e w1 ⟨rfl,rfl⟩;clear HC;go_wp2_with fail;go_loopg [7] O.length (fun g x wy=>x=.int .i64 g/\g<=O.length/\(∀j (hj:j<O.length),g<=j->(fun x y:ByteArray=>ltS x y=true) nm O[j])/\Below wo.heap.size wo wy);case atStart=>exact⟨rfl,Nat.le_refl _,fun j hj h=>by omega,Below.refl _ _⟩
        case round=>
         obtain⟨rfl,hgN,hkO,hby⟩:=hrel;have HkO:=zb hkO;have Hby:=zb hby;have HownY:=zb (ze Hown.out hby);obtain⟨y1,y2,y3⟩:=HX.out wr (Hb.out.trans (hby.mono Hb.out.size));have hebY:eb<wr.heap.size:=by have:=hby.size;have:=Hb.out.size;omega
         have f3:=fun p:zd wr=>zd.cell (a:=⟨eb,_,none⟩) hebY y3 p;have hrr:=Below.refl wr.heap.size wr;clear hkO y1 y2 y3 x1 x2 x3 hebY;cases gk with
         |zero=>
           have HPl:=zb (HIns.out 0 ⟨Nat.zero_le _,HkO.out,fun j hj e=>by omega⟩);go_upto_region 7 with(fail);refine zj hrr (by kernel_rfl) (by kernel_rfl) ?_;repeat (go_big_quiet_step (fail))
           refine wpQuiet_nil ?_;intro wa hw';have hYa:Below wr.heap.size wr wa:=by obtain⟨pq,rfl⟩:=hw';exact pq.h
           clear hw' f3 hrr;have Hbo:=zb (Hby.out.trans (hYa.mono Hby.out.size));have HownA:=zb (ze HownY.out hYa);have Ht:=zb (zO (zh.own (c:=zm) (fun _=>rfl) HownA.out:zh zm 1 _ _ _) 0 (Nat.zero_le _));have Hd:=zb (show zh zm 1 wa (.slice ao O.length co) (O.drop 0)from zh.own (fun _=>rfl) HownA.out);obtain⟨P,hP0⟩:∃P,P=O.take (0):=⟨_,rfl⟩;obtain⟨D,hD0⟩:∃D,D=O.drop (0):=⟨_,rfl⟩;have hlt1:P.length<=O.length:=by rw[hP0,List.length_take];omega
           have hld1:P.length+D.length=O.length:=by rw[hP0,hD0,<-List.length_append,List.take_append_drop]
           rw[<-hP0]at Ht;rw[<-hD0]at Hd;rw[<-hP0,<-hD0]at HPl;clear hP0 hD0;obtain⟨Y,hY⟩:∃Y,Y=wa.alloc (Obj.cells #[] 9):=⟨_,rfl⟩;have hbY:Below wa.heap.size wa Y:=by rw[hY];exact(Below.refl _ _).alloc (Nat.le_refl _) _
           have hown0:Y.ownsRow wa.heap.size 9 1 (.slice (some ⟨wa.heap.size,0,none⟩) 0 0) 0 []:=by rw[hY];exact yx _ _
           have Hown0:=zb hown0;have HbY:=zb hbY;have HYe:=zb hY;have HbA:=zb (Hb.out.trans (Hbo.out.mono Hb.out.size));clear hY hbY hown0 hYa;have hbs:=HbY.out.size;have hbA:=HbA.out.size;go_wp2_with (at_builtin;rw[<-HYe.out];refine ji rfl _ _ rfl wa.heap.size hbs _ _ [] P rfl rfl Hown0.out ?hX1 ?hl1 ?_);case hX1=>exact zh.below Ht.out HbY.out
           case hl1=>first|omega|(simp;omega)
           intro P5 hP5 v5 w5 own5 hb5;obtain rfl:P=P5:=hP5.out.symm;clear hP5;have Hb5:=zb (HbY.out.trans hb5);have Own5:=zb own5;have hbs5:=Hb5.out.size;obtain⟨a5,c5,rfl,hc5,hm5⟩:=zf own5;clear own5 hb5;obtain⟨z1,z2,z3⟩:=HX.out w5 (HbA.out.trans (Hb5.out.mono HbA.out.size));have HX2:=zb (zh.one (c:=zm) (sz:=1) w5 nm 9 #[.string nm] rfl);go_wp2_with (at_builtin;refine ji rfl _ _ rfl wa.heap.size ?hs2 _ _ P [nm] rfl rfl (Own5.out.alloc _) HX2.out ?hl2 ?_);case hs2=>simp;omega
           case hl2=>simp;omega
           intro R6 hR6 v6 w6 own6 hb6;have Hb6:=zb ((Hb5.out.alloc hbs5 (Obj.cells #[.string nm] 9)).trans hb6);have HR6:=zb hR6.out;have hR6l:R6.length=P.length+1:=by rw[hR6.out,List.length_append];rfl
           have hbs6:=Hb6.out.size;obtain⟨a6,c6,rfl,hc6,hm6⟩:=zf own6;have Own6:=zb own6;have hR6b:R6.length<=O.length+1:=by omega
           have hR6d:R6.length+D.length<=O.length+1:=by omega
           clear own6 hb6 hR6 hR6l z1 z2 z3;go_wp2_with (at_builtin;refine ji rfl _ _ rfl wa.heap.size ?hs3 _ _ R6 D rfl rfl Own6.out ?hX3 ?hl3 ?_);case hs3=>exact hbs6
           case hX3=>exact zh.below Hd.out Hb6.out
           case hl3=>omega
           intro R hR v7 w7 own7 hb7;have Hb7:=zb (HbA.out.trans ((Hb6.out.trans hb7).mono HbA.out.size));have HRl:=zb (show R.length<=i+1 by rw[hR.out,List.length_append];omega);have hR:=hR.out;have Own7:=zb (zr own7 (show w.heap.size<=wa.heap.size by omega));have HRm:=zb (show P++[nm]++D=R by rw[hR,HR6.out]);rw[HRm.out]at HPl;have HS:=zb (fun vo wx h1 h2=>HRel.out R vo wx HPl.out HRl.out h1 h2);clear own7 hb7 hR;go_wp2;go_roundg g0;case measure=>omega
           case rel=>obtain⟨k',O',h1,h2,h3⟩:=HS.out _ _ Own7.out Hb7.out;exact⟨k',O',h1,by first|exact h2|(rw[<-h2];go_num),h3⟩
         |succ n0=>
           have hn0:n0<O.length:=by omega
           obtain⟨gm,rfl⟩:∃gm,ao=some ⟨gm,0,none⟩:=by
            rcases HownY.out.2 with⟨h1,h2⟩|⟨gm,cap',cur,hv,-⟩;· omega
            simp only[Value.slice.injEq]at hv;exact⟨gm,hv.1⟩
           have hgW:=(zg HownY.out gm rfl).2;have hzr:=fun j (hj:j<1)=>(HownY.out.cellAt (n0*1+j) (by omega)).trans (vG zm 1 (fun _=>rfl) O n0 j hn0 hj);have HYs:=zb (show(fun x y:ByteArray=>ltS x y=true) nm O[n0]->∀j (hj:j<O.length),n0<=j->(fun x y:ByteArray=>ltS x y=true) nm O[j] from fun h j hj hle=>by
            rcases Nat.lt_or_ge n0 j with h1|h1;· exact HkO.out j hj h1
            obtain rfl:j=n0:=by omega
            exact h);have HNo:=zb (show ¬(fun x y:ByteArray=>ltS x y=true) nm O[n0]->ok1 (O.take (n0+1)++[nm]++O.drop (n0+1))from fun h=>HIns.out (n0+1) ⟨hn0,HkO.out,fun j hj e=>by
            obtain rfl:j=n0:=by omega
            exact h⟩);clear HIns;have hnr:=HNe.out n0 hn0;generalize O[n0]=r at *;unfold zm at hzr;have e0:=fun p:zd wr=>zd.cell (a:=⟨gm,_,none⟩) hgW (hzr 0 (by omega)) p;have e0:∀p:zd wr,p.w.cell? ⟨gm,n0,none⟩=some (.string r):=by simpa using e0
           clear hzr hgW;have hsub:IntKind.i64.wrap ((n0:Int)+1-1)=(n0:Int):=by rw[show(n0:Int)+1-1=n0 by omega];exact IntWalk.i64_in _ (by omega)
           have hn0c:(n0:Int)<(O.length:Int):=by omega
           have hn00:(0:Int)<=(n0:Int):=Int.natCast_nonneg _;have hn0p:(0:Int)<(n0:Int)+1:=by omega
           obtain⟨bf,hbf⟩:∃bf,bf=Op.bytesLess nm.toList r.toList:=⟨_,rfl⟩;have Hbf:=zb hbf;cases bf with
           |true=>
             have HE2:=zb (HYs.out (Hbf.out.symm));have hcmp:Op.bytesLess r.toList nm.toList=false:=xU Hbf.out.symm;have hcme:(r.toList==nm.toList)=false:=xF hnr;clear HYs HNo hbf;go_upto_region 7 with(fail);refine zj hrr (by kernel_rfl) (by kernel_rfl) ?_;repeat (go_big_quiet_step (fail))
             refine wpQuiet_nil ?_;intro wa hw';have hYa:Below wr.heap.size wr wa:=by obtain⟨pq,rfl⟩:=hw';exact pq.h
             have Hbo:=zb (Hby.out.trans (hYa.mono Hby.out.size));clear hw' e0 f3 hrr hYa;go_wp2;go_roundg n0;case measure=>omega
             case rel=>exact⟨by first|rfl|simp,by omega,HE2.out,Hbo.out⟩
           |false=>
             have HPl:=zb (HNo.out (fun h=>Bool.noConfusion (Hbf.out.trans h)));have hcmp:Op.bytesLess r.toList nm.toList=true:=Nf (fun h=>Bool.noConfusion (Hbf.out.trans h)) hnr;clear HYs HNo hbf;go_upto_region 7 with(fail);refine zj hrr (by kernel_rfl) (by kernel_rfl) ?_;repeat (go_big_quiet_step (fail))
             refine wpQuiet_nil ?_;intro wa hw';have hYa:Below wr.heap.size wr wa:=by obtain⟨pq,rfl⟩:=hw';exact pq.h
             clear hw' e0 f3 hrr;have Hbo:=zb (Hby.out.trans (hYa.mono Hby.out.size));have HownA:=zb (ze HownY.out hYa);have Ht:=zb (zO (zh.own (c:=zm) (fun _=>rfl) HownA.out:zh zm 1 _ _ _) (n0+1) hn0);have Hd:=zb (yg (zh.own (c:=zm) (fun _=>rfl) HownA.out:zh zm 1 _ _ _) (n0+1) hn0);obtain⟨P,hP0⟩:∃P,P=O.take (n0+1):=⟨_,rfl⟩;obtain⟨D,hD0⟩:∃D,D=O.drop (n0+1):=⟨_,rfl⟩;have hlt1:P.length<=O.length:=by rw[hP0,List.length_take];omega
             have hld1:P.length+D.length=O.length:=by rw[hP0,hD0,<-List.length_append,List.take_append_drop]
             rw[<-hP0]at Ht;rw[<-hD0]at Hd;rw[<-hP0,<-hD0]at HPl;clear hP0 hD0;obtain⟨Y,hY⟩:∃Y,Y=wa.alloc (Obj.cells #[] 9):=⟨_,rfl⟩;have hbY:Below wa.heap.size wa Y:=by rw[hY];exact(Below.refl _ _).alloc (Nat.le_refl _) _
             have hown0:Y.ownsRow wa.heap.size 9 1 (.slice (some ⟨wa.heap.size,0,none⟩) 0 0) 0 []:=by rw[hY];exact yx _ _
             have Hown0:=zb hown0;have HbY:=zb hbY;have HYe:=zb hY;have HbA:=zb (Hb.out.trans (Hbo.out.mono Hb.out.size));clear hY hbY hown0 hYa;have hbs:=HbY.out.size;have hbA:=HbA.out.size;go_wp2_with (at_builtin;rw[<-HYe.out];refine ji rfl _ _ rfl wa.heap.size hbs _ _ [] P rfl rfl Hown0.out ?hX1 ?hl1 ?_);case hX1=>exact zh.below Ht.out HbY.out
             case hl1=>first|omega|(simp;omega)
             intro P5 hP5 v5 w5 own5 hb5;obtain rfl:P=P5:=hP5.out.symm;clear hP5;have Hb5:=zb (HbY.out.trans hb5);have Own5:=zb own5;have hbs5:=Hb5.out.size;obtain⟨a5,c5,rfl,hc5,hm5⟩:=zf own5;clear own5 hb5;obtain⟨z1,z2,z3⟩:=HX.out w5 (HbA.out.trans (Hb5.out.mono HbA.out.size));have HX2:=zb (zh.one (c:=zm) (sz:=1) w5 nm 9 #[.string nm] rfl);go_wp2_with (at_builtin;refine ji rfl _ _ rfl wa.heap.size ?hs2 _ _ P [nm] rfl rfl (Own5.out.alloc _) HX2.out ?hl2 ?_);case hs2=>simp;omega
             case hl2=>simp;omega
             intro R6 hR6 v6 w6 own6 hb6;have Hb6:=zb ((Hb5.out.alloc hbs5 (Obj.cells #[.string nm] 9)).trans hb6);have HR6:=zb hR6.out;have hR6l:R6.length=P.length+1:=by rw[hR6.out,List.length_append];rfl
             have hbs6:=Hb6.out.size;obtain⟨a6,c6,rfl,hc6,hm6⟩:=zf own6;have Own6:=zb own6;have hR6b:R6.length<=O.length+1:=by omega
             have hR6d:R6.length+D.length<=O.length+1:=by omega
             clear own6 hb6 hR6 hR6l z1 z2 z3;by_cases hco1:co=n0+1
             · have Hd:=zb (show zh zm 1 wa (.slice (some ⟨gm,0,none⟩) (O.length-(n0+1)) 0) D by
                have h:=Hd.out;rw[if_pos hco1,hco1,Nat.sub_self]at h;exact h)
               go_wp2_with (at_builtin;refine ji rfl _ _ rfl wa.heap.size ?hs3 _ _ R6 D rfl rfl Own6.out ?hX3 ?hl3 ?_);case hs3=>exact hbs6
               case hX3=>exact zh.below Hd.out Hb6.out
               case hl3=>omega
               intro R hR v7 w7 own7 hb7;have Hb7:=zb (HbA.out.trans ((Hb6.out.trans hb7).mono HbA.out.size));have HRl:=zb (show R.length<=i+1 by rw[hR.out,List.length_append];omega);have hR:=hR.out;have Own7:=zb (zr own7 (show w.heap.size<=wa.heap.size by omega));have HRm:=zb (show P++[nm]++D=R by rw[hR,HR6.out]);rw[HRm.out]at HPl;have HS:=zb (fun vo wx h1 h2=>HRel.out R vo wx HPl.out HRl.out h1 h2);clear own7 hb7 hR;go_wp2;go_roundg g0;case measure=>omega
               case rel=>obtain⟨k',O',h1,h2,h3⟩:=HS.out _ _ Own7.out Hb7.out;exact⟨k',O',h1,by first|exact h2|(rw[<-h2];go_num),h3⟩
             have Hd:=zb (show zh zm 1 wa (.slice (some ⟨gm,n0+1,none⟩) (O.length-(n0+1)) (co-(n0+1))) D by
              have h:=Hd.out;rw[if_neg hco1,Option.map_some,Kt,Nat.mul_one]at h;exact h);go_wp2_with (at_builtin;refine ji rfl _ _ rfl wa.heap.size ?hs3 _ _ R6 D rfl rfl Own6.out ?hX3 ?hl3 ?_);case hs3=>exact hbs6
             case hX3=>exact zh.below Hd.out Hb6.out
             case hl3=>omega
             intro R hR v7 w7 own7 hb7;have Hb7:=zb (HbA.out.trans ((Hb6.out.trans hb7).mono HbA.out.size));have HRl:=zb (show R.length<=i+1 by rw[hR.out,List.length_append];omega);have hR:=hR.out;have Own7:=zb (zr own7 (show w.heap.size<=wa.heap.size by omega));have HRm:=zb (show P++[nm]++D=R by rw[hR,HR6.out]);rw[HRm.out]at HPl;have HS:=zb (fun vo wx h1 h2=>HRel.out R vo wx HPl.out HRl.out h1 h2);clear own7 hb7 hR;go_wp2;go_roundg g0;case measure=>omega
             case rel=>obtain⟨k',O',h1,h2,h3⟩:=HS.out _ _ Own7.out Hb7.out;exact⟨k',O',h1,by first|exact h2|(rw[<-h2];go_num),h3⟩
      have k2:(sb != a)=true:=bne_iff_ne.2 h4;have HS:=zb (HRel.out O (.slice ao O.length co) wo (HSk.out (Or.inl fun h=>h4 h.2)) (by omega) Hown.out Hb.out);clear hig hb hown HIn HSk HRel h3 h4;go_wp2;go_roundg g0;case measure=>omega
      case rel=>obtain⟨k',O',h1,h2,h3⟩:=HS.out;exact⟨k',O',h1,by first|exact h2|(rw[<-h2];go_num),h3⟩
    have k1:(kd != 8)=true:=bne_iff_ne.2 h3;have HS:=zb (HRel.out O (.slice ao O.length co) wo (HSk.out (Or.inl fun h=>h3 h.1)) (by omega) Hown.out Hb.out);clear hig hb hown HIn HSk HRel h3;go_wp2;go_roundg g0;case measure=>omega
    case rel=>obtain⟨k',O',h1,h2,h3⟩:=HS.out;exact⟨k',O',h1,by first|exact h2|(rw[<-h2];go_num),h3⟩
end Go.Proofs.YtngippiilgdnoaaGreat
