/-
  The walk of the laws' valid of chapter 35.
-/
import Derived.Test.YtngippiilgdnoaaGreatMhbn
set_option maxRecDepth 100000
set_option maxHeartbeats 25600000
namespace Go.Proofs.YtngippiilgdnoaaGreat
open Go.RowKit
def fewB (l:List Ev) (P:List Pd) (b w c:Nat) (t:Int):Bool:=
 decide (l.length<=40)&&decide (P.length<=8)&&decide (b<=60)&&decide (w<=40)&&decide (c<=40)&&(P.all fun p=>decide (p.bs.length<=4))&&(decide (l.length=0)||decide (t<69120000)||decide (t-69120000<(l.getD 0 default).tm))
theorem Vv {l:List Ev} {P:List Pd} {b w c:Nat} {t:Int} (h:fewB l P b w c t=true):l.length<=40/\P.length<=8/\b<=60/\w<=40/\c<=40/\(∀p∈P,p.bs.length<=4)/\(l.length=0\/t<69120000\/t-69120000<(l.getD 0 default).tm):=by unfold fewB at h;simp only[Bool.and_eq_true,Bool.or_eq_true,decide_eq_true_eq,List.all_eq_true]at h;obtain⟨⟨⟨⟨⟨⟨h1,h2⟩,h3⟩,h4⟩,h5⟩,h6⟩,h7⟩:=h;exact⟨h1,h2,h3,h4,h5,h6,or_assoc.1 h7⟩
theorem uV {l:List Ev} {P:List Pd} {b w c:Nat} {t:Int} (h:¬(l.length<=40/\P.length<=8/\b<=60/\w<=40/\c<=40/\(∀p∈P,p.bs.length<=4))):fewB l P b w c t=false:=by
 cases hq:fewB l P b w c t with
 |false=>rfl
 |true=>obtain⟨h1,h2,h3,h4,h5,h6,-⟩:=Vv hq;exact absurd ⟨h1,h2,h3,h4,h5,h6⟩ h
theorem Gl {l:List Ev} {P:List Pd} {b w c:Nat} {t:Int} (h:l.length<=40/\P.length<=8/\b<=60/\w<=40/\c<=40/\(∀p∈P,p.bs.length<=4)):fewB l P b w c t=(decide (l.length=0)||decide (t<69120000)||decide (t-69120000<(l.getD 0 default).tm)):=by obtain⟨h1,h2,h3,h4,h5,h6⟩:=h;unfold fewB;rw[decide_eq_true h1,decide_eq_true h2,decide_eq_true h3,decide_eq_true h4,decide_eq_true h5,List.all_eq_true.2 (fun p hp=>decide_eq_true (h6 p hp))];simp
theorem Ur (ve vp:Value) (ba wa ca:Option Addr) (bn wn cn bc wc cc:Nat) (l:List Ev) (P:List Pd) (t:Int) (w:World) (he:vE w ve l) (hp:qu w vp P) (hbn:bn<=maxLen) (hwn:wn<=maxLen) (hcn:cn<=maxLen) (ht1:-9223372036854775808<=t) (ht2:t<=9223372036854775807):
 Calls Tryz.prog 36 #[ve,vp,.agg #[.slice ba bn bc,.slice wa wn wc,.slice ca cn cc],.int .i64 t] w fun e w'=>e=.returned (.bool (fewB l P bn wn cn t))/\Below w.heap.size w w':=by
 unfold maxLen at hbn hwn hcn;obtain⟨W,hW⟩:∃W,W=w.alloc (Obj.cells #[.slice ba bn bc,.slice wa wn wc,.slice ca cn cc] 45):=⟨_,rfl⟩;have hw0:Below w.heap.size w W:=by rw[hW];exact(Below.refl _ _).alloc (Nat.le_refl _) _
 have rW:W.heap[w.heap.size]?=some (Obj.cells #[.slice ba bn bc,.slice wa wn wc,.slice ca cn cc] 45):=by rw[hW];exact heap_alloc_new _ _
 have s0:=cell_of_row W _ 0 _ _ _ rW;have s1:=cell_of_row W _ 1 _ _ _ rW;have s2:=cell_of_row W _ 2 _ _ _ rW;have HW:=zb hW;have Hw0:=zb hw0;have HE:=zb (he.below hw0);have HP:=zb (hp.below hw0);obtain⟨av,cap,rfl,hlc,hcm⟩:=zq he.1;obtain⟨pav,pcap,rfl,hpc,hpm,-⟩:=hp;have hpm:=hpm.1;unfold maxLen at hcm hpm;clear hW hw0 rW he;by_cases e1:40<l.length
 · have qe1:(40:Int)<(l.length:Int):=by omega
   have HN:=zb (show fewB l P bn wn cn t=false from uV (fun h=>by omega));go_enter Tryz.func36,Tryz.ntmps36;go_upto_region 1 with(fail);rw[<-HW.out];go_wp2;go_ret;exact⟨zo HN.out.symm,Hw0.out⟩
 have qe1:¬(40:Int)<(l.length:Int):=by omega
 by_cases e2:8<P.length
 · have qe2:(8:Int)<(P.length:Int):=by omega
   have HN:=zb (show fewB l P bn wn cn t=false from uV (fun h=>by omega));go_enter Tryz.func36,Tryz.ntmps36;go_upto_region 1 with(fail);rw[<-HW.out];go_wp2;go_ret;exact⟨zo HN.out.symm,Hw0.out⟩
 have qe2:¬(8:Int)<(P.length:Int):=by omega
 by_cases e3:60<bn
 · have qe3:(60:Int)<(bn:Int):=by omega
   have HN:=zb (show fewB l P bn wn cn t=false from uV (fun h=>by omega));go_enter Tryz.func36,Tryz.ntmps36;go_upto_region 1 with(fail);rw[<-HW.out];go_wp2;go_ret;exact⟨zo HN.out.symm,Hw0.out⟩
 have qe3:¬(60:Int)<(bn:Int):=by omega
 by_cases e4:40<wn
 · have qe4:(40:Int)<(wn:Int):=by omega
   have HN:=zb (show fewB l P bn wn cn t=false from uV (fun h=>by omega));go_enter Tryz.func36,Tryz.ntmps36;go_upto_region 1 with(fail);rw[<-HW.out];go_wp2;go_ret;exact⟨zo HN.out.symm,Hw0.out⟩
 have qe4:¬(40:Int)<(wn:Int):=by omega
 by_cases e5:40<cn
 · have qe5:(40:Int)<(cn:Int):=by omega
   have HN:=zb (show fewB l P bn wn cn t=false from uV (fun h=>by omega));go_enter Tryz.func36,Tryz.ntmps36;go_upto_region 1 with(fail);rw[<-HW.out];go_wp2;go_ret;exact⟨zo HN.out.symm,Hw0.out⟩
 have qe5:¬(40:Int)<(cn:Int):=by omega
 go_enter Tryz.func36,Tryz.ntmps36;go_upto_region 1 with(fail);rw[<-HW.out];go_wp2_with fail;go_loop [9] (fun i=>∃k:Nat,k<=P.length/\i=.int .i64 k/\RowKit.Hid (∀j (hj:j<P.length),j<k->(P[j]).bs.length<=4)) (fun i=>P.length-(intOf i).toNat);case atStart=>exact⟨0,Nat.zero_le _,rfl,zb (fun j _ h=>by omega)⟩
 case round=>
  obtain⟨k,hk,rfl,Hn⟩:=hrel;by_cases hlt:k<P.length
  · have hk1:(k:Int)<(P.length:Int):=by omega
    have hk0:(0:Int)<=(k:Int):=Int.natCast_nonneg _;obtain⟨av2,cap2,ee,-,-,hx⟩:=HP.out;cases ee;obtain⟨b1,o1,rfl,hB1,hx⟩:=hx (by rintro rfl;cases hlt);obtain⟨-,-,-,-,-,bv,u5,hbv⟩:=hx k hlt;obtain⟨ab,cb,rfl,hb1,hb2,-⟩:=hbv;have hb2:=hb2.1;unfold maxLen at hb2;have HNx:=zb (show(P[k]).bs.length<=4->∀j (hj:j<P.length),j<k+1->(P[j]).bs.length<=4 from fun h j hj hjk=>by
     by_cases e:j=k;· subst e;exact h
     exact Hn.out j hj (by omega));have HBad:=zb (show ¬(P[k]).bs.length<=4->fewB l P bn wn cn t=false from fun h=>uV (fun hh=>h (hh.2.2.2.2.2 _ (List.getElem_mem hlt))));clear hx;generalize (P[k]).bs.length=m at *;by_cases hm:m<=4
    · have HE2:=zb (HNx.out hm)
      have hm2:¬(4:Int)<(m:Int):=by omega
      clear hm;go_wp2;exact⟨⟨k+1,by omega,by go_num,HE2⟩,by simp[intOf];omega⟩
    have HE2:=zb (HBad.out hm);have hm2:(4:Int)<(m:Int):=by omega
    clear hm;go_wp2;go_ret;exact⟨zo HE2.out.symm,Hw0.out⟩
  have HF:=zb (show fewB l P bn wn cn t=(decide (l.length=0)||decide (t<69120000)||decide (t-69120000<(l.getD 0 default).tm))from Gl ⟨by omega,by omega,by omega,by omega,by omega,fun p hp=>by
   obtain⟨j,hj,rfl⟩:=List.mem_iff_getElem.1 hp;exact Hn.out j hj (by omega)⟩);by_cases h0:l.length=0
  · have hz:((l.length:Int)==0)=true:=beq_iff_eq.2 (by omega)
    have HR:=zb (show(decide (l.length=0)||decide (t<69120000)||decide (t-69120000<(l.getD 0 default).tm))=true by rw[decide_eq_true h0];rfl);clear h0;go_wp2;go_ret;exact⟨zo (by rw[HF.out,HR.out]),Hw0.out⟩
  have hz:((l.length:Int)==0)=false:=beq_eq_false_iff_ne.2 (by omega);have hlp:(0:Int)<(l.length:Int):=by omega
  have hln:0<l.length:=by omega
  by_cases htl:t<69120000
  · have HR:=zb (show(decide (l.length=0)||decide (t<69120000)||decide (t-69120000<(l.getD 0 default).tm))=true by rw[decide_eq_true htl];simp)
    go_wp2;go_ret;exact⟨zo (by rw[HF.out,HR.out]),Hw0.out⟩
  obtain⟨av2,cap2,ee,-,-,hx⟩:=HE.out.1;cases ee;obtain⟨b1,o1,rfl,hB1,hx⟩:=hx (by rintro rfl;simp at hln);have x0:W.cell? ⟨b1,o1,none⟩=some (.int .i64 (l.getD 0 default).tm):=by have h:=hx 0 hln 0 (by decide);simp only[Nat.zero_mul,Nat.add_zero]at h;rw[h];simp[jt,List.getD,hln]
  have HR:=zb (show(decide (l.length=0)||decide (t<69120000)||decide (t-69120000<(l.getD 0 default).tm))=decide (t-69120000<(l.getD 0 default).tm) by rw[decide_eq_false h0,decide_eq_false htl];rfl);clear hx h0;generalize (l.getD 0 default).tm=t0 at *;go_wp2;go_ret;exact⟨zo (by rw[HF.out,HR.out]),Hw0.out⟩
theorem VY:∀(P:List Pd) (q:Option Pd),vX q P=0->∀p∈P,vD p=0
 | [],_,_=>fun p hp=>by cases hp
 |a::r,q,h=>by
   unfold vX at h;by_cases hc:vD a≠0;· rw[if_pos hc]at h;exact absurd h hc
   rw[if_neg hc]at h;have key:∀c:Bool,(if c=true then (9:Int) else vX (some a) r)=0->vX (some a) r=0:=fun c hh=>by
    cases c;· simpa using hh
    cases hh
   have h2:=key _ h;intro p hp;rcases List.mem_cons.1 hp with rfl|hp;· exact Decidable.not_not.1 hc
   exact VY r _ h2 p hp
theorem Yg:∀(B:List Bd),vY B=0->∀b∈B,vR b=0
 | [],_=>fun p hp=>by cases hp
 |a::r,h=>by
   unfold vY at h;split at h;· rename_i hc;exact absurd h hc
   rename_i hc;intro p hp;rcases List.mem_cons.1 hp with rfl|hp;· exact Decidable.not_not.1 hc
   exact Yg r h p hp
structure PdOk (p:Pd):Prop where
 nm:yT p.nm=true
 fm:0<=p.fm/\p.fm<12622780800
 fe:0<=p.fe/\p.fe<=1125899906842624
 ct:yT p.ct=true
 bs:∀b∈p.bs,1<=b.kd/\b.kd<=4/\b.ok/\b.zs.length<=64/\b.zs.all yT=true
theorem G3 {p:Pd} (h:vD p=0):PdOk p:=by
 unfold vD at h;split at h;· cases h
 rename_i h1;split at h;· cases h
 rename_i h2;split at h;· cases h
 rename_i h3;split at h;· cases h
 rename_i h4;split at h;· cases h
 refine⟨by simpa using h1,by omega,by omega,by simpa using h4,fun b hb=>?_⟩;have hE:=Yg _ h b hb;unfold vR at hE;split at hE;· cases hE
 rename_i k1;split at hE;· rename_i k2;exact absurd hE k2
 rename_i k2;split at hE;· cases hE
 rename_i k3;have hz:qM b.zs=0:=Decidable.not_not.1 k2;unfold qM at hz;split at hz;· cases hz
 rename_i z1;split at hz;· cases hz
 rename_i z2;exact⟨by omega,by omega,Decidable.not_not.1 k3,by omega,by simpa using z2⟩
theorem Gs {P:List Pd} (h:vz P=0):P.length<=4096/\∀p∈P,PdOk p:=by
 unfold vz at h;split at h;· cases h
 exact⟨by omega,fun p hp=>G3 (VY P none h p hp)⟩
structure Ni (l:List Ev) (P:List Pd):Prop where
 le:l.length<=40
 lp:P.length<=8
 r:yp l
 f:FewP P
 b:∀p∈P,p.bs.length<=4
 ok:∀p∈P,PdOk p
theorem xX {l:List Ev} {P:List Pd} {b w c:Nat} {t:Int} (h:fewB l P b w c t=true) (hr:yp l) (hc:vz P=0):Ni l P:=by obtain⟨h1,h2,-,-,-,h6,-⟩:=Vv h;obtain⟨c1,c2⟩:=Gs hc;exact⟨h1,h2,hr,⟨c1,fun p hp=>⟨by have:=h6 p hp;omega,fun b hb=>by have:=(c2 p hp).bs b hb;omega⟩⟩,h6,c2⟩
def TruTo (P:Prop) (w:World) (e:Ending) (w':World):Prop:=(∃b,e=.returned (.bool b)/\(b=true->P))/\Below w.heap.size w w'
structure Nj (l:List Ev) (P:List Pd) (bn wn cn:Nat) (t:Int):Prop where
 c:Ni l P
 bl:bn<=60
 wl:wn<=40
 cl:cn<=40
 near:QJ l t
theorem xY {l:List Ev} {P:List Pd} {b w c:Nat} {t:Int} (h:fewB l P b w c t=true) (hr:yp l) (hc:vz P=0):Nj l P b w c t:=by
 have h0:=xX h hr hc;obtain⟨-,-,h3,h4,h5,-,h7⟩:=Vv h;refine⟨h0,h3,h4,h5,?_⟩;rcases h7 with h7|h7|h7;· exact Or.inl (List.length_eq_zero_iff.1 h7)
 · exact Or.inr (Or.inl h7)
 refine Or.inr (Or.inr fun hl=>?_);rwa[List.getD_eq_getElem?_getD,List.getElem?_eq_getElem hl,Option.getD_some]at h7
theorem QV (ea pa ba wa ca:Option Addr) (en pn bn wn cn ec pc bc wc cc:Nat) (ac t:Int) (l:List Ev) (P:List Pd) (w:World) (he:vE w (.slice ea en ec) l) (hp:qu w (.slice pa pn pc) P) (hbn:bn<=maxLen) (hwn:wn<=maxLen) (hcn:cn<=maxLen) (ht1:-9223372036854775808<=t) (ht2:t<=9223372036854775807):
 Calls Tryz.prog 18 #[.agg #[.slice ea en ec,.slice pa pn pc,.slice ba bn bc,.slice wa wn wc,.slice ca cn cc,.int .i64 ac],.int .i64 t] w (TruTo (Nj l P bn wn cn t) w):=by
 obtain⟨W,hW⟩:∃W,W=w.alloc (Obj.cells #[.slice ea en ec,.slice pa pn pc,.slice ba bn bc,.slice wa wn wc,.slice ca cn cc,.int .i64 ac] 47):=⟨_,rfl⟩;have hw0:Below w.heap.size w W:=by rw[hW];exact(Below.refl _ _).alloc (Nat.le_refl _) _
 have rW:W.heap[w.heap.size]?=some (Obj.cells #[.slice ea en ec,.slice pa pn pc,.slice ba bn bc,.slice wa wn wc,.slice ca cn cc,.int .i64 ac] 47):=by rw[hW];exact heap_alloc_new _ _
 have hzW:w.heap.size<W.heap.size:=(zu rW);have HM:=zb (show ∀w',Below W.heap.size W w'->w'.cell? ⟨w.heap.size,0,none⟩=some (.slice ea en ec)/\w'.cell? ⟨w.heap.size,1,none⟩=some (.slice pa pn pc)/\w'.cell? ⟨w.heap.size,2,none⟩=some (.slice ba bn bc)/\w'.cell? ⟨w.heap.size,3,none⟩=some (.slice wa wn wc)/\w'.cell? ⟨w.heap.size,4,none⟩=some (.slice ca cn cc)/\w'.cell? ⟨w.heap.size,5,none⟩=some (.int .i64 ac)from fun w' hb=>by
  have q:=(hb.block _ hzW).trans rW;exact⟨cell_of_row w' _ 0 _ _ _ q,cell_of_row w' _ 1 _ _ _ q,cell_of_row w' _ 2 _ _ _ q,cell_of_row w' _ 3 _ _ _ q,cell_of_row w' _ 4 _ _ _ q,cell_of_row w' _ 5 _ _ _ q⟩);have HW:=zb hW;have Hw0:=zb hw0;have HE:=zb (he.below hw0);have HP:=zb (hp.below hw0);have HFw:=zb (Ur _ _ ba wa ca bn wn cn bc wc cc l P t W (he.below hw0) (hp.below hw0) hbn hwn hcn ht1 ht2);obtain⟨m0,m1,m2,m3,m4,m5⟩:=HM.out W (Below.refl _ _);clear hW rW hw0 he hp;go_enter Tryz.func18,Tryz.ntmps18;go_upto_region 1 with(fail);rw[<-HW.out];go_wp2_with fail;refine HFw.out.mono ?_;rintro e w1 ⟨rfl,hb1⟩;have HbW:=zb hb1;have Hb1:=zb (Hw0.out.trans (hb1.mono Hw0.out.size));clear m0 m1 m2 m3 m4 m5;obtain⟨m0,m1,m2,m3,m4,m5⟩:=HM.out w1 hb1;clear hb1;cases hfw:fewB l P bn wn cn t with
 |false=>clear hfw m0 m1 m2 m3 m4 m5;go_wp2;go_ret;exact⟨⟨false,rfl,fun h=>by cases h⟩,Hb1.out⟩
 |true=>
   have Hfw:=zb hfw;have HCk:=zb (Jm _ l w1 (HE.out.below HbW.out) (by have:=(Vv hfw).1;omega));clear hfw;go_wp2_with fail;refine HCk.out.mono ?_;rintro e w2 ⟨p0,r0,rfl,hr0,hb2⟩;have Hb2W:=zb (HbW.out.trans (hb2.mono HbW.out.size));have Hb2:=zb (Hb1.out.trans (hb2.mono Hb1.out.size));have Hr0:=zb hr0;clear m0 m1 m2 m3 m4 m5 hb2 hr0;by_cases hrz:r0=0
   · have HOk:=zb (Hr0.out hrz)
     subst hrz;obtain⟨m0,m1,m2,m3,m4,m5⟩:=HM.out w2 Hb2W.out;have HPc:=zb (Q3 _ P w2 (HP.out.below Hb2W.out));go_wp2_with fail;refine HPc.out.mono ?_;rintro e w3 ⟨rfl,hb3⟩;have Hb3:=zb (Hb2.out.trans (hb3.mono Hb2.out.size));clear m0 m1 m2 m3 m4 m5 hb3;by_cases hcz:vz P=0
     · have HC:=zb (xY Hfw.out HOk.out hcz)
       have hc1:(vz P==0)=true:=beq_iff_eq.2 hcz;clear hcz;generalize vz P=cE at *;go_wp2;go_ret;exact⟨⟨_,rfl,fun _=>HC.out⟩,Hb3.out⟩
     have hc1:(vz P==0)=false:=beq_eq_false_iff_ne.2 hcz;clear hcz;generalize vz P=cE at *;go_wp2;go_ret;exact⟨⟨false,rfl,fun h=>by cases h⟩,Hb3.out⟩
   have hr1:(r0==0)=false:=beq_eq_false_iff_ne.2 hrz;clear hrz;go_wp2;go_ret;exact⟨⟨false,rfl,fun h=>by cases h⟩,Hb2.out⟩
end Go.Proofs.YtngippiilgdnoaaGreat
