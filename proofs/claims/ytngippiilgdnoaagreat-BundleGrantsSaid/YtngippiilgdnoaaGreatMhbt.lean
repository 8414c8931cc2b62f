/-
  The walk of alive of chapter 35: it returns true.
-/
import Derived.Test.YtngippiilgdnoaaGreatMhbs
import Derived.Test.YtngippiilgdnoaaGreatMhbj
set_option maxRecDepth 100000
set_option maxHeartbeats 25600000
namespace Go.Proofs.YtngippiilgdnoaaGreat
open Go.RowKit
theorem xE:OkEv (zQ []) 0 sa1:=
 ⟨by decide,by decide,by decide,by decide,by decide,fun _=>by decide,fun h=>absurd h (by decide),fun h=>absurd h (by decide),fun _=>rfl,fun _=>by decide,fun _=>by decide,fun _ h=>absurd rfl h,fun h=>absurd h (by decide),fun h=>absurd h (by decide)⟩
theorem xD:OkEv (zQ [sa1]) 0 sa2:=
 ⟨by decide,by decide,by decide,by decide,by decide,fun _=>by decide,fun h=>absurd h (by decide),fun _=>by decide,fun h=>absurd h (by decide),fun h=>absurd h (by decide),fun h=>absurd h (by decide),fun _ _=>⟨0,by decide,by decide,by decide⟩,fun _=>by decide,fun h=>absurd h (by decide)⟩
theorem xC:OkEv (zQ [sa1,sa2]) 0 sa3:=
 ⟨by decide,by decide,by decide,by decide,by decide,fun h=>absurd h (by decide),fun _=>rfl,fun _=>by decide,fun h=>absurd h (by decide),fun h=>absurd h (by decide),fun h=>absurd h (by decide),fun h=>absurd h (by decide),fun h=>absurd h (by decide),fun _=>by decide⟩
theorem UY:yp saL:=fun i h=>by
 match i,h with
 |0,_=>exact xE
 |1,_=>exact xD
 |2,_=>exact xC
 |i+3,h=>exact absurd (show i+3<3 from h) (by omega)
theorem uP:yw saL 1=1:=by decide +kernel
theorem GT:jI saL 1 [(1,qx)]:=by
 refine⟨List.pairwise_singleton _ _,fun h=>?_⟩;rw[List.mem_singleton];constructor
 · rintro rfl
   exact⟨sa3,by simp[saL],rfl,⟨sa2,by simp[saL],rfl,rfl,rfl⟩,rfl⟩
 rintro⟨e,he,hk,-,rfl⟩;have he':e=sa1\/e=sa2\/e=sa3:=by simpa [saL]using he
 rcases he' with rfl|rfl|rfl;iterate 2
  · exact absurd hk (by decide)
 · rfl
theorem U3:actL 1 qx saL=[(777600,12622780800)]:=by decide +kernel
theorem XX:vH saL [(1,qx)]=[(777600,12622780800)]:=by unfold vH;rw[List.flatMap_singleton];exact U3
theorem gd:beg 1 0=0:=by decide
theorem ET:beg 1 1=2678400:=by decide
theorem gc:beg 1 2=5184000:=by decide
theorem UZ {x:Int} (h0:777600<=x) (h1:x<12622780800):MemP [((777600:Int),(12622780800:Int))] x:=⟨_,List.mem_singleton_self _,h0,h1⟩
theorem xk {m x:Int} (h1:beg 1 m<=x) (h2:x<beg 1 (m+1)) (h0:0<=x) (h3:x<5184000):(m=0/\x<2678400)\/(m=1/\2678400<=x):=by
 rcases Int.lt_trichotomy m 0 with h|h|h
 · have:=vN (a:=1) (by decide) (by decide) (show m+1<=0 by omega)
   rw[gd]at this;omega
 · subst h
   rw[show(0:Int)+1=1 from rfl,ET]at h2;exact Or.inl ⟨rfl,h2⟩
 rcases Int.lt_trichotomy m 1 with h'|h'|h';· omega
 · subst h'
   rw[ET]at h1;exact Or.inr ⟨rfl,h1⟩
 have:=vN (a:=1) (by decide) (by decide) (show 2<=m by omega);rw[gc]at this;omega
theorem Kq:cyc 1 0=(0,2678400):=by decide +kernel
theorem EG:cyc 1 1=(2678400,5184000):=by decide +kernel
theorem Nu:vP 1 [(777600,12622780800)] 1728000 [(0,2678400)]:=by
 refine⟨List.pairwise_singleton _ _,fun c=>?_⟩;rw[List.mem_singleton];constructor
 · rintro rfl
   exact⟨0,by decide,by decide,Kq.symm,777600,UZ (by decide) (by decide),by decide,by decide,by decide,by decide⟩
 rintro⟨m,-,-,rfl,x,-,h0,hx,h1,h2⟩;rcases xk h1 h2 h0 (by omega)with⟨rfl,-⟩|⟨-,h⟩;· exact Kq
 omega
theorem Nt:vP 1 [(777600,12622780800)] 2678400 [(0,2678400),(2678400,5184000)]:=by
 refine⟨by simp,fun c=>?_⟩;constructor
 · intro h
   rcases List.mem_cons.1 h with rfl|h;· exact⟨0,by decide,by decide,Kq.symm,777600,UZ (by decide) (by decide),by decide,by decide,by decide,by decide⟩
   obtain rfl:=List.mem_singleton.1 h;exact⟨1,by decide,by decide,EG.symm,2678400,UZ (by decide) (by decide),by decide,by decide,by decide,by decide⟩
 rintro⟨m,-,-,rfl,x,-,h0,hx,h1,h2⟩;rcases xk h1 h2 h0 (by omega)with⟨rfl,-⟩|⟨rfl,-⟩;· rw[Kq];exact List.mem_cons_self
 rw[EG];exact List.mem_cons_of_mem _ List.mem_cons_self
def saG (f t un lf:Int):Bu:=⟨1,1,qx,0,1,[],f,t,un,lf,0,false⟩
theorem sa_at (t:Int) (h:0<=t):atL saP qx t=some saX:=by
 have hk:ji qx t saX=true:=by unfold ji;rw[show saX.nm=qx from rfl,EA,show saX.fm=0 from rfl,decide_eq_true h];rfl
 unfold atL saP;rw[List.filter_cons,if_pos hk,List.filter_nil];rfl
theorem xl (c q:Int×Int) (hq:jc [(777600,12622780800)] c=some q) (h0:0<=q.1):yr saP 1 (1,qx) [(777600,12622780800)] c=[(saG q.1 q.2 100 100,25)]:=by unfold yr;rw[hq];show vQ 1 (1,qx) q (bsOf (atL saP qx q.1))=_;rw[sa_at _ h0];rfl
theorem GU:yr saP 1 (1,qx) [(777600,12622780800)] (0,2678400)=[(saG 777600 2678400 100 100,25)]:=xl _ (777600,2678400) (by decide +kernel) (by decide)
theorem xG:yr saP 1 (1,qx) [(777600,12622780800)] (2678400,5184000)=[(saG 2678400 5184000 100 100,25)]:=xl _ (2678400,5184000) (by decide +kernel) (by decide)
theorem xj (t:Int) (h0:0<=t) (h1:t<12622780800):uH saL 1 t:=⟨h0,h1,by rw[uP];decide⟩
theorem sa_g1:GsOf saL saP 1 1728000 [(saG 777600 2678400 100 100,25)]:=by refine Or.inr ⟨xj _ (by decide) (by decide),[(1,qx)],[(0,2678400)],GT,by rw[uP,XX];exact Nu,?_⟩;unfold zP vI;rw[List.flatMap_singleton,List.flatMap_singleton];show _=(yr saP 1 (1,qx) (actL 1 qx saL) (0,2678400)).filter _;rw[U3,GU];rfl
theorem sa_g2:GsOf saL saP 1 2678400 [(saG 777600 2678400 100 100,25),(saG 2678400 5184000 100 100,25)]:=by refine Or.inr ⟨xj _ (by decide) (by decide),[(1,qx)],[(0,2678400),(2678400,5184000)],GT,by rw[uP,XX];exact Nt,?_⟩;unfold zP vI;rw[List.flatMap_cons,List.flatMap_singleton,List.flatMap_singleton,List.flatMap_singleton];show _=(yr saP 1 (1,qx) (actL 1 qx saL) (0,2678400)).filter _++(yr saP 1 (1,qx) (actL 1 qx saL) (2678400,5184000)).filter _;rw[U3,GU,xG];rfl
theorem GX:yu [(saG 777600 2678400 100 100,25)] []=[saG 777600 2678400 100 100]:=rfl
theorem XU (f t un lf f' t' un' lf':Int):yz (saG f t un lf) (saG f' t' un' lf')=decide (f=f'):=by unfold yz saG;simp[jf]
theorem XW (f t un lf f' t' un' lf':Int):yx (saG f t un lf) (saG f' t' un' lf')=decide (t=f'):=by unfold yx saG;simp[jf]
theorem Ns (f t un lf f' t' un' lf':Int):yB (saG f t un lf) (saG f' t' un' lf')=decide (f<f'):=by unfold yB saG;simp[jf]
theorem GW:yu [(saG 777600 2678400 100 100,25),(saG 2678400 5184000 100 100,25)] [saG 777600 2678400 100 40]=[saG 777600 2678400 100 40,saG 2678400 5184000 125 125]:=by
 have e1:zL [saG 777600 2678400 100 40] (saG 777600 2678400 100 100,25)=[saG 777600 2678400 100 40]:=by unfold zL;rw[if_pos (by unfold yF;simp[XU])]
 have e2:q9 [saG 777600 2678400 100 40] (saG 2678400 5184000 100 100,25)=saG 2678400 5184000 125 125:=by unfold q9;simp only[List.find?_cons,XW,decide_true];unfold ZD;rw[if_pos (by rw[XW];decide),show KU (saG 777600 2678400 100 40) 25=25 by decide];show(⟨1,1,qx,0,1,[],2678400,5184000,wrap64 (100+25),wrap64 (100+25),0,false⟩:Bu)=_;rw[show wrap64 (100+25)=125 by unfold wrap64;decide];rfl
 show zL (zL _ _) _=_;rw[e1];unfold zL;rw[if_neg (by unfold yF;simp[XU]),e2];unfold insB insT kT;simp only[List.takeWhile_cons,Ns];rfl
theorem XY:FewP saP:=by refine⟨by decide,fun p hp=>?_⟩;obtain rfl:=List.mem_singleton.1 hp;refine⟨by decide,fun b hb=>?_⟩;obtain rfl:=List.mem_singleton.1 hb;decide
theorem XZ (t:Int) (h:t<69120000):AdvH saL saP 1 t:=N8 UY (by decide) (Or.inr (Or.inl h)) (fun e he=>by
 have he':e=sa1\/e=sa2\/e=sa3:=by simpa [saL]using he
 rcases he' with rfl|rfl|rfl<;>(unfold maxLen;decide)) (fun p hp=>by
 obtain rfl:=List.mem_singleton.1 hp
 decide) (by rw[uP];decide) (by omega)
theorem NA {X:List BuX} {b:Bu} (h:plB X=[b]):∃x,X=[x]/\x.b=b:=by
 have hl:X.length=1:=by rw[<-jp,h];rfl
 obtain⟨x,rfl⟩:=List.length_eq_one_iff.1 hl;exact⟨x,rfl,(List.cons.inj h).1⟩
theorem G8 {X:List BuX} {a b:Bu} (h:plB X=[a,b]):∃x y,X=[x,y]/\x.b=a/\y.b=b:=by
 have hl:X.length=2:=by rw[<-jp,h];rfl
 match X,hl with
 | [x,y],_=>have h:[x.b,y.b]=[a,b]:=h;injection h with h1 h2;injection h2 with h2 h3;exact⟨x,y,rfl,h1,h2⟩
theorem Y5 {w:World} {base:Nat} {e:TypeId} {sz n:Nat} {v:Value} {xs:List Value} (h:w.ownsRow base e sz v n xs) (hn:0<n):
 ∃g cap,v=.slice (some ⟨g,0,none⟩) n cap/\base<=g/\g<w.heap.size/\n<=cap/\cap<=maxLen/\(∀i,w.frozen? ⟨g,i,none⟩=false)/\∀i,i<n*sz->w.cell? ⟨g,i,none⟩=xs[i]?:=by
 obtain⟨-,h2⟩:=h;rcases h2 with⟨-,h0⟩|⟨g,cap,cur,rfl,hB,hh,h1,h2,h3,h4⟩;· omega
 refine⟨g,cap,rfl,hB,(zu hh),h1,h2,fun i=>by simp[World.frozen?,hh],fun i hi=>?_⟩;rw[<-h4,List.getElem?_take_of_lt hi];simp only[World.cell?,hh,Option.isSome_none,Bool.false_eq_true,if_false];simp
theorem Eo {w w':World} {v:Value} (h:zi zW 5 w v []):zi zW 5 w' v []:=by obtain⟨a,c,e,h1,h2,-⟩:=h;exact⟨a,c,e,h1,h2,fun h=>absurd rfl h⟩
theorem GQ {w w':World} {v:Value} {L:List ByteArray} (hL:L=[]) (h:zR w v L):zR w' v L:=by subst hL;obtain⟨a,c,e,h1,h2,-⟩:=h;exact⟨a,c,e,h1,h2,fun h=>absurd rfl h⟩
theorem Vr {w:World} {base:Nat} {e:TypeId} {v:Value} (h:w.ownsRow base e 5 v 0 []):zi zW 5 w v []:=zi.own (l:=[]) (fun _=>rfl) h
theorem xF (f t un lf:Int) (h0:0<=f) (h1:f<12622780800):KeyB (saG f t un lf):=by refine⟨by show(Lit.int .i64 1).wf=true;decide,by show qx.size<=maxLen;unfold maxLen;decide,by show(Lit.int .i64 0).wf=true;decide,?_⟩;show(Lit.int .i64 f).wf=true;exact wf64 (by omega) (by omega)
def Zv (x:BuX):BuX:={ x with b:={ x.b with lf:=40 } }
theorem Zj (w:World):Calls Tryz.prog 20 #[] w fun e w'=>e=.returned (.bool true)/\Below w.heap.size w w':=by
 go_enter Tryz.func20,Tryz.ntmps20;go_wp2_with fail;refine(VT w).mono ?_;rintro e w1 ⟨ea,pa,ec,pc,rfl,hE,hP,hb1⟩;obtain⟨V,hV⟩:∃V,V=w1.alloc (Obj.cells #[.slice ea 3 ec,.slice pa 1 pc,.slice none 0 0,.slice none 0 0,.slice none 0 0,.int .i64 1] 47):=⟨_,rfl⟩;have hbV:Below w1.heap.size w1 V:=by rw[hV];exact(Below.refl _ _).alloc (Nat.le_refl _) _
 have VN:=zb (show V.heap[w1.heap.size]?=some (Obj.cells #[.slice ea 3 ec,.slice pa 1 pc,.slice none 0 0,.slice none 0 0,.slice none 0 0,.int .i64 1] 47) by rw[hV];exact heap_alloc_new _ _);have HV:=zb hV;have HbV:=zb (hb1.trans (hbV.mono hb1.size));have HE:=zb (hE.below hbV);have HP:=zb (hP.below hbV);have HA1:=zb (show Calls Tryz.prog 22 #[.slice ea 3 ec,.slice pa 1 pc,.agg #[.slice none 0 0,.slice none 0 0,.slice none 0 0],.int .i64 1,.int .i64 1728000] V (UQ saL saP 1 1728000 [] [] [] V)from
  ut saL saP 1 1728000 _ _ [] [] [] none none none 0 0 0 V (hE.below hbV) UY (by decide) (hP.below hbV) XY (zi.own (base:=0) (e:=60) (l:=[]) (fun _=>rfl) (World.ownsRow_nil _ _ _ _)) (fun x hx=>by cases hx) (fun x hx=>by cases hx) (Nat.zero_le _)
   (Vr (base:=0) (e:=102) (World.ownsRow_nil _ _ _ _)) (Nat.zero_le _) (Vr (base:=0) (e:=102) (World.ownsRow_nil _ _ _ _)) (Nat.zero_le _) (XZ _ (by decide)));clear hV hbV hE hP hb1;have tQ:=fun j=>cell_of_row V _ j _ _ _ VN.out;have k0:=tQ 0;have k1:=tQ 1;have k2:=tQ 2;have k3:=tQ 3;have k4:=tQ 4;have k5:=tQ 5;clear tQ;go_upto_region 2 with(fail);rw[<-HV.out];go_wp2_with fail;refine HA1.out.mono ?_;intro e w2 hadv;obtain⟨G,hg,hst⟩:=hadv.gs;obtain rfl:=hg.one sa_g1;rw[GX]at hst;obtain⟨a,c,X,wa,wc,ca,cc,rfl,ho,hpl,hbo,hwo,hco,hb2⟩:=hst;obtain⟨x,rfl,hx⟩:=NA hpl;have hbx:=hbo x (List.mem_singleton_self _);obtain⟨b0,c0,e0,hc1,hc2⟩:=zf ho;obtain⟨g,cap,eg,hgB,hgl,hg1,hg2,hgf,hgc⟩:=Y5 ho (by simp);cases eg;clear e0 hadv hg hbo HA1 hpl hc1 hc2 k0 k1 k2 k3 k4 k5;obtain⟨V2,hV2⟩:∃V2,V2=w2.alloc (Obj.cells #[.slice (some ⟨g,0,none⟩) 1 c,.slice wa 0 wc,.slice ca 0 cc] 45):=⟨_,rfl⟩;have hbV2:Below w2.heap.size w2 V2:=by rw[hV2];exact(Below.refl _ _).alloc (Nat.le_refl _) _
 have V2N:=zb (show V2.heap[w2.heap.size]?=some (Obj.cells #[.slice (some ⟨g,0,none⟩) 1 c,.slice wa 0 wc,.slice ca 0 cc] 45) by rw[hV2];exact heap_alloc_new _ _);have HV2:=zb hV2;have hb22:Below V.heap.size V V2:=hb2.trans (hbV2.mono hb2.size);have ho2:=zd ho hbV2;have x6:V2.cell? ⟨g,6,none⟩=some (.int .i64 777600):=((hbV2.cell (p:=⟨g,6,none⟩) hgl).trans (hgc 6 (by simp))).trans (by show some (Value.int .i64 x.b.f)=_;rw[hx];rfl);have x7:V2.cell? ⟨g,7,none⟩=some (.int .i64 2678400):=((hbV2.cell (p:=⟨g,7,none⟩) hgl).trans (hgc 7 (by simp))).trans (by show some (Value.int .i64 x.b.t)=_;rw[hx];rfl);have x9:V2.cell? ⟨g,9,none⟩=some (.int .i64 100):=((hbV2.cell (p:=⟨g,9,none⟩) hgl).trans (hgc 9 (by simp))).trans (by show some (Value.int .i64 x.b.lf)=_;rw[hx];rfl);have f9:V2.frozen? ⟨g,9,none⟩=false:=(hbV2.frozen (p:=⟨g,9,none⟩) hgl).trans (hgf 9);obtain⟨U,hU⟩:∃U,U=V2.setCell ⟨g,9,none⟩ (.int .i64 40):=⟨_,rfl⟩;have hoU:U.ownsRow V.heap.size 60 12 (.slice (some ⟨g,0,none⟩) 1 c) 1 ([Zv x].flatMap zr):=by rw[hU];exact(ho2.stored 9 (.int .i64 40)).1
 have hbU:Below V.heap.size V U:=hb22.trans (by rw[hU];exact⟨rfl,rfl,rfl,by simp,fun k hk=>Below.heap_setCell _ _ _ _ (by show k≠g;omega)⟩);have UN:=zb (show U.heap[w2.heap.size]?=some (Obj.cells #[.slice (some ⟨g,0,none⟩) 1 c,.slice wa 0 wc,.slice ca 0 cc] 45) by rw[hU,Below.heap_setCell _ _ _ _ (by show w2.heap.size≠g;omega)];exact V2N.out);have UC:=zb ((hbU.block _ (zu VN.out)).trans VN.out);have hrU:BuRd U (Zv x):=⟨GQ (by show x.b.zs=[];rw[hx];rfl) (hbx.rd).z,hbx.p,hbx.len⟩;have hpU:plB [Zv x]=[saG 777600 2678400 100 40]:=by show[({ x.b with lf:=40 }:Bu)]=_;rw[hx];rfl
 have hkU:∀y∈[Zv x],KeyB y.b:=fun y hy=>by
  obtain rfl:=List.mem_singleton.1 hy;have e:(Zv x).b=saG 777600 2678400 100 40:=(List.cons.inj hpU).1;rw[e];exact xF _ _ _ _ (by decide) (by decide)
 have HA2:=zb (show Calls Tryz.prog 22 #[.slice ea 3 ec,.slice pa 1 pc,.agg #[.slice (some ⟨g,0,none⟩) 1 c,.slice wa 0 wc,.slice ca 0 cc],.int .i64 1,.int .i64 2678400] U (UQ saL saP 1 2678400 (plB [Zv x]) [] [] U)from
  ut saL saP 1 2678400 _ _ [Zv x] [] [] (some ⟨g,0,none⟩) wa ca c wc cc U (HE.out.below hbU) UY (by decide) (HP.out.below hbU) XY (zi.own (fun _=>rfl) hoU) (fun y hy=>by obtain rfl:=List.mem_singleton.1 hy;exact hrU) hkU (by simp)
   (Eo (Vr hwo)) (Nat.zero_le _) (Eo (Vr hco)) (Nat.zero_le _) (XZ _ (by decide)));rw[hpU]at HA2;have HU:=zb hU;have HbU:=zb (HbV.out.trans (hbU.mono HbV.out.size));clear hV2 hb22 ho2 hU hoU hbU hrU hpU hkU ho hwo hco hb2 hbx hgc hgf hgB hg1 hg2 hbV2;have d0:=cell_of_row V2 _ 0 _ _ _ V2N.out;have d1:=cell_of_row V2 _ 1 _ _ _ V2N.out;have d2:=cell_of_row V2 _ 2 _ _ _ V2N.out;go_upto_region 3 with(fail);rw[<-HV2.out];go_upto_region 6 with(fail);rw[<-HU.out];clear x6 x7 x9 f9 d0 d1 d2;have d0:=cell_of_row U _ 0 _ _ _ UN.out;have d1:=cell_of_row U _ 1 _ _ _ UN.out;have d2:=cell_of_row U _ 2 _ _ _ UN.out;have tQ:=fun j=>cell_of_row U _ j _ _ _ UC.out;have k0:=tQ 0;have k1:=tQ 1;have k2:=tQ 2;have k3:=tQ 3;have k4:=tQ 4;have k5:=tQ 5;clear tQ;go_wp2_with fail;refine HA2.out.mono ?_;intro e w3 hadv;obtain⟨G,hg,hst⟩:=hadv.gs;obtain rfl:=hg.one sa_g2;rw[GW]at hst;obtain⟨a3,c3,X3,wa3,wc3,ca3,cc3,rfl,ho3,hpl3,hbo3,hwo3,hco3,hb3⟩:=hst;obtain⟨y1,y2,rfl,hy1,hy2⟩:=G8 hpl3;obtain⟨g3,cap3,eg,hgB3,hgl3,hg13,hg23,-,hgc3⟩:=Y5 ho3 (by simp);cases eg;obtain⟨V3,hV3⟩:∃V3,V3=w3.alloc (Obj.cells #[.slice (some ⟨g3,0,none⟩) 2 c3,.slice wa3 0 wc3,.slice ca3 0 cc3] 45):=⟨_,rfl⟩;have hbV3:Below w3.heap.size w3 V3:=by rw[hV3];exact(Below.refl _ _).alloc (Nat.le_refl _) _
 have V3N:=zb (show V3.heap[w3.heap.size]?=some (Obj.cells #[.slice (some ⟨g3,0,none⟩) 2 c3,.slice wa3 0 wc3,.slice ca3 0 cc3] 45) by rw[hV3];exact heap_alloc_new _ _);have HF:=zb (HbU.out.trans ((hb3.trans (hbV3.mono hb3.size)).mono HbU.out.size));have z9:V3.cell? ⟨g3,9,none⟩=some (.int .i64 40):=((hbV3.cell (p:=⟨g3,9,none⟩) hgl3).trans (hgc3 9 (by simp))).trans (by show some (Value.int .i64 y1.b.lf)=_;rw[hy1];rfl);have z20:V3.cell? ⟨g3,20,none⟩=some (.int .i64 125):=((hbV3.cell (p:=⟨g3,20,none⟩) hgl3).trans (hgc3 20 (by simp))).trans (by show some (Value.int .i64 y2.b.un)=_;rw[hy2];rfl);have z21:V3.cell? ⟨g3,21,none⟩=some (.int .i64 125):=((hbV3.cell (p:=⟨g3,21,none⟩) hgl3).trans (hgc3 21 (by simp))).trans (by show some (Value.int .i64 y2.b.lf)=_;rw[hy2];rfl);have HV3:=zb hV3;clear hadv hg hpl3 hbo3 hwo3 hco3 hb3 hgc3 hgB3 hbV3 ho3 hV3 HA2 d0 d1 d2 k0 k1 k2 k3 k4 k5;have d0:=cell_of_row V3 _ 0 _ _ _ V3N.out;have d1:=cell_of_row V3 _ 1 _ _ _ V3N.out;have d2:=cell_of_row V3 _ 2 _ _ _ V3N.out;go_upto_region 7 with(fail);rw[<-HV3.out];go_wp2;go_ret;exact⟨rfl,HF.out⟩
end Go.Proofs.YtngippiilgdnoaaGreat
