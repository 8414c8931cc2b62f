/-
  The walk of the laws' valid of chapter 35.
-/
import Derived.Test.YtngippiilgdnoaaGreatMibn
set_option maxRecDepth 100000
set_option maxHeartbeats 25600000
namespace Go.Proofs.YtngippiilgdnoaaGreat
open Go.RowKit
theorem Y6 {w:World} {ops:Array Oper} {rest:List Oper} {o:Oper} {a:Act} {Q:Exit->Act->World->Prop} (hgd:o.guard=none) (s x:Operand)
 (ho:o.op=.call { callee:=.builtin .append,args:=#[s,x],argTypes:=#[85,85] })
 (base:Nat) (hbase:base<=w.heap.size) (v vx:Value) (L X:List (Int×Int)) (hs:a.eval s=v) (hx:a.eval x=vx) (hown:w.ownsRow base 25 2 v L.length (L.flatMap zl)) (hX:zh zl 2 w vx X) (hlen:L.length+X.length<=1000000)
 (h:∀R:List (Int×Int),RowKit.Hid (R=L++X)->∀v' w',w'.ownsRow base 25 2 v' R.length (R.flatMap zl)->w.grownBy w' v.ownBlock->wpList Tryz.prog ops Q rest (a.put o.dst v') w'):wpList Tryz.prog ops Q (o::rest) a w:=
 yu (c:=zl) (sz:=2) (fun _=>rfl) js 25 85 _ 16 Tryz.underlying85 Tryz.perInfo rfl (by decide) hgd s x ho base hbase v vx L X hs hx hown hX (by unfold maxLen;omega) (by omega) h
def gV (a:Int) (A:List (Int×Int)) (t:Int) (w:World) (e:Ending) (w':World):Prop:=∃O,vH a A t O/\Za w O e w'
theorem kb {α β:Type} (f:α->List β) (L:List α) (k:Nat) (h:k<L.length):(L.take (k+1)).flatMap f=(L.take k).flatMap f++f L[k]:=by rw[List.take_succ_eq_append_getElem h,List.flatMap_append,List.flatMap_singleton]
theorem Yt {α β:Type} (f:α->List β) (L:List α) (k:Nat):((L.take k).flatMap f).length<=(L.flatMap f).length:=by
 have h:L.flatMap f=(L.take k).flatMap f++(L.drop k).flatMap f:=by rw[<-List.flatMap_append,List.take_append_drop]
 rw[h,List.length_append];omega
theorem NB {α β:Type} (f:α->List β) (L:List α) (k j:Nat) (h:k<L.length):∃R,L.flatMap f=((L.take k).flatMap f++(f L[k]).take j)++R:=by
 refine⟨(f L[k]).drop j++(L.drop (k+1)).flatMap f,?_⟩;have h1:L.flatMap f=(L.take (k+1)).flatMap f++(L.drop (k+1)).flatMap f:=by rw[<-List.flatMap_append,List.take_append_drop]
 rw[h1,kb f L k h];have h2:f L[k]=(f L[k]).take j++(f L[k]).drop j:=(List.take_append_drop _ _).symm;rw[<-List.append_assoc,List.append_assoc ((L.take k).flatMap f) _ ((f L[k]).drop j),<-h2]
theorem K4 (M:List (Int×Int)) (q c:Int×Int):uv (M++[q]) c=if q.1<c.1 then M++[q]++[c] else M++[q]:=by unfold uv;rw[List.getLast?_append,List.getLast?_singleton];rfl
theorem X6 (l:List Ev) (ac:Int) (v:Value) (X:List HoX) (a t:Int) (w:World) (hX:zh (yj ac) 4 w v X) (hr:∀x∈X,HoRd l w x) (ha:1<=a) (hb:a<=28) (h0:0<=t) (h1:t<12622780800) (hin:∀p∈vu l (X.map (·.h)),0<=p.1/\p.1<p.2/\p.2<=12622780800) (hlen:(vu l (X.map (·.h))).length<=1000):
 Calls Tryz.prog 60 #[v,.int .i64 a,.int .i64 t] w (gV a (vu l (X.map (·.h))) t w):=by
 have HRef:=zb (NJ ha hb hin h0 h1);have hA:vu l (X.map (·.h))=X.flatMap (fun x=>actL x.h.1 x.h.2 l):=by unfold vu;rw[List.flatMap_map]
 rw[hA]at HRef hlen⊢;have HPre:=zb (Yt (fun x:HoX=>actL x.h.1 x.h.2 l) X);have HFt:=zb (kb (fun x:HoX=>actL x.h.1 x.h.2 l) X);have HX:=zb hX;have Hr:=zb hr;have hwt:wrap64 (t+1)=t+1:=by unfold wrap64;omega
 have HCm:=zb (fun va A w1 (h:yf w1 va A) vb (h2:yf w1 vb [(0,t+1)]) (hl:A.length<=1000)=>Yx va vb A [(0,t+1)] w1 h h2 (by simp;omega));have HSp:=zb (fun A=>jm (C:=yH A [(0,t+1)] false true) rfl);have HUp:=zb (fun A=>Gq ha hb ((jT (ku A [(0,t+1)] false true).1).imp fun h=>Int.le_of_lt h) (jm (C:=yH A [(0,t+1)] false true) rfl));have HMm:=zb (fun A c=>QQ ha hb (jm (C:=yH A [(0,t+1)] false true) rfl) (c:=c));have Ha:=zb (And.intro ha hb);obtain⟨av,cap,rfl,hlc,hcm⟩:=zu hX;unfold maxLen at hcm;clear hX hr hA hin h0 h1 ha hb;go_enter Tryz.func60,Tryz.ntmps60;go_wp2_with fail;go_loopw [7,8] (fun vo i wr=>∃(k:Nat) (O:List (Int×Int)),k<=X.length/\i=.int .i64 k/\RowKit.Hid (O=(X.take k).flatMap (fun x=>actL x.h.1 x.h.2 l))/\wr.ownsRow w.heap.size 25 2 vo O.length (O.flatMap zl)/\Below w.heap.size w wr) (fun _ i _=>X.length-(intOf i).toNat);case atStart=>exact⟨0,[],Nat.zero_le _,rfl,zb rfl,World.ownsRow_nil _ _ _ _,Below.refl _ _⟩
 case round=>
  obtain⟨wo,rfl⟩:∃wo:World,wo=wr:=⟨_,rfl⟩;obtain⟨k,O,hk,rfl,HO,hown,hb⟩:=hrel;obtain⟨ao,cp,rfl,hc1,hc2⟩:=zf hown;unfold maxLen at hc2;have Hown:=zb hown;have Hb:=zb hb;have hOl:O.length<=1000:=by rw[HO.out];exact Nat.le_trans (HPre.out k) hlen
  by_cases hlt:k<X.length
  · have hk1:(k:Int)<(X.length:Int):=by omega
    have hk0:(0:Int)<=(k:Int):=Int.natCast_nonneg _;have HTk:=zb (HFt.out k hlt);have hAl:(actL (X[k]).h.1 (X[k]).h.2 l).length<=1000:=by have h:=HPre.out (k+1);rw[HTk.out,List.length_append]at h;omega
    have hrd:=(Hr.out _ (List.getElem_mem hlt)).1.below hb;obtain⟨a3,c3,e3,-,-,hx⟩:=HX.out.below hb;cases e3;obtain⟨bb,o,rfl,hB,hx⟩:=hx (by rintro rfl;cases hlt);have x3:wo.cell? ⟨bb,o+k*4+3,none⟩=some (.slice (X[k]).pa (X[k]).pn (X[k]).pc):=hx k hlt 3 (by decide);clear hx hown;generalize X[k]=x at *;have HRX:=zb (Vn hrd);generalize actL x.h.1 x.h.2 l=A at *;have hbs:=hb.size;clear hrd hb;go_wp2_with (at_builtin;refine Y6 rfl _ _ rfl w.heap.size hbs _ _ O A rfl rfl Hown.out HRX.out (by omega) ?_);intro R hR v5 w5 own5 hg5;have HRe:=zb (show R=(X.take (k+1)).flatMap (fun x=>actL x.h.1 x.h.2 l) by rw[hR.out,HTk.out,<-HO.out]);have Own5:=zb own5;have Hb5:=zb (Hb.out.grown hg5 hbs (fun g hg=>(zg Hown.out g hg).1));clear own5 hg5 hR hbs x3;go_wp2;exact⟨⟨k+1,R,by omega,by go_num,HRe,Own5.out,Hb5.out⟩,by simp[intOf];omega⟩
  have HE:=zb (show O=X.flatMap (fun x=>actL x.h.1 x.h.2 l) by rw[HO.out,List.take_of_length_le (by omega)]);have HRef:=zb (show vH a (X.flatMap (fun x=>actL x.h.1 x.h.2 l)) t (dedL ((yH O [(0,t+1)] false true).flatMap (vd a))) by rw[HE.out];exact HRef.out);have HOp:=zb (yf.own hown);have hbB:=Wb wo [(0,t+1)] (by unfold maxLen;simp);have hal:(Below wo.heap.size wo (wo.alloc (Obj.cells ([(0,t+1)].flatMap zl).toArray 25))):=(Below.refl _ _).alloc (Nat.le_refl _) _;have HC1:=zb (HCm.out _ O _ (HOp.out.below hal) _ hbB hOl);have HSp1:=zb (HSp.out O);have HUp1:=zb (HUp.out O);have HMm1:=zb (HMm.out O);have HOw:=zb hal;generalize yH O [(0,t+1)] false true=C at *;clear hown hb hbB hal;go_wp2_with fail;refine HC1.out.mono ?_;rintro e w3 ⟨vC,rfl,hpC,hb3⟩;obtain⟨aC,cC,rfl,hC1,hC2⟩:=ul hpC;unfold maxLen at hC2;have HpC:=zb hpC;have Hb3:=zb (Hb.out.trans ((HOw.out.trans (hb3.mono HOw.out.size)).mono Hb.out.size));have HBd:=zb (show ∀L',(∃R,C.flatMap (vd a)=L'++R)->(dedL L').length<=4801 from fun L' ⟨R,hR⟩=>by
   have hp:=HUp1.out;rw[hR]at hp;refine Ek (a:=a) (List.pairwise_append.1 hp).1 fun c hc=>?_;obtain⟨m,m1,m2,e,-⟩:=(HMm1.out c).1 (by rw[hR];exact List.mem_append_left _ hc);exact⟨m,m1,m2,e⟩);have HFc:=zb (kb (vd a) C);have HCut:=zb (NB (vd a) C);have HCy:=zb (show ∀p,p∈C->∀W,Calls Tryz.prog 63 #[.int .i64 a,.agg #[.int .i64 p.1,.int .i64 p.2]] W (fun e w'=>∃v,e=.returned v/\w'.ownsRow W.heap.size 25 2 v (vd a p).length ((vd a p).flatMap zl)/\Below W.heap.size W w')from fun p hp W=>by
   obtain⟨s0,s1,s2⟩:=HSp1.out p hp;exact UB a p.1 p.2 _ _ W Ha.out.1 Ha.out.2 ((zx _ _).2 ⟨s0,s1,s2⟩) (ja s0 (by omega)) (ja (by omega) (by omega)));have HSp2:=zb (show ∀p,p∈C->-1<=moOf a p.1/\moOf a (p.2-1)<=4799 from fun p hp=>by
   obtain⟨s0,s1,s2⟩:=HSp1.out p hp;exact⟨(ja s0 (by omega)).1,(ja (by omega) (by omega)).2.1⟩);clear hpC hb3 HUp1 HMm1 HSp1 HC1;go_wp2_with fail;go_loopw [9,10] (fun vo i wr=>∃(k:Nat) (Q:List (Int×Int)),k<=C.length/\i=.int .i64 k/\RowKit.Hid (Q=dedL ((C.take k).flatMap (vd a)))/\wr.ownsRow w3.heap.size 25 2 vo Q.length (Q.flatMap zl)/\Below w3.heap.size w3 wr) (fun _ i _=>C.length-(intOf i).toNat);case atStart=>exact⟨0,[],Nat.zero_le _,rfl,zb rfl,World.ownsRow_nil _ _ _ _,Below.refl _ _⟩
  case round=>
   clear hc1 hc2;obtain⟨wq,rfl⟩:∃wq:World,wq=wr:=⟨_,rfl⟩;obtain⟨i,Q0,hi,rfl,HQ0,hown,hb⟩:=hrel;obtain⟨aq,cq,rfl,hc1,hc2⟩:=zf hown;unfold maxLen at hc2;have Hown0:=zb hown;have Hb0:=zb hb;by_cases hit:i<C.length
   · have hi1:(i:Int)<(C.length:Int):=by omega
     have hi0:(0:Int)<=(i:Int):=Int.natCast_nonneg _;have HTi:=zb (HFc.out i hit);have HCi:=zb (HCut.out i · hit);have HCp:=zb (HCy.out C[i] (List.getElem_mem hit));obtain⟨a3,c3,e3,-,-,hx⟩:=HpC.out.below hb;cases e3;obtain⟨bb,o,rfl,hB,hx⟩:=hx (by rintro rfl;cases hit);obtain⟨x0,x1⟩:=hx i hit;clear hx hown hb;have HPm:=List.getElem_mem hit;generalize C[i]=p at *;go_wp2_with fail;refine(HCp.out wq).mono ?_;rintro e w4 ⟨vL,rfl,hpL,hb4⟩;obtain⟨aL,cL,rfl,hL1,hL2⟩:=zf hpL;unfold maxLen at hL2;obtain⟨B,hB0⟩:∃B,B=(C.take i).flatMap (vd a):=⟨_,rfl⟩;rw[<-hB0]at HTi HCi HQ0;clear hB0;have HEnd:=zb (show ∀(Q:List (Int×Int)) (vo:Value) (wx:World),Q=dedL (B++vd a p)->wx.ownsRow w3.heap.size 25 2 vo Q.length (Q.flatMap zl)->Below w3.heap.size w3 wx->∃(k:Nat) (Q:List (Int×Int)),k<=C.length/\Value.int .i64 ((i:Int)+1)=.int .i64 k/\RowKit.Hid (Q=dedL ((C.take k).flatMap (vd a)))/\wx.ownsRow w3.heap.size 25 2 vo Q.length (Q.flatMap zl)/\Below w3.heap.size w3 wx from fun Q vo wx h1 h2 h3=>⟨i+1,Q,hit,by go_num,zb (by rw[HTi.out];exact h1),h2,h3⟩);have HBd1:=zb (fun j=>HBd.out _ (HCi.out j));have HLen:=zb (show(vd a p).length<=4801 by unfold vd;rw[ub];have h1:=HSp2.out p HPm;omega);generalize vd a p=L at *;have HL0:=zb hpL;have Hb4:=zb (Hb0.out.trans (hb4.mono Hb0.out.size));have Hown4:=zb (ze Hown0.out hb4);have HSep:=zb (show ∀g,(Value.slice aq Q0.length cq).ownBlock=some g->∀gl,(Value.slice aL L.length cL).ownBlock=some gl->g<gl from fun g hg gl hgl=>by
      have h1:=(zg Hown0.out g hg).2;have h2:=(zg HL0.out gl hgl).1
      omega);have hLl:L.length<=4801:=by
      have h1:=HLen.out;exact h1
     clear hpL hb4 x0 x1;go_wp2_with fail;go_loopw [9,12] (fun vo i wr=>∃(k:Nat) (Q:List (Int×Int)),k<=L.length/\i=.int .i64 k/\RowKit.Hid (Q=dedL (B++L.take k))/\wr.ownsRow w3.heap.size 25 2 vo Q.length (Q.flatMap zl)/\wr.ownsRow wq.heap.size 25 2 (.slice aL L.length cL) L.length (L.flatMap zl)/\RowKit.Hid (∀g,vo.ownBlock=some g->∀gl,(Value.slice aL L.length cL).ownBlock=some gl->g≠gl)/\Below w3.heap.size w3 wr) (fun _ i _=>L.length-(intOf i).toNat);case atStart=>exact⟨0,Q0,Nat.zero_le _,rfl,zb (by rw[HQ0.out,List.take_zero,List.append_nil]),Hown4.out,HL0.out,zb (fun g hg gl hgl=>by have:=HSep.out g hg gl hgl;omega),Hb4.out⟩
     case round=>
      clear hc1 hc2;obtain⟨wi,rfl⟩:∃wi:World,wi=wr:=⟨_,rfl⟩;obtain⟨j,Q,hj,rfl,HQ,hown,hownL,HNe,hb⟩:=hrel;obtain⟨ai,ci,rfl,hc1,hc2⟩:=zf hown;unfold maxLen at hc2;have Hown:=zb hown;have HownL:=zb hownL;have Hb:=zb hb;have hj0:(0:Int)<=(j:Int):=Int.natCast_nonneg _;have hQl:Q.length<=4801:=by rw[HQ.out];exact HBd1.out j
      by_cases hjt:j<L.length
      · have hj1:(j:Int)<(L.length:Int):=by omega
        have HTk:=zb (show dedL (B++L.take (j+1))=uv (dedL (B++L.take j)) L[j] by rw[List.take_succ_eq_append_getElem hjt,<-List.append_assoc,Km]);obtain⟨a4,c4,e4,-,-,hx⟩:=(zh.own (c:=zl) (sz:=2) (fun _=>rfl) hownL:zh zl 2 wi _ L);cases e4;obtain⟨b2,o2,rfl,hB2,hx⟩:=hx (by rintro rfl;cases hjt);have y0:wi.cell? ⟨b2,o2+j*2,none⟩=some (.int .i64 (L[j]).1):=hx j hjt 0 (by decide);have y1:wi.cell? ⟨b2,o2+j*2+1,none⟩=some (.int .i64 (L[j]).2):=hx j hjt 1 (by decide);have hbs:=hb.size;clear hx hownL hb;generalize L[j]=c at *;rw[<-HQ.out]at HTk;by_cases hQ0:Q=[]
        · subst hQ0
          have HE:=zb (show dedL (B++L.take (j+1))=[c] from HTk.out);have hz:((([]:List (Int×Int)).length:Int)==0)=true:=rfl;go_upto_region 15 with(fail);refine zj (Below.refl wi.heap.size wi) (by kernel_rfl) (by kernel_rfl) ?_;repeat (go_big_quiet_step (fail))
          refine wpQuiet_nil ?_;intro wz hw';have hYa:Below wi.heap.size wi wz:=by obtain⟨pq,rfl⟩:=hw';exact pq.h
          have Hbz:=zb (Hb.out.trans (hYa.mono Hb.out.size));have Hownz:=zb (ze Hown.out hYa);have HownLz:=zb (ze HownL.out hYa);have y0:=(hYa.cell (p:=⟨b2,_,none⟩) hB2).trans y0;have y1:=(hYa.cell (p:=⟨b2,_,none⟩) hB2).trans y1;have hbz:=Hbz.out.size;clear hw' hYa;go_wp2_with (at_builtin;refine jj (c:=zl) (sz:=2) (fun _=>rfl) js 25 85 _ 16 Tryz.underlying85 Tryz.perInfo rfl (by decide) rfl _ _ rfl w3.heap.size (Nat.le_trans hbz (World.le_alloc _ _)) _ _ [] c rfl rfl (Hownz.out.alloc _) (zh.one (c:=zl) (sz:=2) wz c 25 #[.int .i64 c.1,.int .i64 c.2] rfl) (by unfold maxLen;simp) (by simp) ?_);intro R hR v5 w5 own5 hg5 hfr;have HRe:=zb (show R=dedL (B++L.take (j+1)) by rw[HE.out];first|exact hR.out|exact hR.out.trans (by simp));have Own5:=zb own5;have Hg5:=zb hg5;have HLz:=zb (HownLz.out.alloc (Obj.cells #[.int .i64 c.1,.int .i64 c.2] 25));have hsl:wz.heap.size<=(wz.alloc (Obj.cells #[.int .i64 c.1,.int .i64 c.2] 25)).heap.size:=World.le_alloc _ _;have HL5:=zb (yX HLz.out Hg5.out (by
           cases ho:(Value.slice (some ⟨b2,o2,none⟩) L.length cL).ownBlock with
           |none=>exact Or.inl rfl
           |some gl=>exact Or.inr (fun e=>HNe.out gl e.symm gl ho rfl)));have HNe5:=zb (show ∀g,v5.ownBlock=some g->∀gl,(Value.slice (some ⟨b2,o2,none⟩) L.length cL).ownBlock=some gl->g≠gl from fun g hg gl hgl=>by
           rcases hfr.out g hg with h|h;· exact HNe.out g h gl hgl
           have:=(zg HownLz.out gl hgl).2
           omega);have Hb5:=zb ((Hbz.out.alloc hbz _).grown Hg5.out (Nat.le_trans hbz hsl) (fun g hg=>(zg Hownz.out g hg).1));clear own5 hg5 hR hfr hbz hsl y0 y1;go_wp2;exact⟨⟨j+1,R,by omega,by go_num,HRe,Own5.out,HL5.out,HNe5,Hb5.out⟩,by simp[intOf];omega⟩
        obtain⟨M,q,rfl⟩:∃M q,Q=M++[q]:=⟨_,_,(List.dropLast_concat_getLast hQ0).symm⟩;clear hQ0;have HE:=zb (HTk.out.trans (K4 M q c));obtain⟨g0,rfl,hln,hgB,hgl,hownM,hcell⟩:=kU (c:=zl) (sz:=2) (fun _=>rfl) Hown.out;have z0:wi.cell? ⟨g0,M.length*2,none⟩=some (.int .i64 q.1):=hcell 0 (by decide);have HownM:=zb hownM;rw[hln]at hc1 hQl HNe⊢;have hm1:IntKind.i64.wrap ((M.length:Int)+1-1)=(M.length:Int):=by rw[Int.add_sub_cancel];exact IntWalk.i64_in _ (by omega)
        have hm2:(0:Int)<=(M.length:Int):=Int.natCast_nonneg _;have hm3:(M.length:Int)<(M.length:Int)+1:=by omega
        have hm4:(((M.length:Int)+1)==0)=false:=beq_eq_false_iff_ne.2 (by omega);have u0:=fun p:zd wi=>zd.cell (a:=⟨g0,M.length*2,none⟩) hgl z0 p;have s0:=fun p:zd wi=>zd.cell (a:=⟨b2,o2+j*2,none⟩) hB2 y0 p;clear hownM hcell z0;by_cases hlt2:q.1<c.1
        · have HE:=zb (HE.out.trans (if_pos hlt2))
          go_upto_region 15 with(fail);refine zj (Below.refl wi.heap.size wi) (by kernel_rfl) (by kernel_rfl) ?_;repeat (go_big_quiet_step (fail))
          refine wpQuiet_nil ?_;intro wz hw';have hYa:Below wi.heap.size wi wz:=by obtain⟨pq,rfl⟩:=hw';exact pq.h
          have Hbz:=zb (Hb.out.trans (hYa.mono Hb.out.size));have Hownz:=zb (show wz.ownsRow w3.heap.size 25 2 (.slice (some ⟨g0,0,none⟩) (M.length+1) ci) (M++[q]).length ((M++[q]).flatMap zl) by rw[show(M++[q]).length=M.length+1 by simp];exact ze HownM.out hYa);have HownLz:=zb (ze HownL.out hYa);have y0:=(hYa.cell (p:=⟨b2,_,none⟩) hB2).trans y0;have y1:=(hYa.cell (p:=⟨b2,_,none⟩) hB2).trans y1;have hbz:=Hbz.out.size;clear hw' hYa u0 s0;go_wp2_with (at_builtin;refine jj (c:=zl) (sz:=2) (fun _=>rfl) js 25 85 _ 16 Tryz.underlying85 Tryz.perInfo rfl (by decide) rfl _ _ rfl w3.heap.size (Nat.le_trans hbz (World.le_alloc _ _)) _ _ (M++[q]) c rfl rfl (Hownz.out.alloc _) (zh.one (c:=zl) (sz:=2) wz c 25 #[.int .i64 c.1,.int .i64 c.2] rfl) (by rw[List.length_append,List.length_singleton];unfold maxLen;omega) (by rw[List.length_append,List.length_singleton];omega) ?_);intro R hR v5 w5 own5 hg5 hfr;have HRe:=zb (show R=dedL (B++L.take (j+1)) by rw[HE.out];first|exact hR.out|exact hR.out.trans (by simp));have Own5:=zb own5;have Hg5:=zb hg5;have HLz:=zb (HownLz.out.alloc (Obj.cells #[.int .i64 c.1,.int .i64 c.2] 25));have hsl:wz.heap.size<=(wz.alloc (Obj.cells #[.int .i64 c.1,.int .i64 c.2] 25)).heap.size:=World.le_alloc _ _;have HL5:=zb (yX HLz.out Hg5.out (by
           cases ho:(Value.slice (some ⟨b2,o2,none⟩) L.length cL).ownBlock with
           |none=>exact Or.inl rfl
           |some gl=>exact Or.inr (fun e=>HNe.out gl e.symm gl ho rfl)));have HNe5:=zb (show ∀g,v5.ownBlock=some g->∀gl,(Value.slice (some ⟨b2,o2,none⟩) L.length cL).ownBlock=some gl->g≠gl from fun g hg gl hgl=>by
           rcases hfr.out g hg with h|h;· exact HNe.out g h gl hgl
           have:=(zg HownLz.out gl hgl).2
           omega);have Hb5:=zb ((Hbz.out.alloc hbz _).grown Hg5.out (Nat.le_trans hbz hsl) (fun g hg=>(zg Hownz.out g hg).1));clear own5 hg5 hR hfr hbz hsl y0 y1;go_wp2;exact⟨⟨j+1,R,by omega,by go_num,HRe,Own5.out,HL5.out,HNe5,Hb5.out⟩,by simp[intOf];omega⟩
        have HE:=zb (HE.out.trans (if_neg hlt2));go_upto_region 15 with(fail);refine zj (Below.refl wi.heap.size wi) (by kernel_rfl) (by kernel_rfl) ?_;repeat (go_big_quiet_step (fail))
        refine wpQuiet_nil ?_;intro wz hw';have hYa:Below wi.heap.size wi wz:=by obtain⟨pq,rfl⟩:=hw';exact pq.h
        have Hbz:=zb (Hb.out.trans (hYa.mono Hb.out.size));have Hownz:=zb (ze Hown.out hYa);have HownLz:=zb (ze HownL.out hYa);rw[hln]at Hownz;clear hw' hYa u0 s0 y0 y1;go_wp2;exact⟨⟨j+1,M++[q],by omega,by go_num,zb HE.out.symm,by rw[hln];exact Hownz.out,HownLz.out,HNe,Hbz.out⟩,by simp[intOf];omega⟩
      have HF:=zb (HEnd.out Q _ wi (by rw[HQ.out,List.take_of_length_le (by omega)]) hown hb);clear hown hownL hb;go_wp2;exact⟨HF.out,by simp[intOf];omega⟩
   have HE:=zb (show Q0=dedL (C.flatMap (vd a)) by rw[HQ0.out,List.take_of_length_le (by omega)]);have HbF:=zb (Hb3.out.trans (hb.mono Hb3.out.size));clear hown hb;go_wp2;go_ret;exact⟨Q0,by rw[HE.out];exact HRef.out,_,rfl,yf.own Hown0.out,HbF.out⟩
structure ky (B g:Nat) (L:List (Int×Int)) (w:World):Prop where
 ex:∃(a:Option Addr) (c:Nat),w.heap[g]?=some (Obj.cells #[.slice a L.length c] 85)/\w.ownsRow B 25 2 (.slice a L.length c) L.length (L.flatMap zl)
theorem ky.below {B g:Nat} {L:List (Int×Int)} {w w':World} (h:ky B g L w) (hb:Below w.heap.size w w'):ky B g L w':=by obtain⟨a,c,h1,h2⟩:=h.ex;exact⟨a,c,(hb.block _ (zw h1)).trans h1,ze h2 hb⟩
theorem ky.lt {B g:Nat} {L:List (Int×Int)} {w:World} (h:ky B g L w):g<w.heap.size:=by obtain⟨a,c,h1,h2⟩:=h.ex;exact(zw h1)
def EG (wa:World) (vo:Value) (a p1 p2:Int) (L:List (Int×Int)):Nat->Value->World->Prop
 |0,v,_=>v=vo
 |1,v,_=>v=.int .i64 a
 |2,v,_=>v=.agg #[.int .i64 p1,.int .i64 p2]
 |3,v,w=>∃y,v=y/\w.ownsRow wa.heap.size 25 2 y L.length (L.flatMap zl)
 |_,_,_=>True
theorem Va {wa:World} {vo:Value} {a p1 p2:Int} {L:List (Int×Int)} {w1 w2:World} (hb:Below w1.heap.size w1 w2):∀kQ yQ,EG wa vo a p1 p2 L kQ yQ w1->EG wa vo a p1 p2 L kQ yQ w2
 |0,_,h=>h
 |1,_,h=>h
 |2,_,h=>h
 |3,_,h=>(by obtain⟨y,h1,h2⟩:=h;exact⟨y,h1,ze h2 hb⟩)
 |_+4,_,_=>trivial
theorem Uq (B tb ab nb:Nat) (a t:Int) (p:Int×Int) (L:List (Int×Int)) (w:World) (ha:1<=a) (hb:a<=28) (h0:0<=t) (h1:t<12622780800) (hB:B<=w.heap.size) (hab:B<=ab) (htb:tb<B) (hnb:nb<B) (ht:w.cell? ⟨tb,0,none⟩=some (.int .i64 t)) (hn:w.cell? ⟨nb,0,none⟩=some (.int .i64 a)) (hbox:ky B ab L w) (hl:L.length+(vy a t p).length<=2000):
 Calls Tryz.prog 90 #[.agg #[.int .i64 p.1,.int .i64 p.2],.pointer (some ⟨tb,0,none⟩),.pointer (some ⟨ab,0,none⟩),.pointer (some ⟨nb,0,none⟩)] w fun e w'=>e=.returned (.tuple #[])/\ky B ab (L++vy a t p) w'/\Below B w w':=by
 obtain⟨W,hW⟩:∃W,W=w.alloc (Obj.cells #[.int .i64 p.1,.int .i64 p.2] 25):=⟨_,rfl⟩;have hw0:Below w.heap.size w W:=by rw[hW];exact(Below.refl _ _).alloc (Nat.le_refl _) _
 have R0:=zb (show W.heap[w.heap.size]?=some (Obj.cells #[.int .i64 p.1,.int .i64 p.2] 25) by rw[hW];exact heap_alloc_new _ _);have Hw0:=zb (hw0.mono hB);have HI:=zb (uy p.1 p.2 0 (t+1) W);have hwt:wrap64 (t+1)=t+1:=by unfold wrap64;omega
 have HbW:=zb (hbox.below hw0);have c0:=cell_of_row W _ 0 _ _ _ R0.out;have c1:=cell_of_row W _ 1 _ _ _ R0.out;have ct:=(hw0.cell (p:=⟨tb,0,none⟩) (show tb<w.heap.size by omega)).trans ht;have cn:=(hw0.cell (p:=⟨nb,0,none⟩) (show nb<w.heap.size by omega)).trans hn;have hWB:B<=W.heap.size:=Nat.le_trans hB hw0.size;have HW:=zb hW;have HWk:=zb (show vy a t p=if yY p.1 p.2 0 (t+1)=true then vd a (max p.1 0,min p.2 (t+1)) else [] from rfl);have Hme:=zb (show yY p.1 p.2 0 (t+1)=true->0<=max p.1 0/\max p.1 0<min p.2 (t+1)/\min p.2 (t+1)<=12622780800 from fun h=>by
  obtain⟨v1,v2,v3⟩:=(vz _ _ _ _).1 h;obtain⟨w0,w1,w2⟩:=(zx _ _).1 v1
  omega);have HCy:=zb (show ∀q:Int×Int,0<=q.1->q.1<q.2->q.2<=12622780800->∀W,Calls Tryz.prog 92 #[.int .i64 a,.agg #[.int .i64 q.1,.int .i64 q.2]] W (fun e w'=>∃v,e=.returned v/\w'.ownsRow W.heap.size 25 2 v (vd a q).length ((vd a q).flatMap zl)/\Below W.heap.size W w')from fun q s0 s1 s2 W=>QR a q.1 q.2 _ _ W ha hb ((zx _ _).2 ⟨s0,s1,s2⟩) (ja s0 (by omega)) (ja (by omega) (by omega)));generalize vy a t p=wk at *;clear hW hw0 ht hn hbox h0 h1;cases hm:yY p.1 p.2 0 (t+1)with
 |false=>have HE:=zb (HWk.out.trans (if_neg (by rw[hm];decide)));unfold ko at HI;rw[hm,if_neg (by decide)]at HI;clear hm;go_enter Tryz.func90,Tryz.ntmps90;go_upto_region 1 with(fail);rw[<-HW.out];go_wp2_with fail;refine HI.out.mono ?_;rintro e w2 ⟨rfl,hb2⟩;have Hb2:=zb ((hb2.alloc hb2.size (Obj.cells #[.int .i64 0,.int .i64 0] 25)));clear hb2 c0 c1 ct cn;go_wp2;go_end0;exact⟨rfl,by rw[HE.out,List.append_nil];exact HbW.out.below Hb2.out,Hw0.out.trans (Hb2.out.mono hWB)⟩
 |true=>
   obtain⟨q,hq⟩:∃q:Int×Int,q=(max p.1 0,min p.2 (t+1)):=⟨_,rfl⟩;have HE:=zb (HWk.out.trans (if_pos hm));have hq3:=Hme.out hm;have hq1:max p.1 0=q.1:=by rw[hq]
   have hq2:min p.2 (t+1)=q.2:=by rw[hq]
   rw[<-hq]at HE;unfold ko at HI;rw[hm,if_pos rfl,hq1,hq2]at HI;rw[hq1,hq2]at hq3;have HC1:=zb (HCy.out q hq3.1 hq3.2.1 hq3.2.2);clear hm hq hq1 hq2 hq3 HCy;rw[HE.out]at hl;generalize vd a q=Lq at *;go_enter Tryz.func90,Tryz.ntmps90;go_upto_region 1 with(fail);rw[<-HW.out];go_wp2_with fail;refine HI.out.mono ?_;rintro e w2 ⟨rfl,hb2⟩;obtain⟨Y,hY⟩:∃Y,Y=w2.alloc (Obj.cells #[.int .i64 q.1,.int .i64 q.2] 25):=⟨_,rfl⟩;have hbY:Below w2.heap.size w2 Y:=by rw[hY];exact(Below.refl _ _).alloc (Nat.le_refl _) _
   have YN:=zb (show Y.heap[w2.heap.size]?=some (Obj.cells #[.int .i64 q.1,.int .i64 q.2] 25) by rw[hY];exact heap_alloc_new _ _);have hbWY:=hb2.trans (hbY.mono hb2.size);have HbY:=zb (HbW.out.below hbWY);have HWY:=zb (hbWY.mono hWB);have hYB:B<=Y.heap.size:=Nat.le_trans hWB hbWY.size;have cn2:=(hbWY.cell (p:=⟨nb,0,none⟩) (show nb<W.heap.size by omega)).trans cn;have hnY:nb<Y.heap.size:=by omega
   have hy2:w2.heap.size<Y.heap.size:=(zw YN.out);have HY:=zb hY;obtain⟨aa,ca,hrow,hown⟩:=HbY.out.ex;have habY:ab<Y.heap.size:=(zw hrow);have HAw:=zb (show ∀Z,Below Y.heap.size Y Z->Z.cell? ⟨ab,0,none⟩=some (.slice aa L.length ca)/\Z.cell? ⟨nb,0,none⟩=some (.int .i64 a)/\Z.cell? ⟨w2.heap.size,0,none⟩=some (.int .i64 q.1)/\Z.cell? ⟨w2.heap.size,1,none⟩=some (.int .i64 q.2)from fun Z hZ=>⟨cell_of_row Z _ 0 _ _ _ ((hZ.block _ habY).trans hrow),(hZ.cell (p:=⟨nb,0,none⟩) hnY).trans cn2,cell_of_row Z _ 0 _ _ _ ((hZ.block _ hy2).trans YN.out),cell_of_row Z _ 1 _ _ _ ((hZ.block _ hy2).trans YN.out)⟩);have Hrow:=zb hrow;have Hown:=zb hown;clear hY hbY hbWY hb2 c0 c1 ct cn cn2 hrow hown;go_upto_region 3 with(fail);rw[<-HY.out];refine zN 4 (fun w'=>Below Y.heap.size Y w') (EG Y (.slice aa L.length ca) a q.1 q.2 Lq) (by kernel_rfl) (by kernel_rfl) (Below.refl _ _).drew ?_ ?_
   · generalize hfr:(fun v:Nat->Value=>_)=fr
     simp only[List.take_succ_cons,List.take_zero,List.map_cons,List.map_nil,zB,List.setIfInBounds_toArray,List.set_cons_succ,List.set_cons_zero,Nat.zero_add,Nat.reduceAdd]at hfr;simp only[List.take_succ_cons,List.take_zero,yN];refine⟨?_,?_,?_,?_,trivial⟩;iterate 3
      · intro v w5 hC hd K hK
        obtain⟨p0,p1,p2,p3⟩:=HAw.out w5 hC;rw[<-hfr]at hK⊢;go_simp;exact hK _ _ hC (Va (Below.refl _ _)) rfl
     · intro v w5 hC hd K hK
       obtain⟨(e1:v 1=_),(e2:v 2=_),-⟩:=hd;rw[<-hfr]at hK⊢;simp only[e1,e2]at hK⊢;go_simp;refine(HC1.out w5).mono ?_;rintro e w6 ⟨y,rfl,own4,hb4⟩;exact hK _ _ (hC.trans (hb4.mono hC.size)) (Va hb4) ⟨y,rfl,zr own4 hC.size⟩
   intro v w5 hC hall;obtain⟨y,e3,hy⟩:∃y,v 3=y/\w5.ownsRow Y.heap.size 25 2 y Lq.length (Lq.flatMap zl):=hall.2;have e0:v 0=.slice aa L.length ca:=hall.1.1.1.2;have HRX:=zb (show zh zl 2 w5 y Lq from zh.own (fun _=>rfl) hy);have HownU:=zb (ze Hown.out hC);have Hrow5:=zb ((hC.block _ habY).trans Hrow.out);have Hb5:=zb (Hw0.out.trans (HWY.out.trans (hC.mono hYB)));have hbs:B<=w5.heap.size:=Nat.le_trans hYB hC.size;simp only[List.take_succ_cons,List.take_zero,List.map_cons,List.map_nil,zB,List.setIfInBounds_toArray,List.set_cons_succ,List.set_cons_zero,Nat.zero_add,Nat.reduceAdd,List.drop_succ_cons,List.drop_zero];simp only[e0,e3];generalize v 1=y1,v 2=y2;clear e0 e3 hy hall hC v HAw HC1;refine Y6 rfl _ _ rfl B hbs _ _ L Lq rfl rfl HownU.out HRX.out (by omega) ?_;intro R hR v7 w7 own7 hg7;obtain⟨a7,c7,rfl,-,-⟩:=zf own7;have Hne:=zb (zi HownU.out Hrow5.out (by decide));have Hrow7:=zb ((hg7.block ab (zw Hrow5.out) (fun h=>Hne.out h.symm)).trans Hrow5.out);have Hb7:=zb (Hb5.out.grown hg7 hbs (fun g hg=>(zg HownU.out g hg).1));have Own7:=zb own7;have Hne7:=zb (zi own7 Hrow7.out (by decide));have f0:=frozen_of_row w7 _ 0 _ _ Hrow7.out;have g0:=cell_of_row w7 _ 0 _ _ _ Hrow7.out;have HRe:=zb (show R=L++wk by rw[hR.out,HE.out]);have HBx:=zb (show ky B ab R (w7.setCell ⟨ab,0,none⟩ (.slice a7 R.length c7))from⟨a7,c7,zU _ Hrow7.out,zq Own7.out Hne7.out⟩);clear own7 hg7 hR hbs;go_wp2;go_end0;exact⟨rfl,by rw[<-HRe.out];exact HBx.out,Hb7.out.setCell hab _⟩
theorem Wc (l:List Ev) (ac:Int) (v:Value) (X:List HoX) (a t:Int) (w:World) (hX:zh (yj ac) 4 w v X) (hr:∀x∈X,HoRd l w x) (ha:1<=a) (hb:a<=28) (h0:0<=t) (h1:t<12622780800) (hin:∀p∈vu l (X.map (·.h)),0<=p.1/\p.1<p.2/\p.2<=12622780800) (hlen:((vu l (X.map (·.h))).flatMap (vy a t)).length<=1600):
 Calls Tryz.prog 55 #[v,.int .i64 a,.int .i64 t] w (gV a (vu l (X.map (·.h))) t w):=by
 have HRef:=zb (En ha hb hin h0 h1);have hA:vu l (X.map (·.h))=X.flatMap (fun x=>actL x.h.1 x.h.2 l):=by unfold vu;rw[List.flatMap_map]
 have hA2:(vu l (X.map (·.h))).flatMap (vy a t)=X.flatMap (fun x=>(actL x.h.1 x.h.2 l).flatMap (vy a t)):=by rw[hA,List.flatMap_assoc]
 rw[hA2]at HRef hlen;have HPre:=zb (Yt (fun x:HoX=>(actL x.h.1 x.h.2 l).flatMap (vy a t)) X);have HFt:=zb (kb (fun x:HoX=>(actL x.h.1 x.h.2 l).flatMap (vy a t)) X);have HPr2:=zb (Yt (vy a t));have HFt2:=zb (kb (vy a t));obtain⟨W,hW,r0,r1,hw0,hz0⟩:=yL w (Obj.cells #[.int .i64 a] 3) (Obj.cells #[.int .i64 t] 3);have HX:=zb (hX.below hw0);have Hr:=zb (fun x hx=>(hr x hx).below hw0);have HSp:=zb (fun A=>jm (C:=yH A [] true false) rfl);have Ha:=zb (And.intro ha hb);have Ht:=zb (And.intro h0 h1);have Hw0:=zb hw0;have HW:=zb hW;have R0:=zb r0;have R1:=zb r1;obtain⟨Y,hY⟩:∃Y,Y=W.alloc (Obj.cells #[.slice none 0 0] 85):=⟨_,rfl⟩;have hbY:Below W.heap.size W Y:=by rw[hY];exact(Below.refl _ _).alloc (Nat.le_refl _) _
 have YN:=zb (show Y.heap[W.heap.size]?=some (Obj.cells #[.slice none 0 0] 85) by rw[hY];exact heap_alloc_new _ _);have HbY:=zb hbY;have HPb:=zb (show ky W.heap.size W.heap.size [] Y from⟨none,0,YN.out,World.ownsRow_nil _ _ _ _⟩);have HY:=zb hY;have HCl:=zb (show ∀(p:Int×Int) (L:List (Int×Int)) (w1:World),Below W.heap.size W w1->ky W.heap.size W.heap.size L w1->L.length+(vy a t p).length<=2000->Calls Tryz.prog 90 #[.agg #[.int .i64 p.1,.int .i64 p.2],.pointer (some ⟨w.heap.size+1,0,none⟩),.pointer (some ⟨W.heap.size,0,none⟩),.pointer (some ⟨w.heap.size,0,none⟩)] w1 fun e w'=>e=.returned (.tuple #[])/\ky W.heap.size W.heap.size (L++vy a t p) w'/\Below W.heap.size w1 w' from fun p L w1 hb1 hbx hll=>Uq W.heap.size (w.heap.size+1) W.heap.size w.heap.size a t p L w1 ha hb h0 h1 hb1.size (Nat.le_refl _) (by omega) (by omega) (cell_of_row w1 _ 0 _ _ _ ((hb1.block _ (by omega)).trans r1)) (cell_of_row w1 _ 0 _ _ _ ((hb1.block _ (by omega)).trans r0)) hbx hll);obtain⟨av,cap,rfl,hlc,hcm⟩:=zu hX;unfold maxLen at hcm;clear hX hr hA hA2 hin h0 h1 ha hb hW r0 r1 hw0 hY hbY;generalize vu l (X.map (·.h))=AA at *;go_enter Tryz.func55,Tryz.ntmps55;go_upto_region 1 with(fail);rw[<-HW.out];go_upto_region 2 with(fail);rw[<-HY.out];go_wp2_with fail;go_loopw [19] (fun i wr=>∃(k:Nat) (O:List (Int×Int)),k<=X.length/\i=.int .i64 k/\RowKit.Hid (O=(X.take k).flatMap (fun x=>(actL x.h.1 x.h.2 l).flatMap (vy a t)))/\ky W.heap.size W.heap.size O wr/\Below W.heap.size W wr) (fun i _=>X.length-(intOf i).toNat);case atStart=>exact⟨0,[],Nat.zero_le _,rfl,zb rfl,HPb.out,HbY.out⟩
 case round=>
  obtain⟨wo,rfl⟩:∃wo:World,wo=wr:=⟨_,rfl⟩;obtain⟨k,O,hk,rfl,HO,hbox,hb⟩:=hrel;have Hbox:=zb hbox;have Hb:=zb hb;by_cases hlt:k<X.length
  · have hk1:(k:Int)<(X.length:Int):=by omega
    have hk0:(0:Int)<=(k:Int):=Int.natCast_nonneg _;have HTk:=zb (HFt.out k hlt);have HPk:=zb (HPre.out (k+1));have HAc:=zb ((Hr.out _ (List.getElem_mem hlt)).1);obtain⟨a3,c3,e3,-,-,hx⟩:=HX.out.below hb;cases e3;obtain⟨bb,o,rfl,hB,hx⟩:=hx (by rintro rfl;cases hlt);have hx:=hx k hlt;have x0:wo.cell? ⟨bb,o+k*4,none⟩=some (.int .i64 ac):=hx 0 (by decide);have x1:wo.cell? ⟨bb,o+k*4+1,none⟩=some (.int .i64 (X[k]).h.1):=hx 1 (by decide);have x2:wo.cell? ⟨bb,o+k*4+2,none⟩=some (.string (X[k]).h.2):=hx 2 (by decide);have x3:wo.cell? ⟨bb,o+k*4+3,none⟩=some (.slice (X[k]).pa (X[k]).pn (X[k]).pc):=hx 3 (by decide);clear hx hbox;generalize X[k]=x at *;rw[HTk.out,List.length_append]at HPk;rw[<-HO.out]at HPk;have HRel:=zb (show ∀(Q:List (Int×Int)) (wx:World),Q=O++(actL x.h.1 x.h.2 l).flatMap (vy a t)->ky W.heap.size W.heap.size Q wx->Below W.heap.size W wx->∃(k':Nat) (O:List (Int×Int)),k'<=X.length/\Value.int .i64 ((k:Int)+1)=.int .i64 k'/\RowKit.Hid (O=(X.take k').flatMap (fun x=>(actL x.h.1 x.h.2 l).flatMap (vy a t)))/\ky W.heap.size W.heap.size O wx/\Below W.heap.size W wx from fun Q wx h1 h2 h3=>⟨k+1,Q,hlt,by go_num,zb (by rw[HTk.out,<-HO.out];exact h1),h2,h3⟩);generalize actL x.h.1 x.h.2 l=A at *;obtain⟨aA,cA,eA,hA1,hA2⟩:=ul HAc.out;simp only[Value.slice.injEq]at eA;obtain⟨eA1,eA2,eA3⟩:=eA;rw[eA1,eA2,eA3]at x3;have HAc:=zb (show yf W (.slice aA A.length cA) A by
     have h:=HAc.out;rwa[eA1,eA2,eA3]at h);unfold maxLen at hA2;clear eA1 eA2 eA3;obtain⟨U,hU⟩:∃U,U=wo.alloc (Obj.cells #[.int .i64 ac,.int .i64 x.h.1,.string x.h.2,.slice aA A.length cA] 118):=⟨_,rfl⟩;have hbU:Below wo.heap.size wo U:=by rw[hU];exact(Below.refl _ _).alloc (Nat.le_refl _) _
    have UN:=zb (show U.heap[wo.heap.size]?=some (Obj.cells #[.int .i64 ac,.int .i64 x.h.1,.string x.h.2,.slice aA A.length cA] 118) by rw[hU];exact heap_alloc_new _ _);have HbU:=zb (hb.trans (hbU.mono hb.size));have HboxU:=zb (Hbox.out.below hbU);have HU:=zb hU;have u3:=cell_of_row U _ 3 _ _ _ UN.out;have HP2:=zb (HPr2.out A);have HF2:=zb (HFt2.out A);clear hU hbU hb;go_upto_region 6 with(fail);rw[<-HU.out];go_wp2_with fail;clear x0 x1 x2 x3 u3;go_loopw [26] (fun i wr=>∃(j:Nat) (Q:List (Int×Int)),j<=A.length/\i=.int .i64 j/\RowKit.Hid (Q=O++(A.take j).flatMap (vy a t))/\ky W.heap.size W.heap.size Q wr/\Below W.heap.size W wr) (fun i _=>A.length-(intOf i).toNat);case atStart=>exact⟨0,O,Nat.zero_le _,rfl,zb (by simp),HboxU.out,HbU.out⟩
    case round=>
     obtain⟨wi,rfl⟩:∃wi:World,wi=wr:=⟨_,rfl⟩;obtain⟨j,Q,hj,rfl,HQ,hbox,hb⟩:=hrel;have HboxI:=zb hbox;have HbI:=zb hb;by_cases hjt:j<A.length
     · have hj1:(j:Int)<(A.length:Int):=by omega
       have hj0:(0:Int)<=(j:Int):=Int.natCast_nonneg _;have HTj:=zb (HF2.out j hjt);have hql:Q.length+(vy a t A[j]).length<=2000:=by have h1:=HP2.out (j+1);rw[HTj.out,List.length_append]at h1;have h2:=congrArg List.length HQ.out;rw[List.length_append]at h2;have:=HPk.out;omega
       obtain⟨a4,c4,e4,-,-,hx⟩:=HAc.out.below hb;cases e4;obtain⟨b2,o2,rfl,hB2,hx⟩:=hx (by rintro rfl;cases hjt);obtain⟨y0,y1⟩:=hx j hjt;clear hx hbox;generalize A[j]=p at *;obtain⟨Z,hZ⟩:∃Z,Z=wi.alloc (Obj.cells #[.int .i64 p.1,.int .i64 p.2] 25):=⟨_,rfl⟩;have hbZ:Below wi.heap.size wi Z:=by rw[hZ];exact(Below.refl _ _).alloc (Nat.le_refl _) _
       have ZN:=zb (show Z.heap[wi.heap.size]?=some (Obj.cells #[.int .i64 p.1,.int .i64 p.2] 25) by rw[hZ];exact heap_alloc_new _ _);have HbZ:=zb (hb.trans (hbZ.mono hb.size));have HCa:=zb (HCl.out p Q Z HbZ.out (HboxI.out.below hbZ) hql);have HZ:=zb hZ;have z0:=cell_of_row Z _ 0 _ _ _ ZN.out;have z1:=cell_of_row Z _ 1 _ _ _ ZN.out;clear hZ hbZ hb hql;go_upto_region 9 with(fail);rw[<-HZ.out];go_wp2_with fail;refine HCa.out.mono ?_;rintro e w5 ⟨rfl,hbx5,hb5⟩;have Hbx5:=zb hbx5;have Hb5:=zb (HbZ.out.trans hb5);have HQ5:=zb (show Q++vy a t p=O++(A.take (j+1)).flatMap (vy a t) by rw[HTj.out,HQ.out,List.append_assoc]);clear hbx5 hb5 y0 y1 z0 z1;go_wp2;exact⟨⟨j+1,_,by omega,by go_num,HQ5,Hbx5.out,Hb5.out⟩,by simp[intOf];omega⟩
     have HF:=zb (HRel.out Q wi (by rw[HQ.out,List.take_of_length_le (by omega)]) hbox hb);clear hbox hb;go_wp2;exact⟨HF.out,by simp[intOf];omega⟩
  have HE:=zb (show O=X.flatMap (fun x=>(actL x.h.1 x.h.2 l).flatMap (vy a t)) by rw[HO.out,List.take_of_length_le (by omega)]);have HRef:=zb (show vH a AA t ((yH O [] true false).flatMap (vd a)) by rw[HE.out];exact HRef.out);obtain⟨aa,ca,hrow,hown⟩:=hbox.ex;have c0:=cell_of_row wo _ 0 _ _ _ hrow;have hOl:O.length<=2000:=by rw[HE.out];omega
  have HC1:=zb (Xs _ O wo (yf.own hown) hOl);have HSp1:=zb (HSp.out O);generalize yH O [] true false=C at *;have HB1:=zb (Wt HRef.out);have R00:=zb ((hb.block _ (by omega)).trans R0.out);clear hrow hown hb hbox;go_wp2_with fail;refine HC1.out.mono ?_;rintro e w3 ⟨vC,rfl,hpC,hb3⟩;obtain⟨aC,cC,rfl,hC1,hC2⟩:=ul hpC;unfold maxLen at hC2;have HpC:=zb hpC;have Hb3:=zb (Hb.out.trans (hb3.mono Hb.out.size));have R03:=zb ((hb3.block _ (zw R00.out)).trans R00.out);have HFc:=zb (kb (vd a) C);have HPc:=zb (Yt (vd a) C);have HCy:=zb (show ∀p,p∈C->∀W,Calls Tryz.prog 92 #[.int .i64 a,.agg #[.int .i64 p.1,.int .i64 p.2]] W (Za W (vd a p))from fun p hp W=>by
   obtain⟨s0,s1,s2⟩:=HSp1.out p hp;exact K5 a p.1 p.2 _ _ W Ha.out.1 Ha.out.2 ((zx _ _).2 ⟨s0,s1,s2⟩) (ja s0 (by omega)) (ja (by omega) (by omega)));clear hpC hb3 c0 HSp1 HC1;go_wp2_with fail;go_loopw [13,38] (fun vo i wr=>∃(k:Nat) (Q:List (Int×Int)),k<=C.length/\i=.int .i64 k/\RowKit.Hid (Q=(C.take k).flatMap (vd a))/\wr.ownsRow w3.heap.size 25 2 vo Q.length (Q.flatMap zl)/\Below w3.heap.size w3 wr) (fun _ i _=>C.length-(intOf i).toNat);case atStart=>exact⟨0,[],Nat.zero_le _,rfl,zb rfl,World.ownsRow_nil _ _ _ _,Below.refl _ _⟩
  case round=>
   obtain⟨wq,rfl⟩:∃wq:World,wq=wr:=⟨_,rfl⟩;obtain⟨i,Q,hi,rfl,HQ,hown,hb⟩:=hrel;obtain⟨aq,cq,rfl,hc1,hc2⟩:=zf hown;unfold maxLen at hc2;have Hown0:=zb hown;have Hb0:=zb hb;by_cases hit:i<C.length
   · have hi1:(i:Int)<(C.length:Int):=by omega
     have hi0:(0:Int)<=(i:Int):=Int.natCast_nonneg _;have HTi:=zb (HFc.out i hit);have hql:Q.length+(vd a C[i]).length<=4801:=by have h1:=HPc.out (i+1);rw[HTi.out,List.length_append,<-HQ.out]at h1;exact Nat.le_trans h1 HB1.out
     have HCp:=zb (HCy.out C[i] (List.getElem_mem hit));obtain⟨a3,c3,e3,-,-,hx⟩:=HpC.out.below hb;cases e3;obtain⟨bb,o,rfl,hB,hx⟩:=hx (by rintro rfl;cases hit);obtain⟨x0,x1⟩:=hx i hit;have R0q:=zb ((hb.block _ (zw R03.out)).trans R03.out);clear hx hown;generalize C[i]=p at *;generalize vd a p=Lq at *;obtain⟨Z,hZ⟩:∃Z,Z=wq.alloc (Obj.cells #[.int .i64 p.1,.int .i64 p.2] 25):=⟨_,rfl⟩;have hbZ:Below wq.heap.size wq Z:=by rw[hZ];exact(Below.refl _ _).alloc (Nat.le_refl _) _
     have ZN:=zb (show Z.heap[wq.heap.size]?=some (Obj.cells #[.int .i64 p.1,.int .i64 p.2] 25) by rw[hZ];exact heap_alloc_new _ _);have HbZ:=zb (hb.trans (hbZ.mono hb.size));have HownZ:=zb (ze Hown0.out hbZ);have HZ:=zb hZ;have z0:=cell_of_row Z _ 0 _ _ _ ZN.out;have z1:=cell_of_row Z _ 1 _ _ _ ZN.out;have n0:=cell_of_row Z _ 0 _ _ _ ((hbZ.block _ (zw R0q.out)).trans R0q.out);clear hZ hbZ hb;go_upto_region 16 with(fail);rw[<-HZ.out];go_wp2_with fail;refine(HCp.out Z).mono ?_;rintro e w5 ⟨vL,rfl,hpL,hb5⟩;have HRX:=zb (Vn hpL);have HownU:=zb (ze HownZ.out hb5);have Hb5:=zb (HbZ.out.trans (hb5.mono HbZ.out.size));have hbs:=Hb5.out.size;clear hpL hb5 x0 x1 z0 z1 n0;go_wp2_with (at_builtin;refine Y6 rfl _ _ rfl w3.heap.size hbs _ _ Q Lq rfl rfl HownU.out HRX.out (by omega) ?_);intro R hR v7 w7 own7 hg7;have HRe:=zb (show R=(C.take (i+1)).flatMap (vd a) by rw[hR.out,HTi.out,<-HQ.out]);have Own7:=zb own7;have Hb7:=zb (Hb5.out.grown hg7 hbs (fun g hg=>(zg HownU.out g hg).1));clear own7 hg7 hR hbs;go_wp2;exact⟨⟨i+1,R,by omega,by go_num,HRe,Own7.out,Hb7.out⟩,by simp[intOf];omega⟩
   have HE:=zb (show Q=C.flatMap (vd a) by rw[HQ.out,List.take_of_length_le (by omega)]);have HbF:=zb (Hw0.out.trans ((Hb3.out.trans (hb.mono Hb3.out.size)).mono Hw0.out.size));clear hown hb;go_wp2;go_ret;exact⟨Q,by rw[HE.out];exact HRef.out,_,rfl,yf.own Hown0.out,HbF.out⟩
theorem Zm {l:List Ev} {P:List Pd} {b w c:Nat} {t:Int} (h:¬(l.length<=40/\P.length<=8/\b<=60/\w<=40/\c<=40/\(∀p∈P,p.bs.length<=4))):fewB l P b w c t=false:=by
 cases hq:fewB l P b w c t with
 |false=>rfl
 |true=>obtain⟨h1,h2,h3,h4,h5,h6,-⟩:=VR hq;exact absurd ⟨h1,h2,h3,h4,h5,h6⟩ h
theorem Ei {l:List Ev} {P:List Pd} {b w c:Nat} {t:Int} (h:l.length<=40/\P.length<=8/\b<=60/\w<=40/\c<=40/\(∀p∈P,p.bs.length<=4)):fewB l P b w c t=(decide (l.length=0)||decide (t<69120000)||decide (t-69120000<(l.getD 0 default).tm)):=by obtain⟨h1,h2,h3,h4,h5,h6⟩:=h;unfold fewB;rw[decide_eq_true h1,decide_eq_true h2,decide_eq_true h3,decide_eq_true h4,decide_eq_true h5,List.all_eq_true.2 (fun p hp=>decide_eq_true (h6 p hp))];simp
theorem Xm (ve vp:Value) (ba wa ca:Option Addr) (bn wn cn bc wc cc:Nat) (l:List Ev) (P:List Pd) (t:Int) (w:World) (he:vQ w ve l) (hp:qG w vp P) (hbn:bn<=maxLen) (hwn:wn<=maxLen) (hcn:cn<=maxLen) (ht1:-9223372036854775808<=t) (ht2:t<=9223372036854775807):
 Calls Tryz.prog 36 #[ve,vp,.agg #[.slice ba bn bc,.slice wa wn wc,.slice ca cn cc],.int .i64 t] w fun e w'=>e=.returned (.bool (fewB l P bn wn cn t))/\Below w.heap.size w w':=by
 unfold maxLen at hbn hwn hcn;obtain⟨W,hW⟩:∃W,W=w.alloc (Obj.cells #[.slice ba bn bc,.slice wa wn wc,.slice ca cn cc] 45):=⟨_,rfl⟩;have hw0:Below w.heap.size w W:=by rw[hW];exact(Below.refl _ _).alloc (Nat.le_refl _) _
 have rW:W.heap[w.heap.size]?=some (Obj.cells #[.slice ba bn bc,.slice wa wn wc,.slice ca cn cc] 45):=by rw[hW];exact heap_alloc_new _ _
 have s0:=cell_of_row W _ 0 _ _ _ rW;have s1:=cell_of_row W _ 1 _ _ _ rW;have s2:=cell_of_row W _ 2 _ _ _ rW;have HW:=zb hW;have Hw0:=zb hw0;have HE:=zb (he.below hw0);have HP:=zb (hp.below hw0);obtain⟨av,cap,rfl,hlc,hcm⟩:=zu he.1;obtain⟨pav,pcap,rfl,hpc,hpm,-⟩:=hp;have hpm:=hpm.1;unfold maxLen at hcm hpm;clear hW hw0 rW he;by_cases e1:40<l.length
 · have qe1:(40:Int)<(l.length:Int):=by omega
   have HN:=zb (show fewB l P bn wn cn t=false from Zm (fun h=>by omega));go_enter Tryz.func36,Tryz.ntmps36;go_upto_region 1 with(fail);rw[<-HW.out];go_wp2;go_ret;exact⟨zo HN.out.symm,Hw0.out⟩
 have qe1:¬(40:Int)<(l.length:Int):=by omega
 by_cases e2:8<P.length
 · have qe2:(8:Int)<(P.length:Int):=by omega
   have HN:=zb (show fewB l P bn wn cn t=false from Zm (fun h=>by omega));go_enter Tryz.func36,Tryz.ntmps36;go_upto_region 1 with(fail);rw[<-HW.out];go_wp2;go_ret;exact⟨zo HN.out.symm,Hw0.out⟩
 have qe2:¬(8:Int)<(P.length:Int):=by omega
 by_cases e3:60<bn
 · have qe3:(60:Int)<(bn:Int):=by omega
   have HN:=zb (show fewB l P bn wn cn t=false from Zm (fun h=>by omega));go_enter Tryz.func36,Tryz.ntmps36;go_upto_region 1 with(fail);rw[<-HW.out];go_wp2;go_ret;exact⟨zo HN.out.symm,Hw0.out⟩
 have qe3:¬(60:Int)<(bn:Int):=by omega
 by_cases e4:40<wn
 · have qe4:(40:Int)<(wn:Int):=by omega
   have HN:=zb (show fewB l P bn wn cn t=false from Zm (fun h=>by omega));go_enter Tryz.func36,Tryz.ntmps36;go_upto_region 1 with(fail);rw[<-HW.out];go_wp2;go_ret;exact⟨zo HN.out.symm,Hw0.out⟩
 have qe4:¬(40:Int)<(wn:Int):=by omega
 by_cases e5:40<cn
 · have qe5:(40:Int)<(cn:Int):=by omega
   have HN:=zb (show fewB l P bn wn cn t=false from Zm (fun h=>by omega));go_enter Tryz.func36,Tryz.ntmps36;go_upto_region 1 with(fail);rw[<-HW.out];go_wp2;go_ret;exact⟨zo HN.out.symm,Hw0.out⟩
 have qe5:¬(40:Int)<(cn:Int):=by omega
 go_enter Tryz.func36,Tryz.ntmps36;go_upto_region 1 with(fail);rw[<-HW.out];go_wp2_with fail;go_loop [9] (fun i=>∃k:Nat,k<=P.length/\i=.int .i64 k/\RowKit.Hid (∀j (hj:j<P.length),j<k->(P[j]).bs.length<=4)) (fun i=>P.length-(intOf i).toNat);case atStart=>exact⟨0,Nat.zero_le _,rfl,zb (fun j _ h=>by omega)⟩
 case round=>
  obtain⟨k,hk,rfl,Hn⟩:=hrel;by_cases hlt:k<P.length
  · have hk1:(k:Int)<(P.length:Int):=by omega
    have hk0:(0:Int)<=(k:Int):=Int.natCast_nonneg _;obtain⟨av2,cap2,ee,-,-,hx⟩:=HP.out;cases ee;obtain⟨b1,o1,rfl,hB1,hx⟩:=hx (by rintro rfl;cases hlt);obtain⟨-,-,-,-,-,bv,u5,hbv⟩:=hx k hlt;obtain⟨ab,cb,rfl,hb1,hb2,-⟩:=hbv;have hb2:=hb2.1;unfold maxLen at hb2;have HNx:=zb (show(P[k]).bs.length<=4->∀j (hj:j<P.length),j<k+1->(P[j]).bs.length<=4 from fun h j hj hjk=>by
     by_cases e:j=k;· subst e;exact h
     exact Hn.out j hj (by omega));have HBad:=zb (show ¬(P[k]).bs.length<=4->fewB l P bn wn cn t=false from fun h=>Zm (fun hh=>h (hh.2.2.2.2.2 _ (List.getElem_mem hlt))));clear hx;generalize (P[k]).bs.length=m at *;by_cases hm:m<=4
    · have HE2:=zb (HNx.out hm)
      have hm2:¬(4:Int)<(m:Int):=by omega
      clear hm;go_wp2;exact⟨⟨k+1,by omega,by go_num,HE2⟩,by simp[intOf];omega⟩
    have HE2:=zb (HBad.out hm);have hm2:(4:Int)<(m:Int):=by omega
    clear hm;go_wp2;go_ret;exact⟨zo HE2.out.symm,Hw0.out⟩
  have HF:=zb (show fewB l P bn wn cn t=(decide (l.length=0)||decide (t<69120000)||decide (t-69120000<(l.getD 0 default).tm))from Ei ⟨by omega,by omega,by omega,by omega,by omega,fun p hp=>by
   obtain⟨j,hj,rfl⟩:=List.mem_iff_getElem.1 hp;exact Hn.out j hj (by omega)⟩);by_cases h0:l.length=0
  · have hz:((l.length:Int)==0)=true:=beq_iff_eq.2 (by omega)
    have HR:=zb (show(decide (l.length=0)||decide (t<69120000)||decide (t-69120000<(l.getD 0 default).tm))=true by rw[decide_eq_true h0];rfl);clear h0;go_wp2;go_ret;exact⟨zo (by rw[HF.out,HR.out]),Hw0.out⟩
  have hz:((l.length:Int)==0)=false:=beq_eq_false_iff_ne.2 (by omega);have hlp:(0:Int)<(l.length:Int):=by omega
  have hln:0<l.length:=by omega
  by_cases htl:t<69120000
  · have HR:=zb (show(decide (l.length=0)||decide (t<69120000)||decide (t-69120000<(l.getD 0 default).tm))=true by rw[decide_eq_true htl];simp)
    go_wp2;go_ret;exact⟨zo (by rw[HF.out,HR.out]),Hw0.out⟩
  obtain⟨av2,cap2,ee,-,-,hx⟩:=HE.out.1;cases ee;obtain⟨b1,o1,rfl,hB1,hx⟩:=hx (by rintro rfl;simp at hln);have x0:W.cell? ⟨b1,o1,none⟩=some (.int .i64 (l.getD 0 default).tm):=by have h:=hx 0 hln 0 (by decide);simp only[Nat.zero_mul,Nat.add_zero]at h;rw[h];simp[jL,List.getD,hln]
  have HR:=zb (show(decide (l.length=0)||decide (t<69120000)||decide (t-69120000<(l.getD 0 default).tm))=decide (t-69120000<(l.getD 0 default).tm) by rw[decide_eq_false h0,decide_eq_false htl];rfl);clear hx h0;generalize (l.getD 0 default).tm=t0 at *;go_wp2;go_ret;exact⟨zo (by rw[HF.out,HR.out]),Hw0.out⟩
theorem Qm:∀(P:List Pd) (q:Option Pd),qo q P=0->∀p∈P,vR p=0
 | [],_,_=>fun p hp=>by cases hp
 |a::r,q,h=>by
   unfold qo at h;by_cases hc:vR a≠0;· rw[if_pos hc]at h;exact absurd h hc
   rw[if_neg hc]at h;have key:∀c:Bool,(if c=true then (9:Int) else qo (some a) r)=0->qo (some a) r=0:=fun c hh=>by
    cases c;· simpa using hh
    cases hh
   have h2:=key _ h;intro p hp;rcases List.mem_cons.1 hp with rfl|hp;· exact Decidable.not_not.1 hc
   exact Qm r _ h2 p hp
theorem YA:∀(B:List Bd),qq B=0->∀b∈B,qh b=0
 | [],_=>fun p hp=>by cases hp
 |a::r,h=>by
   unfold qq at h;split at h;· rename_i hc;exact absurd h hc
   rename_i hc;intro p hp;rcases List.mem_cons.1 hp with rfl|hp;· exact Decidable.not_not.1 hc
   exact YA r h p hp
structure PdOk (p:Pd):Prop where
 nm:vj p.nm=true
 fm:0<=p.fm/\p.fm<12622780800
 fe:0<=p.fe/\p.fe<=1125899906842624
 ct:vj p.ct=true
 bs:∀b∈p.bs,1<=b.kd/\b.kd<=4/\b.ok/\b.zs.length<=64/\b.zs.all vj=true
theorem E0 {p:Pd} (h:vR p=0):PdOk p:=by
 unfold vR at h;split at h;· cases h
 rename_i h1;split at h;· cases h
 rename_i h2;split at h;· cases h
 rename_i h3;split at h;· cases h
 rename_i h4;split at h;· cases h
 refine⟨by simpa using h1,by omega,by omega,by simpa using h4,fun b hb=>?_⟩;have hE:=YA _ h b hb;unfold qh at hE;split at hE;· cases hE
 rename_i k1;split at hE;· rename_i k2;exact absurd hE k2
 rename_i k2;split at hE;· cases hE
 rename_i k3;have hz:q8 b.zs=0:=Decidable.not_not.1 k2;unfold q8 at hz;split at hz;· cases hz
 rename_i z1;split at hz;· cases hz
 rename_i z2;exact⟨by omega,by omega,Decidable.not_not.1 k3,by omega,by simpa using z2⟩
theorem Ep {P:List Pd} (h:vP P=0):P.length<=4096/\∀p∈P,PdOk p:=by
 unfold vP at h;split at h;· cases h
 exact⟨by omega,fun p hp=>E0 (Qm P none h p hp)⟩
structure Jk (l:List Ev) (P:List Pd):Prop where
 le:l.length<=40
 lp:P.length<=8
 r:yB l
 f:FewP P
 b:∀p∈P,p.bs.length<=4
 ok:∀p∈P,PdOk p
theorem z2c {l:List Ev} {P:List Pd} {b w c:Nat} {t:Int} (h:fewB l P b w c t=true) (hr:yB l) (hc:vP P=0):Jk l P:=by obtain⟨h1,h2,-,-,-,h6,-⟩:=VR h;obtain⟨c1,c2⟩:=Ep hc;exact⟨h1,h2,hr,⟨c1,fun p hp=>⟨by have:=h6 p hp;omega,fun b hb=>by have:=(c2 p hp).bs b hb;omega⟩⟩,h6,c2⟩
def TruTo (P:Prop) (w:World) (e:Ending) (w':World):Prop:=(∃b,e=.returned (.bool b)/\(b=true->P))/\Below w.heap.size w w'
structure xx (l:List Ev) (P:List Pd) (bn wn cn:Nat) (t:Int):Prop where
 c:Jk l P
 bl:bn<=60
 wl:wn<=40
 cl:cn<=40
 near:ZC l t
theorem z3c {l:List Ev} {P:List Pd} {b w c:Nat} {t:Int} (h:fewB l P b w c t=true) (hr:yB l) (hc:vP P=0):xx l P b w c t:=by
 have h0:=z2c h hr hc;obtain⟨-,-,h3,h4,h5,-,h7⟩:=VR h;refine⟨h0,h3,h4,h5,?_⟩;rcases h7 with h7|h7|h7;· exact Or.inl (List.length_eq_zero_iff.1 h7)
 · exact Or.inr (Or.inl h7)
 refine Or.inr (Or.inr fun hl=>?_);rwa[List.getD_eq_getElem?_getD,List.getElem?_eq_getElem hl,Option.getD_some]at h7
theorem Jo (ea pa ba wa ca:Option Addr) (en pn bn wn cn ec pc bc wc cc:Nat) (ac t:Int) (l:List Ev) (P:List Pd) (w:World) (he:vQ w (.slice ea en ec) l) (hp:qG w (.slice pa pn pc) P) (hbn:bn<=maxLen) (hwn:wn<=maxLen) (hcn:cn<=maxLen) (ht1:-9223372036854775808<=t) (ht2:t<=9223372036854775807):
 Calls Tryz.prog 18 #[.agg #[.slice ea en ec,.slice pa pn pc,.slice ba bn bc,.slice wa wn wc,.slice ca cn cc,.int .i64 ac],.int .i64 t] w (TruTo (xx l P bn wn cn t) w):=by
 obtain⟨W,hW⟩:∃W,W=w.alloc (Obj.cells #[.slice ea en ec,.slice pa pn pc,.slice ba bn bc,.slice wa wn wc,.slice ca cn cc,.int .i64 ac] 47):=⟨_,rfl⟩;have hw0:Below w.heap.size w W:=by rw[hW];exact(Below.refl _ _).alloc (Nat.le_refl _) _
 have rW:W.heap[w.heap.size]?=some (Obj.cells #[.slice ea en ec,.slice pa pn pc,.slice ba bn bc,.slice wa wn wc,.slice ca cn cc,.int .i64 ac] 47):=by rw[hW];exact heap_alloc_new _ _
 have hzW:w.heap.size<W.heap.size:=(zw rW);have HM:=zb (show ∀w',Below W.heap.size W w'->w'.cell? ⟨w.heap.size,0,none⟩=some (.slice ea en ec)/\w'.cell? ⟨w.heap.size,1,none⟩=some (.slice pa pn pc)/\w'.cell? ⟨w.heap.size,2,none⟩=some (.slice ba bn bc)/\w'.cell? ⟨w.heap.size,3,none⟩=some (.slice wa wn wc)/\w'.cell? ⟨w.heap.size,4,none⟩=some (.slice ca cn cc)/\w'.cell? ⟨w.heap.size,5,none⟩=some (.int .i64 ac)from fun w' hb=>by
  have q:=(hb.block _ hzW).trans rW;exact⟨cell_of_row w' _ 0 _ _ _ q,cell_of_row w' _ 1 _ _ _ q,cell_of_row w' _ 2 _ _ _ q,cell_of_row w' _ 3 _ _ _ q,cell_of_row w' _ 4 _ _ _ q,cell_of_row w' _ 5 _ _ _ q⟩);have HW:=zb hW;have Hw0:=zb hw0;have HE:=zb (he.below hw0);have HP:=zb (hp.below hw0);have HFw:=zb (Xm _ _ ba wa ca bn wn cn bc wc cc l P t W (he.below hw0) (hp.below hw0) hbn hwn hcn ht1 ht2);obtain⟨m0,m1,m2,m3,m4,m5⟩:=HM.out W (Below.refl _ _);clear hW rW hw0 he hp;go_enter Tryz.func18,Tryz.ntmps18;go_upto_region 1 with(fail);rw[<-HW.out];go_wp2_with fail;refine HFw.out.mono ?_;rintro e w1 ⟨rfl,hb1⟩;have HbW:=zb hb1;have Hb1:=zb (Hw0.out.trans (hb1.mono Hw0.out.size));clear m0 m1 m2 m3 m4 m5;obtain⟨m0,m1,m2,m3,m4,m5⟩:=HM.out w1 hb1;clear hb1;cases hfw:fewB l P bn wn cn t with
 |false=>clear hfw m0 m1 m2 m3 m4 m5;go_wp2;go_ret;exact⟨⟨false,rfl,fun h=>by cases h⟩,Hb1.out⟩
 |true=>
   have Hfw:=zb hfw;have HCk:=zb (JP _ l w1 (HE.out.below HbW.out) (by have:=(VR hfw).1;omega));clear hfw;go_wp2_with fail;refine HCk.out.mono ?_;rintro e w2 ⟨p0,r0,rfl,hr0,hb2⟩;have Hb2W:=zb (HbW.out.trans (hb2.mono HbW.out.size));have Hb2:=zb (Hb1.out.trans (hb2.mono Hb1.out.size));have Hr0:=zb hr0;clear m0 m1 m2 m3 m4 m5 hb2 hr0;by_cases hrz:r0=0
   · have HOk:=zb (Hr0.out hrz)
     subst hrz;obtain⟨m0,m1,m2,m3,m4,m5⟩:=HM.out w2 Hb2W.out;have HPc:=zb (Ju _ P w2 (HP.out.below Hb2W.out));go_wp2_with fail;refine HPc.out.mono ?_;rintro e w3 ⟨rfl,hb3⟩;have Hb3:=zb (Hb2.out.trans (hb3.mono Hb2.out.size));clear m0 m1 m2 m3 m4 m5 hb3;by_cases hcz:vP P=0
     · have HC:=zb (z3c Hfw.out HOk.out hcz)
       have hc1:(vP P==0)=true:=beq_iff_eq.2 hcz;clear hcz;generalize vP P=cE at *;go_wp2;go_ret;exact⟨⟨_,rfl,fun _=>HC.out⟩,Hb3.out⟩
     have hc1:(vP P==0)=false:=beq_eq_false_iff_ne.2 hcz;clear hcz;generalize vP P=cE at *;go_wp2;go_ret;exact⟨⟨false,rfl,fun h=>by cases h⟩,Hb3.out⟩
   have hr1:(r0==0)=false:=beq_eq_false_iff_ne.2 hrz;clear hrz;go_wp2;go_ret;exact⟨⟨false,rfl,fun h=>by cases h⟩,Hb2.out⟩
end Go.Proofs.YtngippiilgdnoaaGreat
