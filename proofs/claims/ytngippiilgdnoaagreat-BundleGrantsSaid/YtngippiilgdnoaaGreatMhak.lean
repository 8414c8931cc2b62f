/-
  The walk of the reference's Days.
-/
import Derived.Test.YtngippiilgdnoaaGreatMhaj
import Derived.Laws.OwnMore
set_option maxRecDepth 100000
set_option maxHeartbeats 25600000
namespace Go.Proofs.YtngippiilgdnoaaGreat
open Go.RowKit
theorem Tryz.perInfo:(Tryz.prog.info? 25).map (fun i=>(i.zero,i.size,i.bytes))=some (some (.agg #[.int .i64 0,.int .i64 0]),2,16):=by kernel_rfl
def selB (a b:List (Int×Int)) (ig inb:Bool) (x:Int):Bool:=inL a x&&(ig||(inL b x==inb))
def vm (O:List (Int×Int)) (x y:Int):List (Int×Int):=
 match O.getLast? with
 |some q=>if q.2=x then O.dropLast++[(q.1,y)] else O++[(x,y)]
 |none=>[(x,y)]
def yL (l:List Int) (sel:Int->Bool):Nat->List (Int×Int)
 |0=>[]
 |k+1=>if sel (l.getD k 0)=true then vm (yL l sel k) (l.getD k 0) (l.getD (k+1) 0) else yL l sel k
def vh (a b:List (Int×Int)) (ig inb:Bool):List (Int×Int):=
 yL (zB (zB [] a) b) (selB a b ig inb) ((zB (zB [] a) b).length-1)
theorem qX (x y:Int):vm [] x y=[(x,y)]:=rfl
theorem q8 (M:List (Int×Int)) (q:Int×Int) (x y:Int) (h:q.2=x):vm (M++[q]) x y=M++[(q.1,y)]:=by unfold vm;rw[List.getLast?_concat,List.dropLast_concat];exact if_pos h
theorem q7 (M:List (Int×Int)) (q:Int×Int) (x y:Int) (h:q.2≠x):vm (M++[q]) x y=M++[q]++[(x,y)]:=by unfold vm;rw[List.getLast?_concat];exact if_neg h
theorem Qx (O:List (Int×Int)) (x y:Int):(vm O x y).length<=O.length+1:=by
 by_cases h:O=[];· subst h;simp[qX]
 obtain⟨M,z,rfl⟩:∃M z,O=M++[z]:=⟨_,_,(List.dropLast_concat_getLast h).symm⟩;by_cases hz:z.2=x;· rw[q8 M z x y hz];simp
 rw[q7 M z x y hz];simp
theorem Xw (l:List Int) (sel:Int->Bool) (k:Nat):(yL l sel k).length<=k:=by
 induction k with
 |zero=>exact Nat.le_refl _
 |succ k ih=>
   rw[yL];split;· have:=Qx (yL l sel k) (l.getD k 0) (l.getD (k+1) 0);omega
   omega
theorem uB (M:List (Int×Int)) (q1 q2 y:Int):((M++[(q1,q2)]).flatMap zh).set (M.length*2+1) (.int .i64 y)=(M++[(q1,y)]).flatMap zh:=by
 rw[List.flatMap_append,List.flatMap_append,List.set_append_right _ _ (by rw[zN zh 2 (fun _=>rfl)];omega),zN zh 2 (fun _=>rfl)]
 congr 1
 rw[Nat.add_sub_cancel_left];rfl
theorem k9 (l:List Int) (i:Nat) (d:Int) (h:i<l.length):l.getD i d=l[i]:=by simp[List.getD,h]
theorem zH {B:Nat} {a w:World} (h:Below B a w) (n:Nat):Below B a (w.drewN n):=⟨h.os,h.tape,h.output,h.size,h.block⟩
def jF (w:World) (N:List (Int×Int)) (e:Ending) (w':World):Prop:=∃v,e=.returned v/\yd w' v N/\Below w.heap.size w w'
theorem Kv (va vb:Value) (a b:List (Int×Int)) (ig inb:Bool) (w:World) (ha:yd w va a) (hb0:yd w vb b) (hn:a.length+b.length<=2000):
 Calls Tryz.prog 104 #[va,vb,.bool ig,.bool inb] w (jF w (vh a b ig inb)):=by
 have H1:=zb (ZX (.slice none 0 0) va [] a w (zz.nil w) ha (by simp;omega));have hl1:=Zu [] a;rw[List.length_nil,Nat.zero_add]at hl1;have H2:=zb (fun v1 w1 (h1:uh w1 v1 (zB [] a)) (hb:Below w.heap.size w w1)=>ZX v1 vb (zB [] a) b w1 h1 (hb0.below hb) (by omega));have hl2:=Zu (zB [] a) b;have HA:=zb (fun x w1 (hb:Below w.heap.size w w1)=>Uh va a x w1 (ha.below hb));have HB:=zb (fun x w1 (hb:Below w.heap.size w w1)=>Uh vb b x w1 (hb0.below hb));have HC:=zb (show vh a b ig inb=yL (zB (zB [] a) b) (selB a b ig inb) ((zB (zB [] a) b).length-1)from rfl);obtain⟨aa,ca,rfl,-,-,-⟩:=ha;obtain⟨ab,cb,rfl,-,-,-⟩:=hb0;go_enter Tryz.func104,Tryz.ntmps104;go_wp2_with fail;refine H1.out.mono ?_;rintro e w1 ⟨v1,rfl,hi1,hb1⟩;go_wp2_with fail;refine(H2.out v1 w1 hi1 hb1).mono ?_;rintro e w2 ⟨v2,rfl,hi2,hbx⟩;have hb2:=hb1.trans (hbx.mono hb1.size);clear hi1 hb1 hbx H1 H2;generalize zB (zB [] a) b=l at *;have HI:=zb hi2;obtain⟨al,cl,rfl,hlc,hcl,-⟩:=hi2;have hl3:l.length<=5000:=by omega
 clear hl1 hl2 hcl;have hz0:=hb2.size;go_wp2_with fail;go_loopw [10,11] (fun v i wr=>∃k:Nat,k<=l.length-1/\i=.int .i64 k/\wr.ownsRow w2.heap.size 25 2 v (yL l (selB a b ig inb) k).length ((yL l (selB a b ig inb) k).flatMap zh)/\Below w2.heap.size w2 wr) (fun _ i _=>l.length-(intOf i).toNat);case atStart=>exact⟨0,Nat.zero_le _,rfl,⟨rfl,Or.inl ⟨rfl,rfl⟩⟩,Below.refl _ _⟩
 case round=>
  obtain⟨k,hk,rfl,hown,hb⟩:=hrel;have hle:=Xw l (selB a b ig inb) k;have hbz:=hb.size;have hbw:=hb2.trans (hb.mono hz0);obtain⟨ao,co,rfl,hco,-⟩:=zf hown;have Hown:=zb hown;clear hown;have hkw:IntKind.i64.wrap ((k:Int)+1)=(k:Int)+1:=IntWalk.i64_in _ (by omega);by_cases hlt:k+1<l.length
  · have Hxy:=zb (show ∀w',Below w2.heap.size w2 w'->∃bq oq,al=some ⟨bq,oq,none⟩/\bq<w2.heap.size/\w'.cell? ⟨bq,oq+k,none⟩=some (.int .i64 (l.getD k 0))/\w'.cell? ⟨bq,oq+(k+1),none⟩=some (.int .i64 (l.getD (k+1) 0))from fun w' hw=>by
     obtain⟨av3,cap3,e3,-,-,hy⟩:=HI.out;cases e3;obtain⟨b3,o3,e4,hB3,hy⟩:=hy (by rintro rfl;cases hlt);have h1:=IntC.stays _ _ _ _ _ hw hB3 (hy k (by omega));have h2:=IntC.stays _ _ _ _ _ hw hB3 (hy (k+1) hlt);unfold IntC at h1 h2;rw[Nat.mul_one]at h1 h2;rw[k9 l k 0 (by omega),k9 l (k+1) 0 hlt];exact⟨b3,o3,e4,hB3,h1,h2⟩)
    have hU:yL l (selB a b ig inb) (k+1)=if selB a b ig inb (l.getD k 0)=true then vm (yL l (selB a b ig inb) k) (l.getD k 0) (l.getD (k+1) 0) else yL l (selB a b ig inb) k:=rfl
    generalize l.getD k 0=x at *;generalize l.getD (k+1) 0=y at *;obtain⟨bq,oq,rfl,hBq,c0,c1⟩:=Hxy.out wr hb;have Hcell:=zb (show ∀w',Below w2.heap.size w2 w'->w'.cell? ⟨bq,oq+k,none⟩=some (.int .i64 x)/\w'.cell? ⟨bq,oq+(k+1),none⟩=some (.int .i64 y)from fun w' hw=>by
     obtain⟨b3,o3,e4,-,h1,h2⟩:=Hxy.out w' hw;cases e4;exact⟨h1,h2⟩);have hk0:(0:Int)<=(k:Int):=Int.natCast_nonneg _;have hk1:(k:Int)<(l.length:Int):=by omega
    have hk2:(k:Int)+1<(l.length:Int):=by omega
    have hk3:(0:Int)<=(k:Int)+1:=by omega
    have hk4:((k:Int)+1).toNat=k+1:=by omega
    have hk5:decide ((k:Int)+1<(l.length:Int))=true:=decide_eq_true hk2;have HU:=zb hU;have hsel:selB a b ig inb x=(inL a x&&(ig||(inL b x==inb))):=rfl;have HIa:=zb (HA.out x wr hbw);generalize yL l (selB a b ig inb) k=O at *;clear hU Hxy;cases hA:inL a x with
    |false=>rw[hA]at HIa;have HE:=zb (show yL l (selB a b ig inb) (k+1)=O by rw[HU.out,if_neg (by rw[hsel,hA];simp)]);clear hsel hA;go_wp2_with fail;refine HIa.out.mono ?_;rintro e w3 ⟨rfl,hb3⟩;have hb4:=hb.trans (hb3.mono hbz);go_wp2;exact⟨⟨k+1,by omega,by go_num,by rw[HE.out];exact zd Hown.out hb3,hb4⟩,by simp[intOf];omega⟩
    |true=>
      rw[hA]at HIa;cases ig with
      |true=>
        have HE:=zb (show yL l (selB a b true inb) (k+1)=vm O x y by rw[HU.out,if_pos (by rw[hsel,hA];simp)]);clear hsel hA;have HownV:=zb (fun(w':World) (h:Below wr.heap.size wr w')=>zd Hown.out h);by_cases hO:O=[]
        · subst hO
          have hl0:((0:Nat):Int)=0:=rfl;simp only[List.length_nil]at *;go_wp2_with fail;refine HIa.out.mono ?_;rintro e w3 ⟨rfl,hb3⟩;have hb4:=hb.trans (hb3.mono hbz);have HO2:=zb (HownV.out _ hb3);go_upto_region 8 with(fail);go_big_quiet (fail);go_upto_region 10 with(fail);obtain⟨V,hV⟩:∃V,V=w3.drewN nq:=⟨_,rfl⟩;have hbV:Below w3.heap.size w3 V:=by rw[hV];exact zH (Below.refl _ _) _
          rw[<-hV];clear hV;have hbwV:=hb4.trans (hbV.mono hb4.size);have HO3:=zb (zd HO2.out hbV);obtain⟨i0,hi,hz1,hz2,hz3⟩:=info_parts Tryz.perInfo;have Hi:=zb (And.intro hi (And.intro hz1 (And.intro hz2 hz3)));clear hi hz1 hz2 hz3;obtain⟨m0,m1⟩:=Hcell.out V hbwV;have hBV:bq<V.heap.size:=Nat.lt_of_lt_of_le hBq hbwV.size;have Hbl:=zb (fun g hg=>zg HO3.out g hg);have Mk:=zb (show ∀w':World,Below w2.heap.size w2 w'->w'.cell? ⟨bq,oq+k,none⟩=some (.int .i64 x)/\w'.cell? ⟨bq,oq+(k+1),none⟩=some (.int .i64 y)from Hcell.out);go_region_held3 (fun w':World=>w'.cell? ⟨bq,oq+k,none⟩=some (.int .i64 x)/\w'.cell? ⟨bq,oq+(k+1),none⟩=some (.int .i64 y))
           (first
            |exact Mk.out _ (by assumption)
            |exact Mk.out _ (Below.drew hbwV)
            |exact Mk.out _ (Below.alloc (Below.drew hbwV) (by have:=hbwV.size;exact this) _)
            |exact Mk.out _ (Below.drew (Below.alloc hbwV hbwV.size _)))
           ((refine step_append_lies _ (by rfl) _ _ _ (by rfl) w2.heap.size 25 i0 _ 2 16 Tryz.underlying85 Hi.out.1 Hi.out.2.1 Hi.out.2.2.1 Hi.out.2.2.2 rfl (by omega) (Value.slice ao 0 co) 0 [] (by rfl) ((HO3.out.alloc _).drew) ⟨V.heap.size,0,none⟩ 1 1 [.int .i64 x,.int .i64 y] (by rfl) (by rfl) (World.news_of_block (cs:=#[.int .i64 x,.int .i64 y]) (t:=25) (fr:=(0,0)) (heap_alloc_new V _)) (by simp[Value.oneCell']) (by omega) (by unfold maxLen;omega) (by omega) (by have:=hbwV.size;simp;omega) (V.heap.size+1) (by simp) ?_;intro gg capg w8 hown8 hgrow8 hat8 hlt8
             have hY8:Below w2.heap.size w2 w8:=(Below.drew (Below.alloc hbwV hbwV.size _)).grown hgrow8 (by have:=hbwV.size;simp;omega) (fun g hg=>(Hbl.out g hg).1)));go_wp2;refine⟨⟨k+1,by omega,by go_num,?_,hY8⟩,by simp[intOf];omega⟩;rw[HE.out,qX,<-List.nil_append [(x,y)],List.length_append,List.flatMap_append];exact hown8
        obtain⟨M,q,rfl⟩:∃M q,O=M++[q]:=⟨_,_,(List.dropLast_concat_getLast hO).symm⟩;obtain⟨q1,q2⟩:=q;clear hO;obtain⟨g0,cg,hvv,hgB,hgl,hcell⟩:∃g cap,(Value.slice ao (M++[(q1,q2)]).length co)=.slice (some ⟨g,0,none⟩) (M++[(q1,q2)]).length cap/\w2.heap.size<=g/\g<wr.heap.size/\wr.cell? ⟨g,M.length*2+1,none⟩=some (.int .i64 q2):=by
         have h0:=Hown.out;rcases h0.2 with⟨-,h1⟩|⟨g,cap,cur,hv,hB,hh,-⟩;· simp at h1
         rw[hv]at h0;refine⟨g,cap,hv,hB,(zu hh),?_⟩;rw[h0.cellAt (M.length*2+1) (by simp;omega),List.flatMap_append,List.getElem?_append_right (by rw[zN zh 2 (fun _=>rfl)];omega),zN zh 2 (fun _=>rfl)];simp[zh]
        simp only[Value.slice.injEq]at hvv;obtain⟨rfl,-,rfl⟩:=hvv;have hlenM:(M++[(q1,q2)]).length=M.length+1:=by simp
        have HownM:=zb (show wr.ownsRow w2.heap.size 25 2 (.slice (some ⟨g0,0,none⟩) (M.length+1) co) (M.length+1) ((M++[(q1,q2)]).flatMap zh) by have h:=Hown.out;rwa[hlenM]at h);rw[hlenM]at hle hco⊢;clear Hown HownV;have hj1:IntKind.i64.wrap ((M.length:Int)+1-1)=(M.length:Int):=by rw[Int.add_sub_cancel];exact IntWalk.i64_in _ (by omega)
        have hj2:(0:Int)<(M.length:Int)+1:=by omega
        have hj3:((M.length:Int)+1).toNat=M.length+1:=by omega
        have hj4:IntKind.i64.wrap (M.length:Int)=(M.length:Int):=IntWalk.i64_in _ (by omega);have hj5:(0:Int)<=(M.length:Int):=Int.natCast_nonneg _;have hj6:(M.length:Int)<(M.length:Int)+1:=by omega
        have J:=zb (And.intro hj1 (And.intro hj2 (And.intro hj3 (And.intro hj4 (And.intro hj5 hj6)))));have Hcl:=zb hcell;clear hj1 hj2 hj3 hj4 hj5 hj6 hlenM hcell;go_wp2_with fail;refine HIa.out.mono ?_;rintro e w3 ⟨rfl,hb3⟩;have hb4:=hb.trans (hb3.mono hbz);have HO2:=zb (zd HownM.out hb3);have hcV:=zb ((Below.cell (p:=⟨g0,M.length*2+1,none⟩) hb3 hgl).trans Hcl.out);go_upto_region 8 with(fail);obtain⟨d0,d1⟩:=Hcell.out w3 hb4;have e0:=hcV.out;obtain⟨hj1,hj2,hj3,hj4,hj5,hj6⟩:=J.out;by_cases hq:q2=x
        · have hq2:(q2==x)=true:=by rw[hq];exact beq_self_eq_true _
          have Hq:=zb hq;clear hq;go_big_quiet (fail);clear hj1 hj2 hj3 hj4 hj5 hj6 d0 d1 e0;go_upto_region 9 with(fail);obtain⟨V,hV⟩:∃V,V=w3.drewN nq:=⟨_,rfl⟩;have hbV:Below w3.heap.size w3 V:=by rw[hV];exact zH (Below.refl _ _) _
          rw[<-hV];clear hV;have hbwV:=hb4.trans (hbV.mono hb4.size);have HO3:=zb (zd HO2.out hbV);obtain⟨d0,d1⟩:=Hcell.out V hbwV;have hgl3:g0<w3.heap.size:=Nat.lt_of_lt_of_le hgl hb3.size;have e0:V.cell? ⟨g0,M.length*2+1,none⟩=some (.int .i64 q2):=(hbV.cell (p:=⟨g0,M.length*2+1,none⟩) hgl3).trans hcV.out;have e1:V.frozen? ⟨g0,M.length*2+1,none⟩=false:=HO3.out.frozenAt _;have hst:=HO3.out.stored (M.length*2+1) (.int .i64 y);have Hst:=zb hst.1;clear hst;obtain⟨hj1,hj2,hj3,hj4,hj5,hj6⟩:=J.out;go_wp2;refine⟨⟨k+1,by omega,by go_num,?_,hbwV.setCell hgB _⟩,by simp[intOf];omega⟩;rw[HE.out,q8 M (q1,q2) x y Hq.out,List.length_append];have h:=Hst.out;rw[uB]at h;exact h
        have hq2:(q2==x)=false:=beq_eq_false_iff_ne.2 hq;have Hq:=zb hq;clear hq;go_big_quiet (fail);clear hj1 hj2 hj3 hj4 hj5 hj6 d0 d1 e0;go_upto_region 10 with(fail);obtain⟨V,hV⟩:∃V,V=w3.drewN nq:=⟨_,rfl⟩;have hbV:Below w3.heap.size w3 V:=by rw[hV];exact zH (Below.refl _ _) _
        rw[<-hV];clear hV;have hbwV:=hb4.trans (hbV.mono hb4.size);have HO3:=zb (zd HO2.out hbV);obtain⟨i0,hi,hz1,hz2,hz3⟩:=info_parts Tryz.perInfo;have Hi:=zb (And.intro hi (And.intro hz1 (And.intro hz2 hz3)));clear hi hz1 hz2 hz3;obtain⟨m0,m1⟩:=Hcell.out V hbwV;have hBV:bq<V.heap.size:=Nat.lt_of_lt_of_le hBq hbwV.size;have Hbl:=zb (fun g hg=>zg HO3.out g hg);have Mk:=zb (show ∀w':World,Below w2.heap.size w2 w'->w'.cell? ⟨bq,oq+k,none⟩=some (.int .i64 x)/\w'.cell? ⟨bq,oq+(k+1),none⟩=some (.int .i64 y)from Hcell.out);go_region_held3 (fun w':World=>w'.cell? ⟨bq,oq+k,none⟩=some (.int .i64 x)/\w'.cell? ⟨bq,oq+(k+1),none⟩=some (.int .i64 y))
         (first
          |exact Mk.out _ (by assumption)
          |exact Mk.out _ (Below.drew hbwV)
          |exact Mk.out _ (Below.alloc (Below.drew hbwV) (by have:=hbwV.size;exact this) _)
          |exact Mk.out _ (Below.drew (Below.alloc hbwV hbwV.size _)))
         ((refine step_append_lies _ (by rfl) _ _ _ (by rfl) w2.heap.size 25 i0 _ 2 16 Tryz.underlying85 Hi.out.1 Hi.out.2.1 Hi.out.2.2.1 Hi.out.2.2.2 rfl (by omega) (Value.slice (some ⟨g0,0,none⟩) (M.length+1) co) (M.length+1) _ (by rfl) ((HO3.out.alloc _).drew) ⟨V.heap.size,0,none⟩ 1 1 [.int .i64 x,.int .i64 y] (by rfl) (by rfl) (World.news_of_block (cs:=#[.int .i64 x,.int .i64 y]) (t:=25) (fr:=(0,0)) (heap_alloc_new V _)) (by simp[Value.oneCell']) (by omega) (by unfold maxLen;omega) (by omega) (by have:=hbwV.size;simp;omega) (V.heap.size+1) (by simp) ?_;intro gg capg w8 hown8 hgrow8 hat8 hlt8
           have hY8:Below w2.heap.size w2 w8:=(Below.drew (Below.alloc hbwV hbwV.size _)).grown hgrow8 (by have:=hbwV.size;simp;omega) (fun g hg=>(Hbl.out g hg).1)));go_wp2;refine⟨⟨k+1,by omega,by go_num,?_,hY8⟩,by simp[intOf];omega⟩;rw[HE.out,q7 M (q1,q2) x y Hq.out,List.length_append,List.flatMap_append];have h:=hown8;simpa [zh]using h
      |false=>
        cases hB:inL b x==inb with
        |false=>
          have HE:=zb (show yL l (selB a b false inb) (k+1)=O by rw[HU.out,if_neg (by rw[hsel,hA,hB];simp)]);have hne:(inL b x != inb)=true:=by rw[bne,hB];rfl
          have hne2:(!(inL b x==inb))=true:=by rw[hB];rfl
          generalize hB2:inL b x=bb at *;have HB2:=zb hB2;clear hsel hA hB2;go_wp2_with fail;refine HIa.out.mono ?_;rintro e w3 ⟨rfl,hb3⟩;have hb4:=hb.trans (hb3.mono hbz);have hbw3:=hb2.trans (hb4.mono hz0);obtain⟨d0,d1⟩:=Hcell.out w3 hb4;have HIb:=zb (HB.out x w3 hbw3);rw[HB2.out]at HIb;clear c0 c1;go_wp2_with fail;refine HIb.out.mono ?_;rintro e w4 ⟨rfl,hb5⟩;have hb6:=hb3.trans (hb5.mono hb3.size);have hb7:=hb.trans (hb6.mono hbz);clear d0 d1;go_wp2;exact⟨⟨k+1,by omega,by go_num,by rw[HE.out];exact zd Hown.out hb6,hb7⟩,by simp[intOf];omega⟩
        |true=>
          have HE:=zb (show yL l (selB a b false inb) (k+1)=vm O x y by rw[HU.out,if_pos (by rw[hsel,hA,hB];simp)]);have hne:(inL b x != inb)=false:=by rw[bne,hB];rfl
          have hne2:(!(inL b x==inb))=false:=by rw[hB];rfl
          generalize hB2:inL b x=bb at *;have HB2:=zb hB2;clear hsel hA hB2;have HownV:=zb (fun(w':World) (h:Below wr.heap.size wr w')=>zd Hown.out h);by_cases hO:O=[]
          · subst hO
            have hl0:((0:Nat):Int)=0:=rfl;simp only[List.length_nil]at *;go_wp2_with fail;refine HIa.out.mono ?_;rintro e w3 ⟨rfl,hb3⟩;have hb4:=hb.trans (hb3.mono hbz);have hbw3:=hb2.trans (hb4.mono hz0);obtain⟨d0,d1⟩:=Hcell.out w3 hb4;have HIb:=zb (HB.out x w3 hbw3);rw[HB2.out]at HIb;clear c0 c1;go_wp2_with fail;refine HIb.out.mono ?_;rintro e w4 ⟨rfl,hb5⟩;have hb6:=hb3.trans (hb5.mono hb3.size);have hb7:=hb.trans (hb6.mono hbz);clear d0 d1;have HO2:=zb (HownV.out _ hb6);go_upto_region 8 with(fail);go_big_quiet (fail);go_upto_region 10 with(fail);obtain⟨V,hV⟩:∃V,V=w4.drewN nq:=⟨_,rfl⟩;have hbV:Below w4.heap.size w4 V:=by rw[hV];exact zH (Below.refl _ _) _
            rw[<-hV];clear hV;have hbwV:=hb7.trans (hbV.mono hb7.size);have HO3:=zb (zd HO2.out hbV);obtain⟨i0,hi,hz1,hz2,hz3⟩:=info_parts Tryz.perInfo;have Hi:=zb (And.intro hi (And.intro hz1 (And.intro hz2 hz3)));clear hi hz1 hz2 hz3;obtain⟨m0,m1⟩:=Hcell.out V hbwV;have hBV:bq<V.heap.size:=Nat.lt_of_lt_of_le hBq hbwV.size;have Hbl:=zb (fun g hg=>zg HO3.out g hg);have Mk:=zb (show ∀w':World,Below w2.heap.size w2 w'->w'.cell? ⟨bq,oq+k,none⟩=some (.int .i64 x)/\w'.cell? ⟨bq,oq+(k+1),none⟩=some (.int .i64 y)from Hcell.out);go_region_held3 (fun w':World=>w'.cell? ⟨bq,oq+k,none⟩=some (.int .i64 x)/\w'.cell? ⟨bq,oq+(k+1),none⟩=some (.int .i64 y))
             (first
              |exact Mk.out _ (by assumption)
              |exact Mk.out _ (Below.drew hbwV)
              |exact Mk.out _ (Below.alloc (Below.drew hbwV) (by have:=hbwV.size;exact this) _)
              |exact Mk.out _ (Below.drew (Below.alloc hbwV hbwV.size _)))
             ((refine step_append_lies _ (by rfl) _ _ _ (by rfl) w2.heap.size 25 i0 _ 2 16 Tryz.underlying85 Hi.out.1 Hi.out.2.1 Hi.out.2.2.1 Hi.out.2.2.2 rfl (by omega) (Value.slice ao 0 co) 0 [] (by rfl) ((HO3.out.alloc _).drew) ⟨V.heap.size,0,none⟩ 1 1 [.int .i64 x,.int .i64 y] (by rfl) (by rfl) (World.news_of_block (cs:=#[.int .i64 x,.int .i64 y]) (t:=25) (fr:=(0,0)) (heap_alloc_new V _)) (by simp[Value.oneCell']) (by omega) (by unfold maxLen;omega) (by omega) (by have:=hbwV.size;simp;omega) (V.heap.size+1) (by simp) ?_;intro gg capg w8 hown8 hgrow8 hat8 hlt8
               have hY8:Below w2.heap.size w2 w8:=(Below.drew (Below.alloc hbwV hbwV.size _)).grown hgrow8 (by have:=hbwV.size;simp;omega) (fun g hg=>(Hbl.out g hg).1)));go_wp2;refine⟨⟨k+1,by omega,by go_num,?_,hY8⟩,by simp[intOf];omega⟩;rw[HE.out,qX,<-List.nil_append [(x,y)],List.length_append,List.flatMap_append];exact hown8
          obtain⟨M,q,rfl⟩:∃M q,O=M++[q]:=⟨_,_,(List.dropLast_concat_getLast hO).symm⟩;obtain⟨q1,q2⟩:=q;clear hO;obtain⟨g0,cg,hvv,hgB,hgl,hcell⟩:∃g cap,(Value.slice ao (M++[(q1,q2)]).length co)=.slice (some ⟨g,0,none⟩) (M++[(q1,q2)]).length cap/\w2.heap.size<=g/\g<wr.heap.size/\wr.cell? ⟨g,M.length*2+1,none⟩=some (.int .i64 q2):=by
           have h0:=Hown.out;rcases h0.2 with⟨-,h1⟩|⟨g,cap,cur,hv,hB,hh,-⟩;· simp at h1
           rw[hv]at h0;refine⟨g,cap,hv,hB,(zu hh),?_⟩;rw[h0.cellAt (M.length*2+1) (by simp;omega),List.flatMap_append,List.getElem?_append_right (by rw[zN zh 2 (fun _=>rfl)];omega),zN zh 2 (fun _=>rfl)];simp[zh]
          simp only[Value.slice.injEq]at hvv;obtain⟨rfl,-,rfl⟩:=hvv;have hlenM:(M++[(q1,q2)]).length=M.length+1:=by simp
          have HownM:=zb (show wr.ownsRow w2.heap.size 25 2 (.slice (some ⟨g0,0,none⟩) (M.length+1) co) (M.length+1) ((M++[(q1,q2)]).flatMap zh) by have h:=Hown.out;rwa[hlenM]at h);rw[hlenM]at hle hco⊢;clear Hown HownV;have hj1:IntKind.i64.wrap ((M.length:Int)+1-1)=(M.length:Int):=by rw[Int.add_sub_cancel];exact IntWalk.i64_in _ (by omega)
          have hj2:(0:Int)<(M.length:Int)+1:=by omega
          have hj3:((M.length:Int)+1).toNat=M.length+1:=by omega
          have hj4:IntKind.i64.wrap (M.length:Int)=(M.length:Int):=IntWalk.i64_in _ (by omega);have hj5:(0:Int)<=(M.length:Int):=Int.natCast_nonneg _;have hj6:(M.length:Int)<(M.length:Int)+1:=by omega
          have J:=zb (And.intro hj1 (And.intro hj2 (And.intro hj3 (And.intro hj4 (And.intro hj5 hj6)))));have Hcl:=zb hcell;clear hj1 hj2 hj3 hj4 hj5 hj6 hlenM hcell;go_wp2_with fail;refine HIa.out.mono ?_;rintro e w3 ⟨rfl,hb3⟩;have hb4:=hb.trans (hb3.mono hbz);have hbw3:=hb2.trans (hb4.mono hz0);obtain⟨d0,d1⟩:=Hcell.out w3 hb4;have HIb:=zb (HB.out x w3 hbw3);rw[HB2.out]at HIb;clear c0 c1;go_wp2_with fail;refine HIb.out.mono ?_;rintro e w4 ⟨rfl,hb5⟩;have hb6:=hb3.trans (hb5.mono hb3.size);have hb7:=hb.trans (hb6.mono hbz);clear d0 d1;have HO2:=zb (zd HownM.out hb6);have hcV:=zb ((Below.cell (p:=⟨g0,M.length*2+1,none⟩) hb6 hgl).trans Hcl.out);go_upto_region 8 with(fail);obtain⟨d0,d1⟩:=Hcell.out w4 hb7;have e0:=hcV.out;obtain⟨hj1,hj2,hj3,hj4,hj5,hj6⟩:=J.out;by_cases hq:q2=x
          · have hq2:(q2==x)=true:=by rw[hq];exact beq_self_eq_true _
            have Hq:=zb hq;clear hq;go_big_quiet (fail);clear hj1 hj2 hj3 hj4 hj5 hj6 d0 d1 e0;go_upto_region 9 with(fail);obtain⟨V,hV⟩:∃V,V=w4.drewN nq:=⟨_,rfl⟩;have hbV:Below w4.heap.size w4 V:=by rw[hV];exact zH (Below.refl _ _) _
            rw[<-hV];clear hV;have hbwV:=hb7.trans (hbV.mono hb7.size);have HO3:=zb (zd HO2.out hbV);obtain⟨d0,d1⟩:=Hcell.out V hbwV;have hgl3:g0<w4.heap.size:=Nat.lt_of_lt_of_le hgl hb6.size;have e0:V.cell? ⟨g0,M.length*2+1,none⟩=some (.int .i64 q2):=(hbV.cell (p:=⟨g0,M.length*2+1,none⟩) hgl3).trans hcV.out;have e1:V.frozen? ⟨g0,M.length*2+1,none⟩=false:=HO3.out.frozenAt _;have hst:=HO3.out.stored (M.length*2+1) (.int .i64 y);have Hst:=zb hst.1;clear hst;obtain⟨hj1,hj2,hj3,hj4,hj5,hj6⟩:=J.out;go_wp2;refine⟨⟨k+1,by omega,by go_num,?_,hbwV.setCell hgB _⟩,by simp[intOf];omega⟩;rw[HE.out,q8 M (q1,q2) x y Hq.out,List.length_append];have h:=Hst.out;rw[uB]at h;exact h
          have hq2:(q2==x)=false:=beq_eq_false_iff_ne.2 hq;have Hq:=zb hq;clear hq;go_big_quiet (fail);clear hj1 hj2 hj3 hj4 hj5 hj6 d0 d1 e0;go_upto_region 10 with(fail);obtain⟨V,hV⟩:∃V,V=w4.drewN nq:=⟨_,rfl⟩;have hbV:Below w4.heap.size w4 V:=by rw[hV];exact zH (Below.refl _ _) _
          rw[<-hV];clear hV;have hbwV:=hb7.trans (hbV.mono hb7.size);have HO3:=zb (zd HO2.out hbV);obtain⟨i0,hi,hz1,hz2,hz3⟩:=info_parts Tryz.perInfo;have Hi:=zb (And.intro hi (And.intro hz1 (And.intro hz2 hz3)));clear hi hz1 hz2 hz3;obtain⟨m0,m1⟩:=Hcell.out V hbwV;have hBV:bq<V.heap.size:=Nat.lt_of_lt_of_le hBq hbwV.size;have Hbl:=zb (fun g hg=>zg HO3.out g hg);have Mk:=zb (show ∀w':World,Below w2.heap.size w2 w'->w'.cell? ⟨bq,oq+k,none⟩=some (.int .i64 x)/\w'.cell? ⟨bq,oq+(k+1),none⟩=some (.int .i64 y)from Hcell.out);go_region_held3 (fun w':World=>w'.cell? ⟨bq,oq+k,none⟩=some (.int .i64 x)/\w'.cell? ⟨bq,oq+(k+1),none⟩=some (.int .i64 y))
           (first
            |exact Mk.out _ (by assumption)
            |exact Mk.out _ (Below.drew hbwV)
            |exact Mk.out _ (Below.alloc (Below.drew hbwV) (by have:=hbwV.size;exact this) _)
            |exact Mk.out _ (Below.drew (Below.alloc hbwV hbwV.size _)))
           ((refine step_append_lies _ (by rfl) _ _ _ (by rfl) w2.heap.size 25 i0 _ 2 16 Tryz.underlying85 Hi.out.1 Hi.out.2.1 Hi.out.2.2.1 Hi.out.2.2.2 rfl (by omega) (Value.slice (some ⟨g0,0,none⟩) (M.length+1) co) (M.length+1) _ (by rfl) ((HO3.out.alloc _).drew) ⟨V.heap.size,0,none⟩ 1 1 [.int .i64 x,.int .i64 y] (by rfl) (by rfl) (World.news_of_block (cs:=#[.int .i64 x,.int .i64 y]) (t:=25) (fr:=(0,0)) (heap_alloc_new V _)) (by simp[Value.oneCell']) (by omega) (by unfold maxLen;omega) (by omega) (by have:=hbwV.size;simp;omega) (V.heap.size+1) (by simp) ?_;intro gg capg w8 hown8 hgrow8 hat8 hlt8
             have hY8:Below w2.heap.size w2 w8:=(Below.drew (Below.alloc hbwV hbwV.size _)).grown hgrow8 (by have:=hbwV.size;simp;omega) (fun g hg=>(Hbl.out g hg).1)));go_wp2;refine⟨⟨k+1,by omega,by go_num,?_,hY8⟩,by simp[intOf];omega⟩;rw[HE.out,q7 M (q1,q2) x y Hq.out,List.length_append,List.flatMap_append];have h:=hown8;simpa [zh]using h
  have hke:k=l.length-1:=by omega
  have HE:=zb (show vh a b ig inb=yL l (selB a b ig inb) k by rw[HC.out,<-hke]);have hk5:decide ((k:Int)+1<(l.length:Int))=false:=decide_eq_false (by omega);clear hke;generalize yL l (selB a b ig inb) k=O at *;go_wp2;go_ret;exact⟨_,rfl,by rw[HE.out];exact yd.own Hown.out,hbw⟩
theorem kI (n:Int):∀(l O:List Int),l.foldl (zD n) (O,true)=(O++l.filter (fun x=>decide (x≠n)),true):=by
 intro l;induction l with
 |nil=>intro O;simp
 |cons x r ih=>
   intro O;rw[List.foldl_cons];by_cases h:x=n;· rw[show zD n (O,true) x=(O,true) by unfold zD;rw[if_neg (fun h=>by cases h.1),if_pos h],ih,List.filter_cons,if_neg (by simp[h])]
   rw[show zD n (O,true) x=(O++[x],true) by unfold zD;rw[if_neg (fun h=>by cases h.1),if_neg h],ih,List.filter_cons,if_pos (by simpa using h)];simp
def uI (n:Int) (s:List Int×Bool):List Int:=if s.2=true then s.1 else s.1++[n]
theorem EX (n:Int):∀(l O:List Int),uI n (l.foldl (zD n) (O,false))=O++uI n (l.foldl (zD n) ([],false)):=by
 intro l;induction l with
 |nil=>intro O;simp[uI]
 |cons x r ih=>
   intro O;rw[List.foldl_cons,List.foldl_cons];by_cases h1:n<=x
   · by_cases h2:x=n
     · rw[show zD n (O,false) x=(O++[n],true) by unfold zD;rw[if_pos ⟨rfl,h1⟩,if_pos h2],show zD n ([],false) x=([]++[n],true) by unfold zD;rw[if_pos ⟨rfl,h1⟩,if_pos h2],kI,kI]
       simp[uI]
     rw[show zD n (O,false) x=(O++[n]++[x],true) by unfold zD;rw[if_pos ⟨rfl,h1⟩,if_neg h2],show zD n ([],false) x=([]++[n]++[x],true) by unfold zD;rw[if_pos ⟨rfl,h1⟩,if_neg h2],kI,kI];simp[uI]
   have h2:x≠n:=by omega
   rw[show zD n (O,false) x=(O++[x],false) by unfold zD;rw[if_neg (fun h=>h1 h.2),if_neg h2],show zD n ([],false) x=([]++[x],false) by unfold zD;rw[if_neg (fun h=>h1 h.2),if_neg h2],ih,ih ([]++[x])];simp
theorem QE (l:List Int) (n:Int):addL l n=uI n (l.foldl (zD n) ([],false)):=rfl
theorem qQ (n:Int):addL [] n=[n]:=rfl
theorem qt (x n:Int) (r:List Int) (h:n<x):addL (x::r) n=n::x::r.filter (fun y=>decide (y≠n)):=by rw[QE,List.foldl_cons,show zD n ([],false) x=([]++[n]++[x],true) by unfold zD;rw[if_pos ⟨rfl,by omega⟩,if_neg (by omega)],kI];simp[uI]
theorem qo (n:Int) (r:List Int):addL (n::r) n=n::r.filter (fun y=>decide (y≠n)):=by rw[QE,List.foldl_cons,show zD n ([],false) n=([]++[n],true) by unfold zD;rw[if_pos ⟨rfl,Int.le_refl _⟩,if_pos rfl],kI];simp[uI]
theorem yf (x n:Int) (r:List Int) (h:x<n):addL (x::r) n=x::addL r n:=by rw[QE,List.foldl_cons,show zD n ([],false) x=([]++[x],false) by unfold zD;rw[if_neg (fun h=>by omega),if_neg (by omega)],EX];rfl
theorem ZS (f t f2 t2 x:Int):selB [(f,t)] [(f2,t2)] false true x=(vg f t x&&vg f2 t2 x):=by unfold selB inL;simp
theorem jJ {f t f2 t2 x:Int} (h1:ym f t=true) (h2:ym f2 t2=true) (a:f<=x) (b:x<t) (c:f2<=x) (d:x<t2):selB [(f,t)] [(f2,t2)] false true x=true:=by rw[ZS,(yA f t x).2 ⟨(zw _ _).1 h1,a,b⟩,(yA f2 t2 x).2 ⟨(zw _ _).1 h2,c,d⟩];rfl
theorem vF {f t f2 t2 x:Int} (h:x<f\/t<=x\/x<f2\/t2<=x):selB [(f,t)] [(f2,t2)] false true x=false:=by
 rw[ZS];cases e:vg f t x with
 |false=>rfl
 |true=>
   cases e2:vg f2 t2 x with
   |false=>rfl
   |true=>have h1:=((yA _ _ _).1 e).2;have h2:=((yA _ _ _).1 e2).2;omega
theorem Vf (l:List Int) (sel:Int->Bool) (h:∀x,sel x=false):∀k,yL l sel k=[]:=by
 intro k;induction k with
 |zero=>rfl
 |succ k ih=>rw[yL,h,if_neg (by decide),ih]
theorem Ec (f t f2 t2:Int) (h1:ym f t=true) (h2:ym f2 t2=true) (hft:f<t):zB (zB [] [(f,t)]) [(f2,t2)]=addL (addL [f,t] f2) t2:=by
 have e1:zB [] [(f,t)]=[f,t]:=by show qi [] (f,t)=_;rw[qi,if_pos h1,qQ,yf _ _ _ hft,qQ]
 rw[e1];show qi [f,t] (f2,t2)=_;rw[qi,if_pos h2]
theorem NT (l:List Int) (a b:Int) (sel:Int->Bool) (h:l=[a,b]):yL l sel (l.length-1)=if sel a=true then [(a,b)] else []:=by subst h;rfl
theorem uY (l:List Int) (a b c:Int) (sel:Int->Bool) (h:l=[a,b,c]) (hab:sel a=false\/sel b=false):yL l sel (l.length-1)=if sel a=true then [(a,b)] else if sel b=true then [(b,c)] else []:=by subst h;show(if sel b=true then vm (if sel a=true then vm [] a b else []) b c else (if sel a=true then vm [] a b else []))=_;rcases hab with h|h<;>simp[h,qX]
theorem uX (l:List Int) (a b c d:Int) (sel:Int->Bool) (h:l=[a,b,c,d]) (ha:sel a=false) (hc:sel c=false):yL l sel (l.length-1)=if sel b=true then [(b,c)] else []:=by subst h;show(if sel c=true then vm (if sel b=true then vm (if sel a=true then vm [] a b else []) b c else (if sel a=true then vm [] a b else [])) c d else (if sel b=true then vm (if sel a=true then vm [] a b else []) b c else (if sel a=true then vm [] a b else [])))=_;simp[ha,hc,qX]
theorem Uw (f t f2 t2:Int):vh [(f,t)] [(f2,t2)] false true=if yO f t f2 t2=true then [(max f f2,min t t2)] else []:=by
 by_cases h1:ym f t=true
 · by_cases h2:ym f2 t2=true
   · have v1:=((zw _ _).1 h1).2.1
     have v2:=((zw _ _).1 h2).2.1;unfold vh;have hl:=Ec f t f2 t2 h1 h2 v1;generalize zB (zB [] [(f,t)]) [(f2,t2)]=l at *;by_cases hm:max f f2<min t t2
     · rw[if_pos ((vf _ _ _ _).2 ⟨h1,h2,hm⟩)]
       have hcase:(f2=f/\f2<t/\f<t2/\t2=t)\/(f2=f/\f2<t/\f<t2/\t<t2)\/(f2=f/\f2<t/\f<t2/\t2<t)\/(f<f2/\f2<t/\f<t2/\t2=t)\/(f<f2/\f2<t/\f<t2/\t<t2)\/(f<f2/\f2<t/\f<t2/\t2<t)\/(f2<f/\f2<t/\f<t2/\t2=t)\/(f2<f/\f2<t/\f<t2/\t<t2)\/(f2<f/\f2<t/\f<t2/\t2<t):=by omega
       rcases hcase with⟨c1,c2,c3,c4⟩|⟨c1,c2,c3,c4⟩|⟨c1,c2,c3,c4⟩|⟨c1,c2,c3,c4⟩|⟨c1,c2,c3,c4⟩|⟨c1,c2,c3,c4⟩|⟨c1,c2,c3,c4⟩|⟨c1,c2,c3,c4⟩|⟨c1,c2,c3,c4⟩
       · have e_f2:f2=f:=by omega
         have e_t2:t2=t:=by omega
         have hl2:l=[f,t]:=by rw[hl,e_f2,e_t2];rw[qo];rw[show([t]:List Int).filter (fun y=>decide (y≠f))=[t] from List.filter_eq_self.2 (by intro z hz;simp only[List.mem_cons,List.not_mem_nil,or_false]at hz;simp only[decide_eq_true_eq];omega)];rw[yf f t _ (by omega)];rw[qo];rw[List.filter_nil]
         have s0:selB [(f,t)] [(f2,t2)] false true f=true:=jJ h1 h2 (by omega) (by omega) (by omega) (by omega);rw[NT l _ _ _ hl2,s0];rw[show max f f2=f by omega,show min t t2=t by omega];simp
       · have e_f2:f2=f:=by omega
         have hl2:l=[f,t,t2]:=by rw[hl,e_f2];rw[qo];rw[show([t]:List Int).filter (fun y=>decide (y≠f))=[t] from List.filter_eq_self.2 (by intro z hz;simp only[List.mem_cons,List.not_mem_nil,or_false]at hz;simp only[decide_eq_true_eq];omega)];rw[yf f t2 _ (by omega)];rw[yf t t2 _ (by omega)];rw[qQ]
         have s0:selB [(f,t)] [(f2,t2)] false true f=true:=jJ h1 h2 (by omega) (by omega) (by omega) (by omega);have s1:selB [(f,t)] [(f2,t2)] false true t=false:=vF (by omega);rw[uY l _ _ _ _ hl2 (Or.inr s1),s0,s1];rw[show max f f2=f by omega,show min t t2=t by omega];simp
       · have e_f2:f2=f:=by omega
         have hl2:l=[f,t2,t]:=by rw[hl,e_f2];rw[qo];rw[show([t]:List Int).filter (fun y=>decide (y≠f))=[t] from List.filter_eq_self.2 (by intro z hz;simp only[List.mem_cons,List.not_mem_nil,or_false]at hz;simp only[decide_eq_true_eq];omega)];rw[yf f t2 _ (by omega)];rw[qt t t2 _ (by omega)];rw[List.filter_nil]
         have s0:selB [(f,t)] [(f2,t2)] false true f=true:=jJ h1 h2 (by omega) (by omega) (by omega) (by omega);have s1:selB [(f,t)] [(f2,t2)] false true t2=false:=vF (by omega);rw[uY l _ _ _ _ hl2 (Or.inr s1),s0,s1];rw[show max f f2=f by omega,show min t t2=t2 by omega];simp
       · have e_t2:t2=t:=by omega
         have hl2:l=[f,f2,t]:=by rw[hl,e_t2];rw[yf f f2 _ (by omega)];rw[qt t f2 _ (by omega)];rw[List.filter_nil];rw[yf f t _ (by omega)];rw[yf f2 t _ (by omega)];rw[qo];rw[List.filter_nil]
         have s0:selB [(f,t)] [(f2,t2)] false true f=false:=vF (by omega);have s1:selB [(f,t)] [(f2,t2)] false true f2=true:=jJ h1 h2 (by omega) (by omega) (by omega) (by omega);rw[uY l _ _ _ _ hl2 (Or.inl s0),s0,s1];rw[show max f f2=f2 by omega,show min t t2=t by omega];simp
       · have hl2:l=[f,f2,t,t2]:=by
          rw[hl];rw[yf f f2 _ (by omega)];rw[qt t f2 _ (by omega)];rw[List.filter_nil];rw[yf f t2 _ (by omega)];rw[yf f2 t2 _ (by omega)];rw[yf t t2 _ (by omega)];rw[qQ]
         have s0:selB [(f,t)] [(f2,t2)] false true f=false:=vF (by omega);have s1:selB [(f,t)] [(f2,t2)] false true f2=true:=jJ h1 h2 (by omega) (by omega) (by omega) (by omega);have s2:selB [(f,t)] [(f2,t2)] false true t=false:=vF (by omega);rw[uX l _ _ _ _ _ hl2 s0 s2,s1];rw[show max f f2=f2 by omega,show min t t2=t by omega];simp
       · have hl2:l=[f,f2,t2,t]:=by
          rw[hl];rw[yf f f2 _ (by omega)];rw[qt t f2 _ (by omega)];rw[List.filter_nil];rw[yf f t2 _ (by omega)];rw[yf f2 t2 _ (by omega)];rw[qt t t2 _ (by omega)];rw[List.filter_nil]
         have s0:selB [(f,t)] [(f2,t2)] false true f=false:=vF (by omega);have s1:selB [(f,t)] [(f2,t2)] false true f2=true:=jJ h1 h2 (by omega) (by omega) (by omega) (by omega);have s2:selB [(f,t)] [(f2,t2)] false true t2=false:=vF (by omega);rw[uX l _ _ _ _ _ hl2 s0 s2,s1];rw[show max f f2=f2 by omega,show min t t2=t2 by omega];simp
       · have e_t2:t2=t:=by omega
         have hl2:l=[f2,f,t]:=by rw[hl,e_t2];rw[qt f f2 _ (by omega)];rw[show([t]:List Int).filter (fun y=>decide (y≠f2))=[t] from List.filter_eq_self.2 (by intro z hz;simp only[List.mem_cons,List.not_mem_nil,or_false]at hz;simp only[decide_eq_true_eq];omega)];rw[yf f2 t _ (by omega)];rw[yf f t _ (by omega)];rw[qo];rw[List.filter_nil]
         have s0:selB [(f,t)] [(f2,t2)] false true f2=false:=vF (by omega);have s1:selB [(f,t)] [(f2,t2)] false true f=true:=jJ h1 h2 (by omega) (by omega) (by omega) (by omega);rw[uY l _ _ _ _ hl2 (Or.inl s0),s0,s1];rw[show max f f2=f by omega,show min t t2=t by omega];simp
       · have hl2:l=[f2,f,t,t2]:=by
          rw[hl];rw[qt f f2 _ (by omega)];rw[show([t]:List Int).filter (fun y=>decide (y≠f2))=[t] from List.filter_eq_self.2 (by intro z hz;simp only[List.mem_cons,List.not_mem_nil,or_false]at hz;simp only[decide_eq_true_eq];omega)];rw[yf f2 t2 _ (by omega)];rw[yf f t2 _ (by omega)];rw[yf t t2 _ (by omega)];rw[qQ]
         have s0:selB [(f,t)] [(f2,t2)] false true f2=false:=vF (by omega);have s1:selB [(f,t)] [(f2,t2)] false true f=true:=jJ h1 h2 (by omega) (by omega) (by omega) (by omega);have s2:selB [(f,t)] [(f2,t2)] false true t=false:=vF (by omega);rw[uX l _ _ _ _ _ hl2 s0 s2,s1];rw[show max f f2=f by omega,show min t t2=t by omega];simp
       have hl2:l=[f2,f,t2,t]:=by rw[hl];rw[qt f f2 _ (by omega)];rw[show([t]:List Int).filter (fun y=>decide (y≠f2))=[t] from List.filter_eq_self.2 (by intro z hz;simp only[List.mem_cons,List.not_mem_nil,or_false]at hz;simp only[decide_eq_true_eq];omega)];rw[yf f2 t2 _ (by omega)];rw[yf f t2 _ (by omega)];rw[qt t t2 _ (by omega)];rw[List.filter_nil]
       have s0:selB [(f,t)] [(f2,t2)] false true f2=false:=vF (by omega);have s1:selB [(f,t)] [(f2,t2)] false true f=true:=jJ h1 h2 (by omega) (by omega) (by omega) (by omega);have s2:selB [(f,t)] [(f2,t2)] false true t2=false:=vF (by omega);rw[uX l _ _ _ _ _ hl2 s0 s2,s1];rw[show max f f2=f by omega,show min t t2=t2 by omega];simp
     rw[if_neg (fun h=>hm ((vf _ _ _ _).1 h).2.2)];have hcase:(f<f2/\f2=t/\f<t2/\t<t2)\/(f<f2/\t<f2/\f<t2/\t<t2)\/(f2<f/\f2<t/\t2=f/\t2<t)\/(f2<f/\f2<t/\t2<f/\t2<t):=by omega
     rcases hcase with⟨c1,c2,c3,c4⟩|⟨c1,c2,c3,c4⟩|⟨c1,c2,c3,c4⟩|⟨c1,c2,c3,c4⟩
     · have e_f2:f2=t:=by omega
       have hl2:l=[f,t,t2]:=by rw[hl,e_f2];rw[yf f t _ (by omega)];rw[qo];rw[List.filter_nil];rw[yf f t2 _ (by omega)];rw[yf t t2 _ (by omega)];rw[qQ]
       have s0:selB [(f,t)] [(f2,t2)] false true f=false:=vF (by omega);have s1:selB [(f,t)] [(f2,t2)] false true t=false:=vF (by omega);rw[uY l _ _ _ _ hl2 (Or.inl s0),s0,s1];simp
     · have hl2:l=[f,t,f2,t2]:=by
        rw[hl];rw[yf f f2 _ (by omega)];rw[yf t f2 _ (by omega)];rw[qQ];rw[yf f t2 _ (by omega)];rw[yf t t2 _ (by omega)];rw[yf f2 t2 _ (by omega)];rw[qQ]
       have s0:selB [(f,t)] [(f2,t2)] false true f=false:=vF (by omega);have s1:selB [(f,t)] [(f2,t2)] false true t=false:=vF (by omega);have s2:selB [(f,t)] [(f2,t2)] false true f2=false:=vF (by omega);rw[uX l _ _ _ _ _ hl2 s0 s2,s1];simp
     · have e_t2:t2=f:=by omega
       have hl2:l=[f2,f,t]:=by rw[hl,e_t2];rw[qt f f2 _ (by omega)];rw[show([t]:List Int).filter (fun y=>decide (y≠f2))=[t] from List.filter_eq_self.2 (by intro z hz;simp only[List.mem_cons,List.not_mem_nil,or_false]at hz;simp only[decide_eq_true_eq];omega)];rw[yf f2 f _ (by omega)];rw[qo];rw[show([t]:List Int).filter (fun y=>decide (y≠f))=[t] from List.filter_eq_self.2 (by intro z hz;simp only[List.mem_cons,List.not_mem_nil,or_false]at hz;simp only[decide_eq_true_eq];omega)]
       have s0:selB [(f,t)] [(f2,t2)] false true f2=false:=vF (by omega);have s1:selB [(f,t)] [(f2,t2)] false true f=false:=vF (by omega);rw[uY l _ _ _ _ hl2 (Or.inl s0),s0,s1];simp
     have hl2:l=[f2,t2,f,t]:=by rw[hl];rw[qt f f2 _ (by omega)];rw[show([t]:List Int).filter (fun y=>decide (y≠f2))=[t] from List.filter_eq_self.2 (by intro z hz;simp only[List.mem_cons,List.not_mem_nil,or_false]at hz;simp only[decide_eq_true_eq];omega)];rw[yf f2 t2 _ (by omega)];rw[qt f t2 _ (by omega)];rw[show([t]:List Int).filter (fun y=>decide (y≠t2))=[t] from List.filter_eq_self.2 (by intro z hz;simp only[List.mem_cons,List.not_mem_nil,or_false]at hz;simp only[decide_eq_true_eq];omega)]
     have s0:selB [(f,t)] [(f2,t2)] false true f2=false:=vF (by omega);have s1:selB [(f,t)] [(f2,t2)] false true t2=false:=vF (by omega);have s2:selB [(f,t)] [(f2,t2)] false true f=false:=vF (by omega);rw[uX l _ _ _ _ _ hl2 s0 s2,s1];simp
   rw[if_neg (fun h=>h2 ((vf _ _ _ _).1 h).2.1)];refine Vf _ _ (fun x=>?_) _;rw[ZS];cases e:vg f2 t2 x with
   |false=>simp
   |true=>exact absurd ((zw _ _).2 ((yA _ _ _).1 e).1) h2
 rw[if_neg (fun h=>h1 ((vf _ _ _ _).1 h).1)];refine Vf _ _ (fun x=>?_) _;rw[ZS];cases e:vg f t x with
 |false=>simp
 |true=>exact absurd ((zw _ _).2 ((yA _ _ _).1 e).1) h1
theorem Kt (va vb:Value) (a b:List (Int×Int)) (w:World) (ha:yd w va a) (hb:yd w vb b) (hn:a.length+b.length<=2000):
 Calls Tryz.prog 64 #[va,vb] w (jF w (vh a b false true)):=by
 have H:=zb (Kv va vb a b false true w ha hb hn);obtain⟨aa,ca,rfl,-⟩:=ha;obtain⟨ab,cb,rfl,-⟩:=hb;go_enter Tryz.func64,Tryz.ntmps64;go_wp2_with fail;refine H.out.mono ?_;rintro e w1 ⟨v1,rfl,hp,hb1⟩;have HP:=zb hp;obtain⟨a1,c1,rfl,-⟩:=hp;go_wp2;go_ret;exact⟨_,rfl,HP.out,hb1⟩
theorem K0 {w:World} (f t:Int):yd (w.alloc (Obj.cells #[.int .i64 f,.int .i64 t] 25)) (.slice (some ⟨w.heap.size,0,none⟩) 1 1) [(f,t)]:=by
 have r:=heap_alloc_new w (Obj.cells #[.int .i64 f,.int .i64 t] 25);refine⟨some ⟨w.heap.size,0,none⟩,1,rfl,Nat.le_refl _,⟨by decide,fun h=>by cases h⟩,fun _=>⟨w.heap.size,0,rfl,by simp,fun i hi=>?_⟩⟩
 match i,hi with
 |0,_=>exact⟨cell_of_row _ _ 0 _ _ _ r,cell_of_row _ _ 1 _ _ _ r⟩
set_option linter.unusedSimpArgs false in
theorem Yt (f t f2 t2:Int) (w:World):Calls Tryz.prog 30 #[.agg #[.int .i64 f,.int .i64 t],.agg #[.int .i64 f2,.int .i64 t2]] w fun e w'=>e=.returned (.tuple #[jW f t f2 t2,.bool (yO f t f2 t2)])/\Below w.heap.size w w':=by
 obtain⟨W,hW⟩:∃W,W=((w.alloc (Obj.cells #[.int .i64 f,.int .i64 t] 25)).alloc (Obj.cells #[.int .i64 f2,.int .i64 t2] 25)).alloc (Obj.cells #[.int .i64 0,.int .i64 0] 25):=⟨_,rfl⟩;have hw0:Below w.heap.size w W:=by rw[hW];go_grown
 have hz:W.heap.size=w.heap.size+3:=by rw[hW];simp
 have r0:W.heap[w.heap.size]?=some (Obj.cells #[.int .i64 f,.int .i64 t] 25):=by rw[hW,Below.heap_alloc _ _ _ (by simp<;>omega),Below.heap_alloc _ _ _ (by simp)];exact heap_alloc_new _ _
 have r1:W.heap[w.heap.size+1]?=some (Obj.cells #[.int .i64 f2,.int .i64 t2] 25):=by rw[hW,Below.heap_alloc _ _ _ (by simp<;>omega)];simpa using heap_alloc_new (w.alloc _) _
 have r2:W.heap[w.heap.size+1+1]?=some (Obj.cells #[.int .i64 0,.int .i64 0] 25):=by rw[hW];simpa using heap_alloc_new ((w.alloc _).alloc _) _
 obtain⟨X,hX⟩:∃X,X=(W.alloc (Obj.cells #[.int .i64 f,.int .i64 t] 25)).alloc (Obj.cells #[.int .i64 f2,.int .i64 t2] 25):=⟨_,rfl⟩;have hbX:Below W.heap.size W X:=by rw[hX];go_grown
 have hp1:yd X (.slice (some ⟨W.heap.size,0,none⟩) 1 1) [(f,t)]:=by rw[hX];exact(K0 (w:=W) f t).below ((Below.refl _ _).alloc (Nat.le_refl _) _)
 have hp2:yd X (.slice (some ⟨W.heap.size+1,0,none⟩) 1 1) [(f2,t2)]:=by rw[hX];have:=K0 (w:=W.alloc (Obj.cells #[.int .i64 f,.int .i64 t] 25)) f2 t2;simpa using this
 have Hc:=zb (Kt _ _ [(f,t)] [(f2,t2)] X hp1 hp2 (by simp));have HX:=zb hX;have HW:=zb hW;have Hz:=zb hz;have m0:W.cell? ⟨w.heap.size,0,none⟩=some (.int .i64 f):=cell_of_row W _ 0 _ _ _ r0;have m1:W.cell? ⟨w.heap.size,1,none⟩=some (.int .i64 t):=cell_of_row W _ 1 _ _ _ r0;have m2:W.cell? ⟨w.heap.size+1,0,none⟩=some (.int .i64 f2):=cell_of_row W _ 0 _ _ _ r1;have m3:W.cell? ⟨w.heap.size+1,1,none⟩=some (.int .i64 t2):=cell_of_row W _ 1 _ _ _ r1;have R2:=zb r2;have hw3:w.heap.size+1<W.heap.size:=by omega
 have hw4:¬w.heap.size+1=W.heap.size:=by omega
 have hw5:w.heap.size<W.heap.size:=by omega
 have hw6:¬w.heap.size=W.heap.size:=by omega
 rw[Uw]at Hc;have HV:=zb (show jW f t f2 t2=if yO f t f2 t2=true then .agg #[.int .i64 (max f f2),.int .i64 (min t t2)] else .agg #[.int .i64 0,.int .i64 0] from rfl);clear hW hX r0 r1 r2 hz hp1 hp2;cases hm:yO f t f2 t2 with
 |false=>
   rw[hm,if_neg (by decide)]at Hc;have HE:=zb (show jW f t f2 t2=.agg #[.int .i64 0,.int .i64 0] by rw[HV.out,if_neg (by rw[hm];decide)]);clear hm;go_enter Tryz.func30,Tryz.ntmps30;go_upto_region 1 with(fail);rw[<-HW.out];go_wp2_with fail;rw[<-HX.out];refine Hc.out.mono ?_;rintro e w1 ⟨v1,rfl,hp,hb⟩;obtain⟨a1,c1,rfl,-⟩:=hp;have hb2:=hbX.trans (hb.mono hbX.size);have hb3:=hw0.trans (hb2.mono hw0.size);have q:=(hb2.block (w.heap.size+1+1) (by rw[Hz.out];omega)).trans R2.out;have c0:w1.cell? ⟨w.heap.size+1+1,0,none⟩=some (.int .i64 0):=cell_of_row w1 _ 0 _ _ _ q;have c1':w1.cell? ⟨w.heap.size+1+1,1,none⟩=some (.int .i64 0):=cell_of_row w1 _ 1 _ _ _ q;have f0:w1.frozen? ⟨w.heap.size+1+1,0,none⟩=false:=by simp[World.frozen?,q]
   have f1:w1.frozen? ⟨w.heap.size+1+1,1,none⟩=false:=by simp[World.frozen?,q]
   clear m0 m1 m2 m3 q hb hb2 hw3 hw4 hw5 hw6;simp only[List.length_nil];go_wp2;rw[HE.out];exact bodyPost_ret (v:=.tuple #[.agg #[.int .i64 0,.int .i64 0],.bool false]) (by simp[results,Tryz.results30,go_sem,c0,c1']) rfl ⟨rfl,by go_grown⟩
 |true=>
   rw[hm,if_pos rfl]at Hc;have HE:=zb (show jW f t f2 t2=.agg #[.int .i64 (max f f2),.int .i64 (min t t2)] by rw[HV.out,if_pos hm]);clear hm HV;generalize max f f2=x at *;generalize min t t2=y at *;go_enter Tryz.func30,Tryz.ntmps30;go_upto_region 1 with(fail);rw[<-HW.out];go_wp2_with fail;rw[<-HX.out];refine Hc.out.mono ?_;rintro e w1 ⟨v1,rfl,hp,hb⟩;obtain⟨a1,c1,rfl,-,-,hx⟩:=hp;obtain⟨g,o,rfl,hg,hx⟩:=hx (by simp);obtain⟨y0,y1⟩:=hx 0 (by simp);simp only[List.getElem_cons_zero,Nat.zero_mul,Nat.add_zero]at y0 y1;have hb2:=hbX.trans (hb.mono hbX.size);have hb3:=hw0.trans (hb2.mono hw0.size);have q:=(hb2.block (w.heap.size+1+1) (by rw[Hz.out];omega)).trans R2.out;have c0:w1.cell? ⟨w.heap.size+1+1,0,none⟩=some (.int .i64 0):=cell_of_row w1 _ 0 _ _ _ q;have c1':w1.cell? ⟨w.heap.size+1+1,1,none⟩=some (.int .i64 0):=cell_of_row w1 _ 1 _ _ _ q;have f0:w1.frozen? ⟨w.heap.size+1+1,0,none⟩=false:=by simp[World.frozen?,q]
   have f1:w1.frozen? ⟨w.heap.size+1+1,1,none⟩=false:=by simp[World.frozen?,q]
   clear m0 m1 m2 m3 q hb hb2 hw3 hw4 hw5 hw6 hx;simp only[List.length_cons,List.length_nil];go_wp2;rw[HE.out];exact bodyPost_ret (v:=.tuple #[.agg #[.int .i64 x,.int .i64 y],.bool true]) (by simp[results,Tryz.results30,go_sem,c0,c1']) rfl ⟨rfl,by go_grown⟩
def MemP (C:List (Int×Int)) (x:Int):Prop:=∃q∈C,q.1<=x/\x<q.2
def Can:List (Int×Int)->Prop
 | []=>True
 |p::r=>p.1<p.2/\(∀q∈r,p.2<q.1)/\Can r
theorem uv (x:Int):¬MemP [] x:=by rintro⟨q,hq,-⟩;cases hq
theorem qJ (p:Int×Int) (r:List (Int×Int)) (x:Int):MemP (p::r) x↔(p.1<=x/\x<p.2)\/MemP r x:=by
 constructor
 · rintro⟨q,hq,h⟩
   rcases List.mem_cons.1 hq with rfl|hq;· exact Or.inl h
   exact Or.inr ⟨q,hq,h⟩
 rintro(h|⟨q,hq,h⟩);· exact⟨p,by simp,h⟩
 exact⟨q,by simp[hq],h⟩
theorem K9 (a b:List (Int×Int)) (x:Int):MemP (a++b) x↔MemP a x\/MemP b x:=by
 constructor
 · rintro⟨q,hq,h⟩
   rcases List.mem_append.1 hq with hq|hq;· exact Or.inl ⟨q,hq,h⟩
   exact Or.inr ⟨q,hq,h⟩
 rintro(⟨q,hq,h⟩|⟨q,hq,h⟩);· exact⟨q,List.mem_append_left _ hq,h⟩
 exact⟨q,List.mem_append_right _ hq,h⟩
theorem jA {p:Int×Int} {r:List (Int×Int)} (h:Can (p::r)) {x:Int} (hx:MemP r x):p.2<x:=by obtain⟨q,hq,h1,-⟩:=hx;have:=h.2.1 q hq;omega
theorem Qz:∀(C D:List (Int×Int)),Can C->Can D->(∀x,MemP C x↔MemP D x)->C=D:=by
 intro C;induction C with
 |nil=>
   intro D _ hD h;cases D with
   |nil=>rfl
   |cons p r=>exact absurd ((h p.1).2 ⟨p,by simp,Int.le_refl _,hD.1⟩) (uv _)
 |cons p r ih=>
   intro D hC hD h;cases D with
   |nil=>exact absurd ((h p.1).1 ⟨p,by simp,Int.le_refl _,hC.1⟩) (uv _)
   |cons q s=>
     have e1:p.1=q.1:=by
      have a1:=(h p.1).1 ⟨p,by simp,Int.le_refl _,hC.1⟩;have a2:=(h q.1).2 ⟨q,by simp,Int.le_refl _,hD.1⟩;rcases(qJ q s p.1).1 a1 with b1|b1<;>rcases(qJ p r q.1).1 a2 with b2|b2;· omega
      · have:=jA hC b2;have:=hC.1;omega
      · have:=jA hD b1;have:=hD.1;omega
      have:=jA hD b1;have:=jA hC b2;have:=hC.1;have:=hD.1;omega
     have e2:p.2=q.2:=by
      have hp:=hC.1;have hq:=hD.1;rcases Int.lt_trichotomy p.2 q.2 with hlt|heq|hgt
      · have a1:=(h p.2).2 ⟨q,by simp,by omega,hlt⟩
        rcases(qJ p r p.2).1 a1 with b|b;· omega
        have:=jA hC b;omega
      · exact heq
      have a1:=(h q.2).1 ⟨p,by simp,by omega,hgt⟩;rcases(qJ q s q.2).1 a1 with b|b;· omega
      have:=jA hD b;omega
     have epq:p=q:=Prod.ext e1 e2;subst epq
     congr 1
     refine ih s hC.2.2 hD.2.2 fun x=>⟨fun hx=>?_,fun hx=>?_⟩
     · have h1:=jA hC hx
       rcases(qJ p s x).1 ((h x).1 ((qJ p r x).2 (Or.inr hx)))with b|b;· omega
       exact b
     have h1:=jA hD hx;rcases(qJ p r x).1 ((h x).2 ((qJ p s x).2 (Or.inr hx)))with b|b;· omega
     exact b
theorem Yf:∀(M:List (Int×Int)) (p:Int×Int),Can (M++[p])↔Can M/\p.1<p.2/\∀q∈M,q.2<p.1:=by
 intro M;induction M with
 |nil=>intro p;simp[Can]
 |cons a M ih=>
   intro p;rw[List.cons_append,Can,Can,ih];constructor
   · rintro⟨h1,h2,h3,h4,h5⟩
     refine⟨⟨h1,fun q hq=>h2 q (List.mem_append_left _ hq),h3⟩,h4,fun q hq=>?_⟩;rcases List.mem_cons.1 hq with rfl|hq;· exact h2 p (by simp)
     exact h5 q hq
   rintro⟨⟨h1,h2,h3⟩,h4,h5⟩;refine⟨h1,fun q hq=>?_,h3,h4,fun q hq=>h5 q (by simp[hq])⟩;rcases List.mem_append.1 hq with hq|hq;· exact h2 q hq
   rw[List.mem_singleton.1 hq];exact h5 a (by simp)
theorem Qb:∀(l:List Int) (n x:Int),x∈addL l n↔x=n\/x∈l:=by
 intro l;induction l with
 |nil=>intro n x;rw[qQ];simp
 |cons y r ih=>
   intro n x;rcases Int.lt_trichotomy n y with h|h|h
   · rw[qt y n r h]
     simp only[List.mem_cons,List.mem_filter,decide_eq_true_eq];constructor
     · rintro(h|h|⟨h,-⟩)
       · exact Or.inl h
       · exact Or.inr (Or.inl h)
       exact Or.inr (Or.inr h)
     rintro(h|h|h);· exact Or.inl h
     · exact Or.inr (Or.inl h)
     by_cases e:x=n;· exact Or.inl e
     exact Or.inr (Or.inr ⟨h,e⟩)
   · subst h
     rw[qo];simp only[List.mem_cons,List.mem_filter,decide_eq_true_eq];constructor
     · rintro(h|⟨h,-⟩)
       · exact Or.inl h
       exact Or.inr (Or.inr h)
     rintro(h|h|h);iterate 2
      · exact Or.inl h
     · by_cases e:x=n
       · exact Or.inl e
       exact Or.inr ⟨h,e⟩
   rw[yf y n r h,List.mem_cons,ih];simp only[List.mem_cons];constructor
   · rintro(h|h|h)
     · exact Or.inr (Or.inl h)
     · exact Or.inl h
     exact Or.inr (Or.inr h)
   rintro(h|h|h);· exact Or.inr (Or.inl h)
   · exact Or.inl h
   exact Or.inr (Or.inr h)
theorem YU:∀(l:List Int) (n:Int),l.Pairwise (·<·)->(addL l n).Pairwise (·<·):=by
 intro l;induction l with
 |nil=>intro n _;rw[qQ];simp
 |cons y r ih=>
   intro n h;obtain⟨h1,h2⟩:=List.pairwise_cons.1 h;rcases Int.lt_trichotomy n y with hn|hn|hn
   · rw[qt y n r hn]
     refine List.pairwise_cons.2 ⟨fun z hz=>?_,List.pairwise_cons.2 ⟨fun z hz=>h1 z (List.mem_filter.1 hz).1,h2.filter _⟩⟩;rcases List.mem_cons.1 hz with rfl|hz;· exact hn
     have:=h1 z (List.mem_filter.1 hz).1;omega
   · subst hn
     rw[qo];exact List.pairwise_cons.2 ⟨fun z hz=>h1 z (List.mem_filter.1 hz).1,h2.filter _⟩
   rw[yf y n r hn];refine List.pairwise_cons.2 ⟨fun z hz=>?_,ih n h2⟩;rcases(Qb r n z).1 hz with rfl|hz;· exact hn
   exact h1 z hz
theorem Zg:∀(ps:List (Int×Int)) (l:List Int),l.Pairwise (·<·)->(zB l ps).Pairwise (·<·):=by
 intro ps;induction ps with
 |nil=>intro l h;exact h
 |cons p r ih=>
   intro l h;refine ih _ ?_;show(qi l p).Pairwise (·<·);unfold qi;split;· exact YU _ _ (YU _ _ h)
   exact h
theorem jh:∀(ps:List (Int×Int)) (l:List Int) (x:Int),x∈zB l ps↔x∈l\/∃p∈ps,ym p.1 p.2=true/\(x=p.1\/x=p.2):=by
 intro ps;induction ps with
 |nil=>intro l x;simp[zB]
 |cons p r ih=>
   intro l x;show x∈zB (qi l p) r↔_;rw[ih];unfold qi;by_cases hv:ym p.1 p.2=true
   · rw[if_pos hv,Qb,Qb]
     constructor
     · rintro((h|h|h)|⟨q,hq,h⟩)
       · exact Or.inr ⟨p,by simp,hv,Or.inr h⟩
       · exact Or.inr ⟨p,by simp,hv,Or.inl h⟩
       · exact Or.inl h
       exact Or.inr ⟨q,by simp[hq],h⟩
     rintro(h|⟨q,hq,h⟩);· exact Or.inl (Or.inr (Or.inr h))
     rcases List.mem_cons.1 hq with rfl|hq
     · rcases h.2 with h|h
       · exact Or.inl (Or.inr (Or.inl h))
       exact Or.inl (Or.inl h)
     exact Or.inr ⟨q,hq,h⟩
   rw[if_neg hv];constructor
   · rintro(h|⟨q,hq,h⟩)
     · exact Or.inl h
     exact Or.inr ⟨q,by simp[hq],h⟩
   rintro(h|⟨q,hq,h⟩);· exact Or.inl h
   rcases List.mem_cons.1 hq with rfl|hq;· exact absurd h.1 hv
   exact Or.inr ⟨q,hq,h⟩
theorem UB {C:List (Int×Int)} (h:Can C):∀q∈C,q.1<q.2:=by
 induction C with
 |nil=>intro q hq;cases hq
 |cons p r ih=>
   intro q hq;rcases List.mem_cons.1 hq with rfl|hq;· exact h.1
   exact ih h.2.2 q hq
theorem jO (M:List (Int×Int)) (p:Int×Int) (x:Int):MemP (M++[p]) x↔MemP M x\/(p.1<=x/\x<p.2):=by rw[K9,qJ];exact⟨fun h=>h.imp id fun h=>h.elim id fun h=>absurd h (uv x),fun h=>h.imp id Or.inl⟩
theorem Qy (O:List (Int×Int)) (x y:Int) (hO:Can O) (hxy:x<y) (hq:∀q∈O,q.2<=x):
 Can (vm O x y)/\(∀q∈vm O x y,q.2<=y)/\∀z,MemP (vm O x y) z↔MemP O z\/(x<=z/\z<y):=by
 by_cases h:O=[]
 · subst h
   rw[qX];refine⟨⟨hxy,fun q hq=>(by cases hq),trivial⟩,fun q hq=>?_,fun z=>?_⟩;· rw[List.mem_singleton.1 hq];exact Int.le_refl _
   exact jO [] (x,y) z
 obtain⟨M,q,rfl⟩:∃M z,O=M++[z]:=⟨_,_,(List.dropLast_concat_getLast h).symm⟩;obtain⟨c1,c2,c3⟩:=(Yf M q).1 hO;have hq2:=hq q (by simp);by_cases hz:q.2=x
 · rw[q8 M q x y hz]
   refine⟨(Yf M (q.1,y)).2 ⟨c1,by show q.1<y;omega,c3⟩,fun p hp=>?_,fun z=>?_⟩
   · rcases List.mem_append.1 hp with hp|hp
     · have:=hq p (List.mem_append_left _ hp);omega
     rw[List.mem_singleton.1 hp];exact Int.le_refl _
   rw[jO,jO,or_assoc];refine or_congr Iff.rfl ?_;show q.1<=z/\z<y↔_;omega
 rw[q7 M q x y hz];refine⟨(Yf (M++[q]) (x,y)).2 ⟨hO,hxy,fun p hp=>?_⟩,fun p hp=>?_,fun z=>jO _ _ z⟩
 · show p.2<x
   rcases List.mem_append.1 hp with hp|hp;· have:=c3 p hp;omega
   rw[List.mem_singleton.1 hp];omega
 rcases List.mem_append.1 hp with hp|hp;· have:=hq p hp;omega
 rw[List.mem_singleton.1 hp];exact Int.le_refl _
theorem um {l:List Int} (h:l.Pairwise (·<·)) {i j:Nat} (hij:i<j) (hj:j<l.length):l.getD i 0<l.getD j 0:=by rw[k9 l i 0 (by omega),k9 l j 0 hj];exact List.pairwise_iff_getElem.1 h i j (by omega) hj hij
theorem kj {l:List Int} (h:l.Pairwise (·<·)) {i j:Nat} (hij:i<=j) (hj:j<l.length):l.getD i 0<=l.getD j 0:=by
 rcases Nat.lt_or_eq_of_le hij with h1|h1;· exact Int.le_of_lt (um h h1 hj)
 subst h1;exact Int.le_refl _
theorem Xx (l:List Int) (sel:Int->Bool) (hl:l.Pairwise (·<·)):∀k,(k=0\/k<l.length)->
 Can (yL l sel k)/\(∀q∈yL l sel k,q.2<=l.getD k 0)/\∀z,MemP (yL l sel k) z↔∃i,i<k/\sel (l.getD i 0)=true/\l.getD i 0<=z/\z<l.getD (i+1) 0:=by
 intro k;induction k with
 |zero=>intro _;refine⟨trivial,fun q hq=>(by cases hq),fun z=>⟨fun h=>absurd h (uv z),?_⟩⟩;rintro⟨i,hi,-⟩;omega
 |succ k ih=>
   intro hk;have hk:k+1<l.length:=by omega
   obtain⟨i1,i2,i3⟩:=ih (by omega);have hlt:l.getD k 0<l.getD (k+1) 0:=um hl (Nat.lt_succ_self k) hk;rw[yL];by_cases hs:sel (l.getD k 0)=true
   · rw[if_pos hs]
     obtain⟨j1,j2,j3⟩:=Qy (yL l sel k) (l.getD k 0) (l.getD (k+1) 0) i1 hlt i2;refine⟨j1,j2,fun z=>?_⟩;rw[j3,i3];constructor
     · rintro(⟨i,h1,h2⟩|h)
       · exact⟨i,by omega,h2⟩
       exact⟨k,by omega,hs,h⟩
     rintro⟨i,h1,h2⟩;rcases Nat.lt_or_eq_of_le (Nat.le_of_lt_succ h1)with h3|h3;· exact Or.inl ⟨i,h3,h2⟩
     subst h3;exact Or.inr h2.2
   rw[if_neg hs];refine⟨i1,fun q hq=>by have:=i2 q hq;omega,fun z=>?_⟩;rw[i3];constructor;· rintro⟨i,h1,h2⟩;exact⟨i,by omega,h2⟩
   rintro⟨i,h1,h2⟩;rcases Nat.lt_or_eq_of_le (Nat.le_of_lt_succ h1)with h3|h3;· exact⟨i,h3,h2⟩
   subst h3;exact absurd h2.1 hs
theorem G9 (l:List Int) (x:Int):∀k,l.getD 0 0<=x->x<l.getD k 0->∃i,i<k/\l.getD i 0<=x/\x<l.getD (i+1) 0:=by
 intro k;induction k with
 |zero=>intro h1 h2;omega
 |succ k ih=>
   intro h1 h2;by_cases h:x<l.getD k 0
   · obtain⟨i,hi,h3⟩:=ih h1 h
     exact⟨i,by omega,h3⟩
   exact⟨k,by omega,by omega,h2⟩
theorem uS (ps:List (Int×Int)) (x:Int):inL ps x=true↔∃p∈ps,ym p.1 p.2=true/\p.1<=x/\x<p.2:=by unfold inL;rw[List.any_eq_true];refine exists_congr fun p=>and_congr Iff.rfl ?_;rw[yA,zw]
theorem JE (l:List Int) (ps:List (Int×Int)) (hl:l.Pairwise (·<·)) (hm:∀p∈ps,ym p.1 p.2=true->p.1∈l/\p.2∈l) (i:Nat) (hi:i+1<l.length) (x:Int)
 (h1:l.getD i 0<=x) (h2:x<l.getD (i+1) 0):inL ps x=inL ps (l.getD i 0):=by
 have key:∀y∈l,(y<=x↔y<=l.getD i 0):=by
  intro y hy;obtain⟨j,hj,rfl⟩:=List.mem_iff_getElem.1 hy;rw[<-k9 l j 0 hj];rcases Nat.lt_or_ge i j with h|h
  · have:=kj hl (Nat.succ_le_of_lt h) hj
    have:=um hl h hj;simp only[Nat.succ_eq_add_one]at *;omega
  have:=kj hl h (by omega);omega
 rw[Bool.eq_iff_iff,uS,uS];refine exists_congr fun p=>and_congr_right fun hp=>and_congr_right fun hv=>?_;have k1:=key _ (hm p hp hv).1;have k2:=key _ (hm p hp hv).2;omega
theorem Xk (l:List Int) (ps:List (Int×Int)) (hl:l.Pairwise (·<·)) (hm:∀p∈ps,ym p.1 p.2=true->p.1∈l/\p.2∈l) (x:Int) (h:inL ps x=true):
 ∃i,i<l.length-1/\l.getD i 0<=x/\x<l.getD (i+1) 0:=by
 obtain⟨p,hp,hv,h1,h2⟩:=(uS ps x).1 h;obtain⟨m1,m2⟩:=hm p hp hv;obtain⟨j,hj,e1⟩:=List.mem_iff_getElem.1 m1;obtain⟨k,hk,e2⟩:=List.mem_iff_getElem.1 m2;rw[<-k9 l j 0 hj]at e1;rw[<-k9 l k 0 hk]at e2;have a1:=kj hl (Nat.zero_le j) hj;have a2:=kj hl (show k<=l.length-1 by omega) (by omega);exact G9 l x (l.length-1) (by omega) (by omega)
theorem ZC (a b:List (Int×Int)) (ig inb:Bool):Can (vh a b ig inb)/\∀x,MemP (vh a b ig inb) x↔selB a b ig inb x=true:=by
 have hl:(zB (zB [] a) b).Pairwise (·<·):=Zg b _ (Zg a [] List.Pairwise.nil);have hma:∀p∈a,ym p.1 p.2=true->p.1∈zB (zB [] a) b/\p.2∈zB (zB [] a) b:=by intro p hp hv;exact⟨(jh b _ _).2 (Or.inl ((jh a _ _).2 (Or.inr ⟨p,hp,hv,Or.inl rfl⟩))),(jh b _ _).2 (Or.inl ((jh a _ _).2 (Or.inr ⟨p,hp,hv,Or.inr rfl⟩)))⟩
 have hmb:∀p∈b,ym p.1 p.2=true->p.1∈zB (zB [] a) b/\p.2∈zB (zB [] a) b:=by intro p hp hv;exact⟨(jh b _ _).2 (Or.inr ⟨p,hp,hv,Or.inl rfl⟩),(jh b _ _).2 (Or.inr ⟨p,hp,hv,Or.inr rfl⟩)⟩
 obtain⟨c1,-,c3⟩:=Xx (zB (zB [] a) b) (selB a b ig inb) hl ((zB (zB [] a) b).length-1) (by omega);refine⟨c1,fun x=>?_⟩;unfold vh;rw[c3];have same:∀i,i<(zB (zB [] a) b).length-1->(zB (zB [] a) b).getD i 0<=x->x<(zB (zB [] a) b).getD (i+1) 0->selB a b ig inb x=selB a b ig inb ((zB (zB [] a) b).getD i 0):=by intro i hi h1 h2;unfold selB;rw[JE _ a hl hma i (by omega) x h1 h2,JE _ b hl hmb i (by omega) x h1 h2]
 constructor
 · rintro⟨i,hi,hs,h1,h2⟩
   rw[same i hi h1 h2];exact hs
 intro h;have ha:inL a x=true:=by unfold selB at h;rw[Bool.and_eq_true]at h;exact h.1
 obtain⟨i,hi,h1,h2⟩:=Xk _ a hl hma x ha;exact⟨i,hi,by rw[<-same i hi h1 h2];exact h,h1,h2⟩
end Go.Proofs.YtngippiilgdnoaaGreat
namespace Go.Proofs.YtngippiilgdnoaaGreat
open Go.RowKit
open Go.RowKit
open Go.RowKit
end Go.Proofs.YtngippiilgdnoaaGreat
namespace Go.Proofs.YtngippiilgdnoaaGreat
open Go.RowKit
def chg (j:Int) (ps:List (Int×Int)):List (Int×Int×Int):=ps.flatMap fun p=>if ym p.1 p.2=true then [(p.1,j,1),(p.2,j,-1)] else []
def cnt (j x:Int):List (Int×Int×Int)->Int
 | []=>0
 |c::r=>(if c.2.1=j/\c.1<=x then c.2.2 else 0)+cnt j x r
theorem j5 (j x:Int) (a b:List (Int×Int×Int)):cnt j x (a++b)=cnt j x a+cnt j x b:=by
 induction a with
 |nil=>show cnt j x b=0+cnt j x b;omega
 |cons c r ih=>show(if c.2.1=j/\c.1<=x then c.2.2 else 0)+cnt j x (r++b)=(if c.2.1=j/\c.1<=x then c.2.2 else 0)+cnt j x r+cnt j x b;rw[ih];omega
theorem Ux (j x:Int) {a b:List (Int×Int×Int)} (h:a.Perm b):cnt j x a=cnt j x b:=by
 induction h with
 |nil=>rfl
 |cons c _ ih=>show _+cnt j x _=_+cnt j x _;rw[ih]
 |swap c d l=>show(if d.2.1=j/\d.1<=x then d.2.2 else 0)+((if c.2.1=j/\c.1<=x then c.2.2 else 0)+cnt j x l)=(if c.2.1=j/\c.1<=x then c.2.2 else 0)+((if d.2.1=j/\d.1<=x then d.2.2 else 0)+cnt j x l);omega
 |trans _ _ h1 h2=>exact h1.trans h2
theorem Qu (j x:Int) (l:List (Int×Int×Int)) (h:∀c∈l,x<c.1):cnt j x l=0:=by
 induction l with
 |nil=>rfl
 |cons c r ih=>have h1:=h c (by simp);show(if c.2.1=j/\c.1<=x then c.2.2 else 0)+cnt j x r=0;rw[ih fun d hd=>h d (by simp[hd]),if_neg (by omega)];rfl
theorem Qw (j:Int) (p:Int×Int) (r:List (Int×Int)):chg j (p::r)=(if ym p.1 p.2=true then [(p.1,j,1),(p.2,j,-1)] else [])++chg j r:=rfl
theorem JL (j i x:Int) (hij:i≠j) (ps:List (Int×Int)):cnt j x (chg i ps)=0:=by
 induction ps with
 |nil=>rfl
 |cons p r ih=>
   rw[Qw,j5,ih];split;· simp[cnt,hij]
   rfl
theorem Wr (j x:Int) (ps:List (Int×Int)):0<=cnt j x (chg j ps)/\(0<cnt j x (chg j ps)↔inL ps x=true):=by
 induction ps with
 |nil=>exact⟨Int.le_refl _,by simp[chg,cnt,inL]⟩
 |cons p r ih=>
   have e:inL (p::r) x=(vg p.1 p.2 x||inL r x):=rfl;rw[Qw,j5,e,Bool.or_eq_true,<-ih.2,yA,<-zw];by_cases hv:ym p.1 p.2=true
   · have hv2:=(zw _ _).1 hv
     rw[if_pos hv];have e2:cnt j x [(p.1,j,1),(p.2,j,-1)]=(if p.1<=x then 1 else 0)+(if p.2<=x then -1 else 0):=by simp[cnt]
     rw[e2];have:=ih.1;simp only[hv,true_and];split<;>split<;>constructor<;>omega
   rw[if_neg hv];have:=ih.1;have e3:cnt j x []+cnt j x (chg j r)=cnt j x (chg j r):=by show 0+_=_;omega
   refine⟨by omega,?_⟩;constructor;· intro h;exact Or.inr (by omega)
   rintro(h|h);· exact absurd h.1 hv
   omega
def bump (o:Int×Int) (c:Int×Int×Int):Int×Int:=if c.2.1=0 then (o.1+c.2.2,o.2) else (o.1,o.2+c.2.2)
def qL (O:List (Int×Int)) (ins now:Bool) (t:Int):List (Int×Int):=
 if now=true/\ins=false then O++[(t,0)] else if now=false/\ins=true then O.dropLast++[((O.getLast?.getD (0,0)).1,t)] else O
def qS (is:Bool->Bool->Bool) (S:List (Int×Int×Int)) (k:Nat) (s:(Int×Int)×Bool×List (Int×Int)):(Int×Int)×Bool×List (Int×Int):=
 let c:=S.getD k (0,0,0)
 let o:=bump s.1 c
 if k+1<S.length/\(S.getD (k+1) (0,0,0)).1=c.1 then (o,s.2)
 else (o,is (decide (0<o.1)) (decide (0<o.2)),qL s.2.2 s.2.1 (is (decide (0<o.1)) (decide (0<o.2))) c.1)
def yh (is:Bool->Bool->Bool) (S:List (Int×Int×Int)):Nat->(Int×Int)×Bool×List (Int×Int)
 |0=>((0,0),false,[])
 |k+1=>qS is S k (yh is S k)
def totC (j:Int):List (Int×Int×Int)->Int
 | []=>0
 |c::r=>(if c.2.1=j then c.2.2 else 0)+totC j r
theorem KM (j:Int) (l:List (Int×Int×Int)) (c:Int×Int×Int):totC j (l++[c])=totC j l+(if c.2.1=j then c.2.2 else 0):=by
 induction l with
 |nil=>show _+0=0+_;omega
 |cons d r ih=>show _+totC j (r++[c])=_+totC j r+_;rw[ih];omega
theorem NS (j x:Int) (l:List (Int×Int×Int)) (h:∀c∈l,c.1<=x):cnt j x l=totC j l:=by
 induction l with
 |nil=>rfl
 |cons c r ih=>
   have h1:=h c (by simp);show(if c.2.1=j/\c.1<=x then c.2.2 else 0)+cnt j x r=(if c.2.1=j then c.2.2 else 0)+totC j r;rw[ih fun d hd=>h d (by simp[hd])];by_cases e:c.2.1=j;· rw[if_pos ⟨e,h1⟩,if_pos e]
   rw[if_neg fun h=>e h.1,if_neg e]
theorem XQ (is:Bool->Bool->Bool) (S:List (Int×Int×Int)) (hl:∀c∈S,c.2.1=0\/c.2.1=1):∀k,k<=S.length->(yh is S k).1=(totC 0 (S.take k),totC 1 (S.take k)):=by
 intro k;induction k with
 |zero=>intro _;rfl
 |succ k ih=>
   intro hk;have hk':k<S.length:=hk;have e1:(yh is S (k+1)).1=bump (yh is S k).1 (S.getD k (0,0,0)):=by show(qS is S k (yh is S k)).1=_;unfold qS;simp only[];split<;>rfl
   have e2:S.getD k (0,0,0)=S[k]:=by simp[List.getD,hk']
   rw[e1,ih (by omega),e2,List.take_succ_eq_append_getElem hk',KM,KM];unfold bump;rcases hl S[k] (List.getElem_mem hk')with h|h
   · rw[if_pos h,if_pos h,if_neg (by omega)]
     simp
   rw[if_neg (by omega),if_neg (by omega),if_pos h];simp
def Bef (S:List (Int×Int×Int)) (k:Nat) (x:Int):Prop:=k<S.length->x<(S.getD k (0,0,0)).1
def E5 (S:List (Int×Int×Int)) (P:Int->Bool) (k:Nat) (ins:Bool) (O:List (Int×Int)):Prop:=
 (ins=false/\Can O/\(∀q∈O,Bef S k q.2)/\∀x,Bef S k x->(MemP O x↔P x=true))\/
 (ins=true/\∃M s,O=M++[(s,0)]/\Can M/\(∀q∈M,q.2<s)/\Bef S k s/\∀x,Bef S k x->((MemP M x\/s<=x)↔P x=true))
theorem Qa {M:List (Int×Int)} {s x:Int} (h:∀q∈M,q.2<s) (hx:MemP M x):x<s:=by obtain⟨q,hq,-,h2⟩:=hx;have:=h q hq;omega
theorem xz (is:Bool->Bool->Bool) (S:List (Int×Int×Int)) (A B:Int->Bool) (h00:is false false=false) (hl:∀c∈S,c.2.1=0\/c.2.1=1) (hs:S.Pairwise (fun c d=>c.1<=d.1))
 (hA:∀x,0<cnt 0 x S↔A x=true) (hB:∀x,0<cnt 1 x S↔B x=true):
 ∀k,k<=S.length->E5 S (fun x=>is (A x) (B x)) k (yh is S k).2.1 (yh is S k).2.2:=by
 have dA:∀x,A x=decide (0<cnt 0 x S):=fun x=>by rw[Bool.eq_iff_iff,decide_eq_true_eq,hA]
 have dB:∀x,B x=decide (0<cnt 1 x S):=fun x=>by rw[Bool.eq_iff_iff,decide_eq_true_eq,hB]
 have at_:∀i (h:i<S.length),S.getD i (0,0,0)=S[i]:=fun i h=>by simp[List.getD,h]
 have ord:∀i j (hij:i<=j) (hj:j<S.length),(S.getD i (0,0,0)).1<=(S.getD j (0,0,0)).1:=by
  intro i j hij hj;rcases Nat.lt_or_eq_of_le hij with h|h
  · rw[at_ i (by omega),at_ j hj]
    exact List.pairwise_iff_getElem.1 hs i j (by omega) hj h
  subst h;exact Int.le_refl _
 intro k;induction k with
 |zero=>
   intro _;refine Or.inl ⟨rfl,trivial,fun q hq=>(by cases hq),fun x hx=>⟨fun h=>absurd h (uv x),fun h=>?_⟩⟩;exfalso;have late:∀c∈S,x<c.1:=by intro c hc;obtain⟨i,hi,rfl⟩:=List.mem_iff_getElem.1 hc;have h1:=hx (by omega);have h2:=ord 0 i (Nat.zero_le i) hi;rw[at_ i hi]at h2;omega
   have h':is (A x) (B x)=true:=h;rw[dA,dB,Qu 0 x S late,Qu 1 x S late]at h';rw[show decide ((0:Int)<0)=false from rfl,h00]at h';cases h'
 |succ k ih=>
   intro hk;have hk':k<S.length:=hk;have I:=ih (by omega);have ho:=XQ is S hl (k+1) hk;have hb1:bump (yh is S k).1 (S.getD k (0,0,0))=(totC 0 (S.take (k+1)),totC 1 (S.take (k+1))):=by rw[<-ho];show _=(qS is S k (yh is S k)).1;unfold qS;simp only[];split<;>rfl
   show E5 S _ (k+1) (qS is S k (yh is S k)).2.1 (qS is S k (yh is S k)).2.2;unfold qS;simp only[];by_cases hc:k+1<S.length/\(S.getD (k+1) (0,0,0)).1=(S.getD k (0,0,0)).1
   · rw[if_pos hc]
     have hbef:∀x,Bef S (k+1) x↔Bef S k x:=by intro x;unfold Bef;rw[hc.2];exact⟨fun h _=>h hc.1,fun h _=>h hk'⟩
     unfold E5 at I⊢;simp only[hbef];exact I
   rw[if_neg hc,hb1];generalize ht:(S.getD k (0,0,0)).1=t at hc⊢
   -- the next change,if any,comes later
   have later:∀x,Bef S k x->Bef S (k+1) x:=by intro x hx hk2;have h1:=hx hk';have h2:=ord k (k+1) (by omega) hk2;omega
   have tbef:Bef S (k+1) t:=by intro hk2;have h2:=ord k (k+1) (by omega) hk2;have:¬(S.getD (k+1) (0,0,0)).1=t:=fun e=>hc ⟨hk2,e⟩;omega
   have kt:∀x,Bef S k x↔x<t:=fun x=>⟨fun h=>by have:=h hk';omega,fun h _=>by omega⟩;have now:∀x,t<=x->Bef S (k+1) x->is (A x) (B x)=is (decide (0<totC 0 (S.take (k+1)))) (decide (0<totC 1 (S.take (k+1)))):=by
    intro x h1 h2;have e:∀j,cnt j x S=totC j (S.take (k+1)):=by
     intro j;have es:cnt j x S=cnt j x (S.take (k+1)++S.drop (k+1)):=by rw[List.take_append_drop]
     rw[es,j5,Qu j x (S.drop (k+1)),NS j x (S.take (k+1)),Int.add_zero]
     · intro c hc2
       obtain⟨i,hi,rfl⟩:=List.mem_iff_getElem.1 hc2;rw[List.length_take]at hi;rw[List.getElem_take];have h3:=ord i k (by omega) hk';rw[at_ i (by omega)]at h3;omega
     intro c hc2;obtain⟨i,hi,rfl⟩:=List.mem_iff_getElem.1 hc2;rw[List.length_drop]at hi;rw[List.getElem_drop];have h3:=ord (k+1) (k+1+i) (by omega) (by omega);rw[at_ (k+1+i) (by omega)]at h3;have h4:=h2 (by omega);omega
    rw[dA,dB,e,e]
   generalize hn:is (decide (0<totC 0 (S.take (k+1)))) (decide (0<totC 1 (S.take (k+1))))=n at now⊢;generalize (yh is S k).2.1=ins at I⊢;generalize (yh is S k).2.2=O at I⊢;rcases I with⟨i0,i1,i2,i3⟩|⟨i0,M,s,i1,i2,i3,i4,i5⟩
   · subst i0
     cases n with
     |true=>
       have eo:qL O false true t=O++[(t,0)]:=if_pos ⟨rfl,rfl⟩;rw[eo];refine Or.inr ⟨rfl,O,t,rfl,i1,fun q hq=>(kt _).1 (i2 q hq),tbef,fun x hx=>?_⟩;rcases Int.lt_or_le x t with h|h
       · rw[<-i3 x ((kt x).2 h)]
         exact⟨fun g=>g.elim id fun g=>by omega,Or.inl⟩
       exact⟨fun _=>now x h hx,fun _=>Or.inr h⟩
     |false=>
       have eo:qL O false false t=O:=by unfold qL;rw[if_neg (by simp),if_neg (by simp)]
       rw[eo];refine Or.inl ⟨rfl,i1,fun q hq=>later _ (i2 q hq),fun x hx=>?_⟩;rcases Int.lt_or_le x t with h|h;· exact i3 x ((kt x).2 h)
       refine⟨fun g=>?_,fun g=>?_⟩;· have:=Qa (fun q hq=>(kt _).1 (i2 q hq)) g;omega
       have:=now x h hx;exact absurd (this.symm.trans g) (by decide)
   subst i0;subst i1;have hst:s<t:=(kt s).1 i4;cases n with
   |true=>
     have eo:qL (M++[(s,0)]) true true t=M++[(s,0)]:=by unfold qL;rw[if_neg (by simp),if_neg (by simp)]
     rw[eo];refine Or.inr ⟨rfl,M,s,rfl,i2,i3,later s i4,fun x hx=>?_⟩;rcases Int.lt_or_le x t with h|h;· exact i5 x ((kt x).2 h)
     exact⟨fun _=>now x h hx,fun _=>Or.inr (by omega)⟩
   |false=>
     have eo:qL (M++[(s,0)]) true false t=M++[(s,t)]:=by unfold qL;rw[if_neg (by simp),if_pos ⟨rfl,rfl⟩,List.getLast?_concat,List.dropLast_concat];rfl
     rw[eo];refine Or.inl ⟨rfl,(Yf M (s,t)).2 ⟨i2,hst,i3⟩,fun q hq=>?_,fun x hx=>?_⟩
     · rcases List.mem_append.1 hq with hq|hq
       · have:=i3 q hq
         exact later _ ((kt _).2 (by omega))
       rw[List.mem_singleton.1 hq];exact tbef
     rw[jO];show MemP M x\/(s<=x/\x<t)↔_;rcases Int.lt_or_le x t with h|h
     · rw[<-i5 x ((kt x).2 h)]
       exact or_congr Iff.rfl (and_iff_left h)
     refine⟨fun g=>?_,fun g=>?_⟩
     · rcases g with g|g
       · have:=Qa i3 g;omega
       omega
     have:=now x h hx;exact absurd (this.symm.trans g) (by decide)
theorem Wj (ps:List (Int×Int)) (x:Int) (h:12622780800<=x):inL ps x=false:=by rw[Bool.eq_false_iff];intro g;obtain⟨p,-,hv,-,h2⟩:=(uS ps x).1 g;have:=(zw _ _).1 hv;omega
theorem WK (is:Bool->Bool->Bool) (S:List (Int×Int×Int)) (a b:List (Int×Int)) (h00:is false false=false) (hp:S.Perm (chg 0 a++chg 1 b)) (hs:S.Pairwise (fun c d=>c.1<=d.1)):
 (yh is S S.length).2.1=false/\Can (yh is S S.length).2.2/\∀x,MemP (yh is S S.length).2.2 x↔is (inL a x) (inL b x)=true:=by
 have hchg:∀j ps,∀c∈chg j ps,c.2.1=j:=by
  intro j ps c hc;obtain⟨p,-,h⟩:=List.mem_flatMap.1 hc;split at h
  · rcases List.mem_cons.1 h with rfl|h
    · rfl
    rw[List.mem_singleton.1 h]
  cases h
 have hl:∀c∈S,c.2.1=0\/c.2.1=1:=by
  intro c hc;rcases List.mem_append.1 (hp.mem_iff.1 hc)with h|h;· exact Or.inl (hchg _ _ c h)
  exact Or.inr (hchg _ _ c h)
 have hA:∀x,0<cnt 0 x S↔inL a x=true:=by intro x;rw[Ux 0 x hp,j5,JL 0 1 x (by decide),Int.add_zero];exact(Wr 0 x a).2
 have hB:∀x,0<cnt 1 x S↔inL b x=true:=by intro x;rw[Ux 1 x hp,j5,JL 1 0 x (by decide),Int.zero_add];exact(Wr 1 x b).2
 have I:=xz is S (inL a) (inL b) h00 hl hs hA hB S.length (Nat.le_refl _);have all:∀x,Bef S S.length x:=fun x h=>absurd h (Nat.lt_irrefl _);rcases I with⟨i0,i1,-,i3⟩|⟨i0,M,s,i1,i2,i3,-,i5⟩;· exact⟨i0,i1,fun x=>i3 x (all x)⟩
 exfalso;have h1:=(i5 (max s 12622780800) (all _)).1 (Or.inr (Int.le_max_left _ _));have h2:is (inL a (max s 12622780800)) (inL b (max s 12622780800))=true:=h1;rw[Wj a _ (Int.le_max_right _ _),Wj b _ (Int.le_max_right _ _),h00]at h2;cases h2
theorem JT (is:Bool->Bool->Bool) (S:List (Int×Int×Int)) (a b:List (Int×Int)) (ig inb:Bool) (h00:is false false=false) (hp:S.Perm (chg 0 a++chg 1 b)) (hs:S.Pairwise (fun c d=>c.1<=d.1))
 (hi:∀x y,is x y=(x&&(ig||(y==inb)))):(yh is S S.length).2.2=vh a b ig inb:=by
 obtain⟨-,h1,h2⟩:=WK is S a b h00 hp hs;obtain⟨c1,c2⟩:=ZC a b ig inb;refine Qz _ _ h1 c1 fun x=>?_;rw[h2,c2,hi];exact Iff.rfl
def jK (c:Int×Int×Int):List Value:=[.int .i64 c.1,.int .i64 c.2.1,.int .i64 c.2.2]
theorem Tryz.chInfo:(Tryz.prog.info? 216).map (fun i=>(i.zero,i.size,i.bytes))=some (some (.agg #[.int .i64 0,.int .i64 0,.int .i64 0]),3,24):=by kernel_rfl
def ChR (w:World) (b o:Nat) (c:Int×Int×Int):Prop:=w.cell? ⟨b,o,none⟩=some (.int .i64 c.1)/\w.cell? ⟨b,o+1,none⟩=some (.int .i64 c.2.1)/\w.cell? ⟨b,o+2,none⟩=some (.int .i64 c.2.2)
theorem ChR.stays:Yl ChR:=fun _ _ b _ _ hb hB ⟨h0,h1,h2⟩=>⟨(hb.cell (p:=⟨b,_,none⟩) hB).trans h0,(hb.cell (p:=⟨b,_,none⟩) hB).trans h1,(hb.cell (p:=⟨b,_,none⟩) hB).trans h2⟩
def JR (w:World) (v:Value) (l:List (Int×Int×Int)):Prop:=zz 3 ChR w v l
theorem JR.below {w w':World} {v:Value} {l:List (Int×Int×Int)} (h:JR w v l) (hb:Below w.heap.size w w'):JR w' v l:=zz.below ChR.stays h hb
def UP (B:Nat) (N:List (Int×Int×Int)) (v:Value) (w:World) (e:Ending) (w':World):Prop:=
 e=.returned (.tuple #[])/\Below B w w'/\∃S:List (Int×Int×Int),S.Perm N/\S.Pairwise (fun c e=>c.1<=e.1)/\S.length=N.length/\JR w' v S
theorem ZV {w w':World} {base:Nat} {e:TypeId} {sz n:Nat} {v:Value} {xs:List Value} (h:w.ownsRow base e sz v n xs) (hb:∀g,v.ownBlock=some g->w'.heap[g]?=w.heap[g]?):w'.ownsRow base e sz v n xs:=by
 obtain⟨h1,h2⟩:=h;refine⟨h1,?_⟩;rcases h2 with h2|⟨g,cap,cur,hv,hg,hh,r⟩;· exact Or.inl h2
 exact Or.inr ⟨g,cap,cur,hv,hg,(hb g (by rw[hv];rfl)).trans hh,r⟩
theorem EJ (j:Int) (l:List (Int×Int)) (k:Nat) (h:k<l.length):chg j (l.take (k+1))=chg j (l.take k)++(if ym l[k].1 l[k].2=true then [(l[k].1,j,1),(l[k].2,j,-1)] else []):=by
 unfold chg;rw[List.take_succ_eq_append_getElem h,List.flatMap_append]
 congr 1
 simp
theorem Kw (j:Int) (l:List (Int×Int)):(chg j l).length<=2*l.length:=by
 induction l with
 |nil=>exact Nat.le_refl _
 |cons p r ih=>
   rw[Qw,List.length_append,List.length_cons];split;· simp;omega
   simp;omega
def Zm (w0:World) (N:List (Int×Int×Int)) (w:World):Prop:=
 Below w0.heap.size w0 w/\w0.heap.size<w.heap.size/\∃v,w.cell? ⟨w0.heap.size,0,none⟩=some v/\w.frozen? ⟨w0.heap.size,0,none⟩=false/\w.ownsRow (w0.heap.size+1) 216 3 v N.length (N.flatMap jK)
theorem Zm.below {w0 w w':World} {N:List (Int×Int×Int)} (h:Zm w0 N w) (hb:Below w.heap.size w w'):Zm w0 N w':=by obtain⟨h1,h2,v,h3,h4,h5⟩:=h;exact⟨h1.trans (hb.mono h1.size),Nat.lt_of_lt_of_le h2 hb.size,v,(hb.cell (p:=⟨w0.heap.size,0,none⟩) h2).trans h3,(hb.frozen (p:=⟨w0.heap.size,0,none⟩) h2).trans h4,zd h5 hb⟩
def VarTo (w0:World) (N:List (Int×Int×Int)) (e:Ending) (w':World):Prop:=e=.returned (.tuple #[])/\Zm w0 N w'
theorem Z9 (w0 w:World) (vl:Value) (l:List (Int×Int)) (j:Int) (L:List (Int×Int×Int)) (hl:yd w0 vl l) (hn:L.length+2*l.length<=8000) (hV:Zm w0 L w):
 Calls Tryz.prog 160 #[vl,.int .i64 j,.pointer (some ⟨w0.heap.size,0,none⟩)] w (VarTo w0 (L++chg j l)):=by
 have hlh:=hl;obtain⟨av,cap,rfl,hlc,hm,-⟩:=hl;have hm:=hm.1;unfold maxLen at hm;go_enter Tryz.func160,Tryz.ntmps160;go_wp2_with fail;go_loopw [9] (fun i wr=>∃k:Nat,k<=l.length/\i=.int .i64 k/\Zm w0 (L++chg j (l.take k)) wr) (fun i _=>l.length-(intOf i).toNat);case atStart=>exact⟨0,Nat.zero_le _,rfl,by rw[List.take_zero,show chg j []=[] from rfl,List.append_nil];exact hV⟩
 case round=>
  obtain⟨k,hk,rfl,hv⟩:=hrel;by_cases hlt:k<l.length
  · obtain⟨hb,hcw,v,hcell,hfr,hown⟩:=hv
    obtain⟨av2,cap2,e2,-,-,hx⟩:=hlh.below hb;cases e2;obtain⟨b,o,rfl,hB,hx⟩:=hx (by rintro rfl;cases hlt);obtain⟨c0,c1⟩:=hx k hlt;have hk0:(0:Int)<=(k:Int):=Int.natCast_nonneg _;have hk1:(k:Int)<(l.length:Int):=by omega
    have hsn:=EJ j l k hlt;have hcl:=Kw j (l.take k);rw[List.length_take,Nat.min_eq_left hk]at hcl;have hlen:(L++chg j (l.take k)).length<=8000:=by rw[List.length_append];omega
    clear hx hcl;generalize l[k]=p at *;obtain⟨x1,x2⟩:=p;dsimp only at *;obtain⟨N,hN⟩:∃N,N=L++chg j (l.take k):=⟨_,rfl⟩;rw[<-hN]at hown hlen;obtain⟨W,hW⟩:∃W,W=wr.alloc (Obj.cells #[Value.int .i64 x1,Value.int .i64 x2] 25):=⟨_,rfl⟩;have hbW:Below wr.heap.size wr W:=by rw[hW];exact(Below.refl _ _).alloc (Nat.le_refl _) _
    have hzW:wr.heap.size<W.heap.size:=by rw[hW];simp
    have rW:W.heap[wr.heap.size]?=some (Obj.cells #[Value.int .i64 x1,Value.int .i64 x2] 25):=by rw[hW];exact heap_alloc_new _ _
    have HVW:=zb (show Zm w0 N W from Zm.below ⟨hb,hcw,v,hcell,hfr,hown⟩ hbW);have hbz:=hb.size;clear hcell hfr hown v;have HW:=zb hW;have RW:=zb rW;have HN:=zb hN;have Hv:=zb (jv x1 x2 W);have HSN:=zb hsn;clear hW rW hN hsn;cases hct:ym x1 x2 with
    |false=>have HE:=zb (show L++chg j (l.take (k+1))=N by rw[HN.out,HSN.out,if_neg (by rw[hct];decide),List.append_nil]);rw[hct]at Hv;clear hct;go_wp2_with fail;rw[<-HW.out];refine Hv.out.mono ?_;rintro e w3 ⟨rfl,hb3⟩;have HV3:=zb (HVW.out.below hb3);go_wp2;exact⟨⟨k+1,by omega,by go_num,by rw[HE.out];exact HV3.out⟩,by simp[intOf];omega⟩
    |true=>
      have HE:=zb (show L++chg j (l.take (k+1))=N++[(x1,j,1),(x2,j,-1)] by rw[HN.out,HSN.out,if_pos hct,List.append_assoc]);rw[hct]at Hv;clear hct;go_wp2_with fail;rw[<-HW.out];refine Hv.out.mono ?_;rintro e w3 ⟨rfl,hb3⟩;obtain⟨hb4,hcw4,v,hcell,hfr,hown⟩:=HVW.out.below hb3;have q:=(hb3.block _ hzW).trans RW.out;have q0:w3.cell? ⟨wr.heap.size,0,none⟩=some (.int .i64 x1):=cell_of_row w3 _ 0 _ _ _ q;have q1:w3.cell? ⟨wr.heap.size,1,none⟩=some (.int .i64 x2):=cell_of_row w3 _ 1 _ _ _ q;obtain⟨ao,co,rfl,hco,-⟩:=zf hown;obtain⟨i0,hi,hz0,hz1,hz2⟩:=info_parts Tryz.chInfo;have Hi:=zb (And.intro hi (And.intro hz0 (And.intro hz1 hz2)));have Hown:=zb hown;have Hfr:=zb hfr;have Hcell:=zb hcell;have HB4:=zb hb4;have hz4:=hb4.size;clear hi hz0 hz1 hz2 q hb3 hown;have hcw5:¬w0.heap.size=w3.heap.size:=by omega
      have hcw6:w0.heap.size<w3.heap.size+1:=by omega
      go_wp2_with (at_builtin;refine wpList_append_own _ rfl _ _ 214 rfl (w0.heap.size+1) 216 i0 _ 3 24 Tryz.underlying214 Hi.out.1 Hi.out.2.1 Hi.out.2.2.1 Hi.out.2.2.2 rfl (by decide) _ _ _ rfl (Hown.out.alloc _) ⟨w3.heap.size,0,none⟩ 2 2 [.int .i64 x1,.int .i64 j,.int .i64 1,.int .i64 x2,.int .i64 j,.int .i64 (-1)] rfl rfl (World.news_of_block (cs:=#[.int .i64 x1,.int .i64 j,.int .i64 1,.int .i64 x2,.int .i64 j,.int .i64 (-1)]) (t:=216) (fr:=(0,0)) (heap_alloc_new _ _)) ?aq2 ?aq3 ?aq4 ?aq5 ?_);case aq2=>simp[Value.oneCell']
      case aq3=>unfold maxLen;(try simp only[List.length_append,List.length_cons,List.length_nil]);omega
      case aq4=>(try simp only[List.length_append,List.length_cons,List.length_nil]);omega
      case aq5=>(try simp);omega
      intro v_w2 w2 hown_w2 hgrow _;have hb2:Below (w0.heap.size+1) w3 w2:=((Below.refl (w0.heap.size+1) w3).alloc (by omega) _).grown hgrow (by simp;omega) (fun g hg=>(zg Hown.out g hg).1);have hcell2:w2.cell? ⟨w0.heap.size,0,none⟩=some (.slice ao N.length co):=(hb2.cell (p:=⟨w0.heap.size,0,none⟩) (by simp)).trans Hcell.out;have hfr2:w2.frozen? ⟨w0.heap.size,0,none⟩=false:=(hb2.frozen (p:=⟨w0.heap.size,0,none⟩) (by simp)).trans Hfr.out;have hz2:=hb2.size;have hb5:Below w0.heap.size w0 w2:=HB4.out.trans (hb2.mono (by omega));have Hown2:=zb hown_w2;clear hown_w2 hgrow;obtain⟨ao2,co2,rfl,-,-⟩:=zf Hown2.out;go_wp2;refine⟨⟨k+1,by omega,by go_num,?_⟩,by simp[intOf];omega⟩;rw[HE.out];refine⟨hb5.setCell (Nat.le_refl _) _,by simp;omega,_,World.cell?_setCell_same _ _ _ hcell2,by simpa using hfr2,?_⟩;refine ZV (w:=w2) ?_ (fun g hg=>Below.heap_setCell _ _ _ _ (by have:=(zg Hown2.out g hg).1;simp;omega));rw[List.flatMap_append,List.length_append];exact Hown2.out
  go_wp2;go_end0;rw[List.take_of_length_le (by omega)]at hv;exact⟨rfl,hv⟩
theorem Ws (j:Int) (l:List (Int×Int)):∀c∈chg j l,(0<=c.1/\c.1<=12622780800)/\c.2.1=j/\(c.2.2=1\/c.2.2=-1):=by
 intro c hc;unfold chg at hc;obtain⟨p,-,hp⟩:=List.mem_flatMap.1 hc;by_cases hv:ym p.1 p.2=true
 · have h0:=(zw _ _).1 hv
   rw[if_pos hv]at hp;simp at hp;rcases hp with rfl|rfl;· exact⟨⟨h0.1,by dsimp only;omega⟩,rfl,Or.inl rfl⟩
   exact⟨⟨by dsimp only;omega,h0.2.2⟩,rfl,Or.inr rfl⟩
 rw[if_neg hv]at hp;cases hp
theorem EK (a b:List (Int×Int)) {S:List (Int×Int×Int)} (h:S.Perm (chg 0 a++chg 1 b)):∀c∈S,(0<=c.1/\c.1<=12622780800)/\(c.2.1=0\/c.2.1=1)/\(c.2.2=1\/c.2.2=-1):=by
 intro c hc;rcases List.mem_append.1 (h.mem_iff.1 hc)with h1|h1;· have:=Ws 0 a c h1;exact⟨this.1,Or.inl this.2.1,this.2.2⟩
 have:=Ws 1 b c h1;exact⟨this.1,Or.inr this.2.1,this.2.2⟩
theorem Js (j:Int):∀(l:List (Int×Int×Int)),(∀c∈l,c.2.2=1\/c.2.2=-1)->- (l.length:Int)<=totC j l/\totC j l<=(l.length:Int):=by
 intro l;induction l with
 |nil=>intro _;exact⟨Int.le_refl _,Int.le_refl _⟩
 |cons c r ih=>intro h;have h1:=ih fun d hd=>h d (by simp[hd]);have h2:=h c (by simp);show _<=(if c.2.1=j then c.2.2 else 0)+totC j r/\(if c.2.1=j then c.2.2 else 0)+totC j r<=_;simp only[List.length_cons];split<;>omega
theorem WM (O:List (Int×Int)) (i n:Bool) (t:Int):(qL O i n t).length<=O.length+1:=by
 unfold qL;split;· simp
 split;· simp
 omega
theorem xy (is:Bool->Bool->Bool) (S:List (Int×Int×Int)):∀k,(yh is S k).2.2.length<=k:=by
 intro k;induction k with
 |zero=>exact Nat.le_refl _
 |succ k ih=>
   show(qS is S k (yh is S k)).2.2.length<=k+1;unfold qS;simp only[];split;· show(yh is S k).2.2.length<=_;omega
   exact Nat.le_trans (WM _ _ _ _) (by omega)
theorem sw_ne (is:Bool->Bool->Bool) (S:List (Int×Int×Int)):∀k,(yh is S k).2.1=true->(yh is S k).2.2≠[]:=by
 intro k;induction k with
 |zero=>intro h;cases h
 |succ k ih=>
   show(qS is S k (yh is S k)).2.1=true->(qS is S k (yh is S k)).2.2≠[];unfold qS;simp only[];split;· exact ih
   intro h;rw[show is _ _=true from h];unfold qL;cases hi:(yh is S k).2.1 with
   |false=>simp
   |true=>simpa [hi]using ih hi
theorem YP (M:List (Int×Int)) (q1 q2 t:Int):qL (M++[(q1,q2)]) true false t=M++[(q1,t)]:=by unfold qL;simp
theorem VL (O:List (Int×Int)) (t:Int):qL O false true t=O++[(t,0)]:=by unfold qL;simp
theorem kM (O:List (Int×Int)) (i:Bool) (t:Int):qL O i i t=O:=by unfold qL;cases i<;>simp
def Wy:Prop:=∀(B:Nat) (w:World) (v:Value) (N:List (Int×Int×Int)),w.ownsRow B 216 3 v N.length (N.flatMap jK)->B<=w.heap.size->(∀c∈N,0<=c.1/\c.1<=12622780800)->N.length<=8000->
 Calls Tryz.prog 161 #[v,.func (.func 162) #[] #[]] w (UP B N v w)
theorem Jk (HS:Wy) (va vb:Value) (a b:List (Int×Int)) (ig inb:Bool) (g:Nat) (is:Bool->Bool->Bool) (w:World) (ha:yd w va a) (hb0:yd w vb b) (hn:a.length+b.length<=2000)
 (eg:∀args w,(callFunc g args).run Tryz.prog w=.ok (.enter g args) w) (hg:∀x y W,Calls Tryz.prog g #[.bool x,.bool y] W fun e w'=>e=.returned (.bool (is x y))/\Below W.heap.size W w') (h00:is false false=false) (hi:∀x y,is x y=(x&&(ig||(y==inb)))):
 Calls Tryz.prog 125 #[va,vb,.func (.func g) #[] #[]] w (jF w (vh a b ig inb)):=by
 obtain⟨W,hW⟩:∃W,W=w.alloc (Obj.cells #[.slice none 0 0] 214):=⟨_,rfl⟩;have hV0:Zm w [] W:=by
  have r:W.heap[w.heap.size]?=some (Obj.cells #[.slice none 0 0] 214):=by rw[hW];exact heap_alloc_new _ _
  refine⟨by rw[hW];exact(Below.refl _ _).alloc (Nat.le_refl _) _,by rw[hW];simp,.slice none 0 0,cell_of_row W _ 0 _ _ _ r,by simp[World.frozen?,r],⟨rfl,Or.inl ⟨rfl,rfl⟩⟩⟩
 have hla:=Kw 0 a;have hlb:=Kw 1 b;have HA:=zb (Z9 w W va a 0 [] ha (by simp;omega) hV0);have hlen:(chg 0 a++chg 1 b).length<=4000:=by rw[List.length_append];omega
 have HB:=zb (fun w2 (h:Zm w (chg 0 a) w2)=>Z9 w w2 vb b 1 (chg 0 a) hb0 (by omega) h);have HC:=zb (fun(S:List (Int×Int×Int)) (hp:S.Perm (chg 0 a++chg 1 b)) hs=>JT is S a b ig inb h00 hp hs hi);have HM:=zb (fun(S:List (Int×Int×Int)) (hp:S.Perm (chg 0 a++chg 1 b))=>EK a b hp);have HW:=zb hW;have HSo:=zb HS;have Hg:=zb hg;generalize chg 0 a++chg 1 b=N at *;obtain⟨aa,ca,rfl,-⟩:=ha;obtain⟨ab,cb,rfl,-⟩:=hb0;have hmf:∀(fn:Fn) (first cap:Array Value) (w:World),(Instr.makeFunc fn first cap).run Tryz.prog w=.ok (.func fn first cap) w:=fun _ _ _ _=>rfl;clear hW HS hg h00 hi hV0 hla hlb;go_enter Tryz.func125,Tryz.ntmps125;go_wp2_with fail;rw[<-HW.out];refine HA.out.mono ?_;rintro e w1 ⟨rfl,hv1⟩;rw[List.nil_append]at hv1;have HB1:=zb (HB.out w1 hv1);clear hv1;go_wp2_with fail;refine HB1.out.mono ?_;rintro e w2 ⟨rfl,hv2⟩;obtain⟨hb2,hcw2,v,hcell2,hfr2,hown2⟩:=hv2;have Hso2:=zb (HSo.out (w.heap.size+1) w2 v N hown2 hcw2 (fun c hc=>(HM.out _ (List.Perm.refl _) c hc).1) (by omega));obtain⟨av,cv,rfl,hcv,-⟩:=zf hown2;have Hb2:=zb hb2;have Hcell2:=zb hcell2;clear hown2 hfr2;go_wp2_with fail;refine Hso2.out.mono ?_;rintro e w3 ⟨rfl,hb3,S,s1,s2,s3,s4⟩;have hcell3:w3.cell? ⟨w.heap.size,0,none⟩=some (.slice av N.length cv):=(hb3.cell (p:=⟨w.heap.size,0,none⟩) (by simp)).trans Hcell2.out;have hbw3:Below w.heap.size w w3:=Hb2.out.trans (hb3.mono (by omega));have hcw3:w.heap.size<w3.heap.size:=Nat.lt_of_lt_of_le hcw2 hb3.size;have HE:=zb (HC.out S s1 s2);have HS1:=zb (HM.out S s1);clear hcell2 hcw2 Hb2 Hcell2 hb3 s1 s2;obtain⟨W5,hW5⟩:∃X,X=w3.alloc (Obj.cells #[.int .i64 0,.int .i64 0] 220):=⟨_,rfl⟩;have r5:W5.heap[w3.heap.size]?=some (Obj.cells #[.int .i64 0,.int .i64 0] 220):=by rw[hW5];exact heap_alloc_new _ _
 have hz5:W5.heap.size=w3.heap.size+1:=by rw[hW5];simp
 have hb5:Below w3.heap.size w3 W5:=by rw[hW5];exact(Below.refl _ _).alloc (Nat.le_refl _) _
 have hcell5:W5.cell? ⟨w.heap.size,0,none⟩=some (.slice av N.length cv):=(hb5.cell (p:=⟨w.heap.size,0,none⟩) hcw3).trans hcell3;have HW5:=zb hW5;have R5:=zb r5;have Hcell3:=zb hcell3;have HS4:=zb s4;clear hW5 r5 s4;rw[<-s3]at hcell3 hcell5 HS4 Hcell3⊢;rw[<-s3]at hlen hcv;clear s3;go_upto_region 9 with(fail);rw[<-HW5.out];clear hcell3;go_wp2_with fail;go_loopw [9,11,26] (fun v ib i wr=>∃(k:Nat) (o1 o2:Int) (ins:Bool) (O:List (Int×Int)),k<=S.length/\i=.int .i64 k/\ib=.bool ins/\yh is S k=((o1,o2),ins,O)/\wr.cell? ⟨w3.heap.size,0,none⟩=some (.int .i64 o1)/\wr.cell? ⟨w3.heap.size,1,none⟩=some (.int .i64 o2)/\(∀j,wr.frozen? ⟨w3.heap.size,j,none⟩=false)/\w3.heap.size<wr.heap.size/\wr.ownsRow (w3.heap.size+1) 25 2 v O.length (O.flatMap zh)/\Below w3.heap.size w3 wr) (fun _ _ i _=>S.length-(intOf i).toNat);case atStart=>exact⟨0,0,0,false,[],Nat.zero_le _,rfl,rfl,rfl,cell_of_row W5 _ 0 _ _ _ R5.out,cell_of_row W5 _ 1 _ _ _ R5.out,fun j=>by simp[World.frozen?,R5.out],by omega,⟨rfl,Or.inl ⟨rfl,rfl⟩⟩,hb5⟩
 case round=>
  obtain⟨k,o1,o2,ins,O,hk,rfl,rfl,hsw,ho1,ho2,hof,hoz,hown,hb⟩:=hrel;have Hown:=zb hown;have hOl:=xy is S k;have hOn:=sw_ne is S k;have hOo:=XQ is S (fun c hc=>(HS1.out c hc).2.1) k hk;have ht1:=Js 0 (S.take k) (fun c hc=>(HS1.out c (List.mem_of_mem_take hc)).2.2);have ht2:=Js 1 (S.take k) (fun c hc=>(HS1.out c (List.mem_of_mem_take hc)).2.2);rw[hsw]at hOl hOn hOo;rw[List.length_take,Nat.min_eq_left hk]at ht1 ht2;simp only[Prod.mk.injEq]at hOo;rw[<-hOo.1]at ht1;rw[<-hOo.2]at ht2;have hOl:O.length<=k:=hOl;have HOn:=zb (show ins=true->O≠[] from hOn);clear hOo hOn;obtain⟨vo,co,rfl,hco,-⟩:=zf hown;clear hown;by_cases hlt:k<S.length
  · have hc2:=HS1.out S[k] (List.getElem_mem hlt)
    have Hnx:=zb (show ∀w',Below w3.heap.size w3 w'->∃bq oq,av=some ⟨bq,oq,none⟩/\bq<w3.heap.size/\∀i (hi:i<S.length),ChR w' bq (oq+i*3) S[i] from fun w' hw=>by
     obtain⟨av3,cap3,e3,-,-,hy⟩:=HS4.out;cases e3;obtain⟨b3,o3,e4,hB3,hy⟩:=hy (by rintro rfl;cases hlt);exact⟨b3,o3,e4,hB3,fun i hi=>ChR.stays _ _ _ _ _ hw hB3 (hy i hi)⟩);obtain⟨bq,oq,rfl,hBq,hx⟩:=Hnx.out wr hb;have Hrow:=zb (show ∀w',Below w3.heap.size w3 w'->∀i (hi:i<S.length),ChR w' bq (oq+i*3) S[i] from fun w' hw=>by
     obtain⟨b3,o3,e4,-,h1⟩:=Hnx.out w' hw;cases e4;exact h1);obtain⟨d0,d1,d2⟩:=hx k hlt;have HU:=zb (show yh is S (k+1)=qS is S k (yh is S k)from rfl);have HG:=zb (show S.getD k (0,0,0)=S[k] by simp[List.getD,hlt]);clear Hnx hx;generalize S[k]=c at *;obtain⟨c1,c2,c3⟩:=c;obtain⟨jn,hjn,hjb,oj,hoj⟩:∃jn:Nat,c2=(jn:Int)/\jn<2/\∃oj,(oj=if jn=0 then o1 else o2):=by
     rcases hc2.2.1 with h|h;· exact⟨0,h,by omega,_,rfl⟩
     exact⟨1,h,by omega,_,rfl⟩
    dsimp only at d0 d1 d2 hc2;subst hjn;have hc3:=hc2.2.2;clear hc2;obtain⟨X,hX⟩:∃X,X=wr.alloc (Obj.cells #[.int .i64 c1,.int .i64 jn,.int .i64 c3] 216):=⟨_,rfl⟩;have rX:X.heap[wr.heap.size]?=some (Obj.cells #[.int .i64 c1,.int .i64 jn,.int .i64 c3] 216):=by rw[hX];exact heap_alloc_new _ _
    have hbX:Below wr.heap.size wr X:=by rw[hX];exact(Below.refl _ _).alloc (Nat.le_refl _) _
    have HX:=zb hX;have RX:=zb rX;have hzX:X.heap.size=wr.heap.size+1:=by rw[hX];simp
    clear hX rX;have hk0:(0:Int)<=(k:Int):=Int.natCast_nonneg _;have hk1:(k:Int)<(S.length:Int):=by omega
    have Ho:=zb (And.intro ho1 (And.intro ho2 hof));clear ho1 ho2 hof;go_upto_region 12 with(fail);rw[<-HX.out];have hbX3:=hb.trans (hbX.mono hb.size);have n0:X.cell? ⟨wr.heap.size,0,none⟩=some (.int .i64 c1):=cell_of_row X _ 0 _ _ _ RX.out;have n1:X.cell? ⟨wr.heap.size,1,none⟩=some (.int .i64 jn):=cell_of_row X _ 1 _ _ _ RX.out;have n2:X.cell? ⟨wr.heap.size,2,none⟩=some (.int .i64 c3):=cell_of_row X _ 2 _ _ _ RX.out;have Hm:=zb (show X.cell? ⟨w3.heap.size,0,none⟩=some (.int .i64 o1)/\X.cell? ⟨w3.heap.size,1,none⟩=some (.int .i64 o2)/\∀j,X.frozen? ⟨w3.heap.size,j,none⟩=false from
     ⟨(hbX.cell (p:=⟨w3.heap.size,0,none⟩) hoz).trans Ho.out.1,(hbX.cell (p:=⟨w3.heap.size,1,none⟩) hoz).trans Ho.out.2.1,fun j=>(hbX.frozen (p:=⟨w3.heap.size,j,none⟩) hoz).trans (Ho.out.2.2 j)⟩);have m1:X.cell? ⟨w3.heap.size,jn,none⟩=some (.int .i64 oj):=by
     rcases(show jn=0\/jn=1 by omega)with h|h;· subst h;rw[hoj,if_pos rfl];exact Hm.out.1
     subst h;rw[hoj,if_neg (by decide)];exact Hm.out.2.1
    have f1:=Hm.out.2.2 jn;have hoj2:-4000<=oj/\oj<=4000:=by rw[hoj];split<;>omega
    have Hoj:=zb hoj;have hwp:IntKind.i64.wrap (oj+c3)=oj+c3:=IntWalk.i64_in _ (by omega);have hj0:(0:Int)<=(jn:Int):=Int.natCast_nonneg _;have hj1:(jn:Int)<2:=by omega
    have hne:¬w3.heap.size=wr.heap.size:=by omega
    have hne2:¬wr.heap.size=w3.heap.size:=by omega
    clear hoj d0 d1 d2;go_big_region;obtain⟨Y,hY⟩:∃Y,Y=(X.setCell ⟨w3.heap.size,jn,none⟩ (Value.int IntKind.i64 (oj+c3))).drew:=⟨_,rfl⟩;obtain⟨p1,p2,hp⟩:∃p1 p2,bump (o1,o2) (c1,(jn:Int),c3)=(p1,p2):=⟨_,_,rfl⟩;have hbY:Below w3.heap.size w3 Y:=by rw[hY];exact(hbX3.setCell (Nat.le_refl _) _).drew
    have HYc:=zb (show Y.cell? ⟨w3.heap.size,0,none⟩=some (.int .i64 p1)/\Y.cell? ⟨w3.heap.size,1,none⟩=some (.int .i64 p2)/\∀j,Y.frozen? ⟨w3.heap.size,j,none⟩=false by
     rw[hY];have hoj:=Hoj.out;rcases(show jn=0\/jn=1 by omega)with h|h
     · subst h
       rw[if_pos rfl]at hoj;rw[show bump (o1,o2) (c1,((0:Nat):Int),c3)=(o1+c3,o2)from rfl]at hp;cases hp;rw[hoj];exact⟨World.cell?_setCell_same _ _ _ Hm.out.1,(World.cell?_setCell_other _ _ _ _ (by intro h;cases h)).trans Hm.out.2.1,fun j=>(World.frozen?_setCell _ _ _ _).trans (Hm.out.2.2 j)⟩
     subst h;rw[if_neg (by decide)]at hoj;rw[show bump (o1,o2) (c1,((1:Nat):Int),c3)=(o1,o2+c3)from rfl]at hp;cases hp;rw[hoj];exact⟨(World.cell?_setCell_other _ _ _ _ (by intro h;cases h)).trans Hm.out.1,World.cell?_setCell_same _ _ _ Hm.out.2.1,fun j=>(World.frozen?_setCell _ _ _ _).trans (Hm.out.2.2 j)⟩);have HYn:=zb (show Y.cell? ⟨wr.heap.size,0,none⟩=some (.int .i64 c1) by rw[hY];exact(World.cell?_setCell_other _ _ _ _ (by intro h;exact hne (congrArg Addr.block h))).trans n0);have HOY:=zb (show Y.ownsRow (w3.heap.size+1) 25 2 (.slice vo O.length co) O.length (O.flatMap zh) by
     rw[hY];refine ZV (zd Hown.out hbX) fun g hg=>?_;exact Below.heap_setCell _ _ _ _ (by have:=(zg Hown.out g hg).1;simp;omega));have hzY:wr.heap.size<Y.heap.size:=by rw[hY];simp;omega
    rw[<-hY];have HU2:=zb (show yh is S (k+1)=if k+1<S.length/\(S.getD (k+1) (0,0,0)).1=c1 then ((p1,p2),ins,O) else ((p1,p2),is (decide (0<p1)) (decide (0<p2)),qL O ins (is (decide (0<p1)) (decide (0<p2))) c1) by
     rw[HU.out,hsw];unfold qS;rw[HG.out];simp only[];rw[hp]);clear hY hp n0 n1 n2 m1 f1 hwp hj0 hj1 hoj2;have g0:Y.cell? ⟨w.heap.size,0,none⟩=some (.slice (some ⟨bq,oq,none⟩) S.length cv):=(hbY.cell (p:=⟨w.heap.size,0,none⟩) hcw3).trans Hcell3.out;have n0:=HYn.out;have hkw:IntKind.i64.wrap ((k:Int)+1)=(k:Int)+1:=IntWalk.i64_in _ (by omega);have hk2:(0:Int)<=(k:Int)+1:=by omega
    have hk3:((k:Int)+1).toNat=k+1:=by omega
    by_cases hnx:k+1<S.length
    · have hk4:(k:Int)+1<(S.length:Int):=by omega
      have hk5:decide ((k:Int)+1<(S.length:Int))=true:=decide_eq_true hk4;have e0:=(Hrow.out Y hbY (k+1) hnx).1;have HG2:=zb (show S.getD (k+1) (0,0,0)=S[k+1] by simp[List.getD,hnx]);generalize S[k+1]=d at *;obtain⟨d1,d2,d3⟩:=d;dsimp only at e0;by_cases hq:d1=c1
      · have hq2:(d1==c1)=true:=by rw[hq];exact beq_self_eq_true _
        have HE2:=zb (show yh is S (k+1)=((p1,p2),ins,O) by rw[HU2.out,HG2.out,if_pos ⟨hnx,hq⟩]);clear hq;go_upto_region 13 with(fail);go_big_quiet (fail);go_upto_region 20 with(fail);obtain⟨V,hV⟩:∃V,V=Y.drewN nq:=⟨_,rfl⟩;have hbV:Below Y.heap.size Y V:=by rw[hV];exact zH (Below.refl _ _) _
        rw[<-hV];clear hV g0 n0 e0;have hzV:=hbV.size;go_wp2;exact⟨⟨k+1,p1,p2,ins,O,by omega,by go_num,rfl,HE2.out,(hbV.cell (p:=⟨w3.heap.size,0,none⟩) (by simp;omega)).trans HYc.out.1,(hbV.cell (p:=⟨w3.heap.size,1,none⟩) (by simp;omega)).trans HYc.out.2.1,fun j=>(hbV.frozen (p:=⟨w3.heap.size,j,none⟩) (by simp;omega)).trans (HYc.out.2.2 j),by omega,zd HOY.out hbV,hbY.trans (hbV.mono hbY.size)⟩,by simp[intOf];omega⟩
      have hq2:(d1==c1)=false:=beq_eq_false_iff_ne.2 hq;have HS2:=zb (show yh is S (k+1)=((p1,p2),is (decide (0<p1)) (decide (0<p2)),qL O ins (is (decide (0<p1)) (decide (0<p2))) c1) by rw[HU2.out,HG2.out,if_neg (fun h=>hq h.2)]);clear hq;obtain⟨now,hnow⟩:∃now,now=is (decide (0<p1)) (decide (0<p2)):=⟨_,rfl⟩;have Hgs:=zb (show ∀W,Calls Tryz.prog g #[.bool (decide (0<p1)),.bool (decide (0<p2))] W fun e w'=>e=.returned (.bool now)/\Below W.heap.size W w' from fun W=>by rw[hnow];exact Hg.out _ _ W);have HN:=zb (show yh is S (k+1)=((p1,p2),now,qL O ins now c1) by rw[HS2.out,hnow]);clear hnow;have y0:=HYc.out.1;have y1:=HYc.out.2.1;go_upto_region 13 with(fail);go_big_quiet (fail);go_upto_region 14 with(fail);obtain⟨V,hV⟩:∃V,V=Y.drewN nq:=⟨_,rfl⟩;have hbV:Below Y.heap.size Y V:=by rw[hV];exact zH (Below.refl _ _) _
      rw[<-hV];clear hV g0 n0 y0 y1;have y0:=(hbV.cell (p:=⟨w3.heap.size,0,none⟩) (by simp;omega)).trans HYc.out.1;have y1:=(hbV.cell (p:=⟨w3.heap.size,1,none⟩) (by simp;omega)).trans HYc.out.2.1;go_wp2_with fail;refine(Hgs.out V).mono ?_;rintro e w6 ⟨rfl,hb6⟩;have hbY6:=hbV.trans (hb6.mono hbV.size);have hb6w:=hbY.trans (hbY6.mono hbY.size);have n0:=(hbY6.cell (p:=⟨wr.heap.size,0,none⟩) (by simp;omega)).trans HYn.out;have HO6:=zb (zd HOY.out hbY6);have HY6:=zb (show w6.cell? ⟨w3.heap.size,0,none⟩=some (.int .i64 p1)/\w6.cell? ⟨w3.heap.size,1,none⟩=some (.int .i64 p2)/\∀j,w6.frozen? ⟨w3.heap.size,j,none⟩=false from
       ⟨(hbY6.cell (p:=⟨w3.heap.size,0,none⟩) (by simp;omega)).trans HYc.out.1,(hbY6.cell (p:=⟨w3.heap.size,1,none⟩) (by simp;omega)).trans HYc.out.2.1,fun j=>(hbY6.frozen (p:=⟨w3.heap.size,j,none⟩) (by simp;omega)).trans (HYc.out.2.2 j)⟩);have hz6:=hbY6.size;clear y0 y1;cases now with
      |true=>
        cases ins with
        |true=>have HE2:=zb (show yh is S (k+1)=((p1,p2),true,O) by rw[HN.out,kM]);go_wp2;exact⟨⟨k+1,p1,p2,true,O,by omega,by go_num,rfl,HE2.out,HY6.out.1,HY6.out.2.1,HY6.out.2.2,by omega,HO6.out,hb6w⟩,by simp[intOf];omega⟩
        |false=>
          have HE2:=zb (show yh is S (k+1)=((p1,p2),true,O++[(c1,0)]) by rw[HN.out,VL]);have hc6:¬w3.heap.size=w6.heap.size:=by omega
          have Hbl:=zb (fun g hg=>zg HO6.out g hg);obtain⟨i0,hi,hz0,hz1,hz2⟩:=info_parts Tryz.perInfo;have Hi:=zb (And.intro hi (And.intro hz0 (And.intro hz1 hz2)));clear hi hz0 hz1 hz2;go_wp2_with (at_builtin;refine wpList_append_own _ rfl _ _ 85 rfl (w3.heap.size+1) 25 i0 _ 2 16 Tryz.underlying85 Hi.out.1 Hi.out.2.1 Hi.out.2.2.1 Hi.out.2.2.2 rfl (by decide) _ _ _ rfl (HO6.out.alloc _) ⟨w6.heap.size,0,none⟩ 1 1 [.int .i64 c1,.int .i64 0] rfl rfl (World.news_of_block (cs:=#[.int .i64 c1,.int .i64 0]) (t:=25) (fr:=(0,0)) (heap_alloc_new _ _)) ?aq2 ?aq3 ?aq4 ?aq5 ?_);case aq2=>simp[Value.oneCell']
          case aq3=>unfold maxLen;omega
          case aq4=>omega
          case aq5=>(try simp);omega
          intro v_w2 w7 hown_w7 hgrow _;have hb7:Below (w3.heap.size+1) w6 w7:=((Below.refl (w3.heap.size+1) w6).alloc (by omega) _).grown hgrow (by simp;omega) (fun g hg=>(Hbl.out g hg).1);have Hown7:=zb hown_w7;clear hown_w7 hgrow;have hz7:=hb7.size;obtain⟨ao7,co7,rfl,-,-⟩:=zf Hown7.out;go_wp2;refine⟨⟨k+1,p1,p2,true,O++[(c1,0)],by omega,by go_num,rfl,HE2.out,(hb7.cell (p:=⟨w3.heap.size,0,none⟩) (by simp)).trans HY6.out.1,(hb7.cell (p:=⟨w3.heap.size,1,none⟩) (by simp)).trans HY6.out.2.1,fun j=>(hb7.frozen (p:=⟨w3.heap.size,j,none⟩) (by simp)).trans (HY6.out.2.2 j),by omega,?_,hb6w.trans (hb7.mono (by omega))⟩,by simp[intOf];omega⟩;rw[List.flatMap_append,List.length_append];exact Hown7.out
      |false=>
        cases ins with
        |false=>have HE2:=zb (show yh is S (k+1)=((p1,p2),false,O) by rw[HN.out,kM]);go_wp2;exact⟨⟨k+1,p1,p2,false,O,by omega,by go_num,rfl,HE2.out,HY6.out.1,HY6.out.2.1,HY6.out.2.2,by omega,HO6.out,hb6w⟩,by simp[intOf];omega⟩
        |true=>
          obtain⟨M,q,rfl⟩:∃M q,O=M++[q]:=⟨_,_,(List.dropLast_concat_getLast (HOn.out rfl)).symm⟩;obtain⟨q1,q2⟩:=q;have HE2:=zb (show yh is S (k+1)=((p1,p2),false,M++[(q1,c1)]) by rw[HN.out,YP]);obtain⟨g0,cg,hvv,hgB,hgl,hcell⟩:∃g cap,(Value.slice vo (M++[(q1,q2)]).length co)=.slice (some ⟨g,0,none⟩) (M++[(q1,q2)]).length cap/\w3.heap.size+1<=g/\g<w6.heap.size/\w6.cell? ⟨g,M.length*2+1,none⟩=some (.int .i64 q2):=by
           have h0:=HO6.out;rcases h0.2 with⟨-,h1⟩|⟨g,cap,cur,hv,hB,hh,-⟩;· simp at h1
           rw[hv]at h0;refine⟨g,cap,hv,hB,(zu hh),?_⟩;rw[h0.cellAt (M.length*2+1) (by simp;omega),List.flatMap_append,List.getElem?_append_right (by rw[zN zh 2 (fun _=>rfl)];omega),zN zh 2 (fun _=>rfl)];simp[zh]
          simp only[Value.slice.injEq]at hvv;obtain⟨rfl,-,rfl⟩:=hvv;have hlenM:(M++[(q1,q2)]).length=M.length+1:=by simp
          have HownM:=zb (show w6.ownsRow (w3.heap.size+1) 25 2 (.slice (some ⟨g0,0,none⟩) (M.length+1) co) (M.length+1) ((M++[(q1,q2)]).flatMap zh) by have h:=HO6.out;rwa[hlenM]at h);have hco:=hlenM▸hco;have hOl:=hlenM▸hOl;rw[hlenM];have hj1:IntKind.i64.wrap ((M.length:Int)+1-1)=(M.length:Int):=by rw[Int.add_sub_cancel];exact IntWalk.i64_in _ (by omega)
          have hj2:(0:Int)<(M.length:Int)+1:=by omega
          have hj3:((M.length:Int)+1).toNat=M.length+1:=by omega
          have hj4:IntKind.i64.wrap (M.length:Int)=(M.length:Int):=IntWalk.i64_in _ (by omega);have hj5:(0:Int)<=(M.length:Int):=Int.natCast_nonneg _;have hj6:(M.length:Int)<(M.length:Int)+1:=by omega
          have e1:w6.frozen? ⟨g0,M.length*2+1,none⟩=false:=HownM.out.frozenAt _;have hst:=HownM.out.stored (M.length*2+1) (.int .i64 c1);have Hst:=zb hst.1;clear hst hlenM;go_wp2;refine⟨⟨k+1,p1,p2,false,M++[(q1,c1)],by omega,by go_num,rfl,HE2.out,(World.cell?_setCell_other _ _ _ _ (by intro h;have h:=congrArg Addr.block h;simp at h;omega)).trans HY6.out.1,(World.cell?_setCell_other _ _ _ _ (by intro h;have h:=congrArg Addr.block h;simp at h;omega)).trans HY6.out.2.1,fun j=>(World.frozen?_setCell _ _ _ _).trans (HY6.out.2.2 j),by simp;omega,?_,hb6w.setCell (show w3.heap.size<=g0 by omega) _⟩,by simp[intOf];omega⟩;rw[List.length_append];have h:=Hst.out;rw[uB]at h;exact h
    have hk5:decide ((k:Int)+1<(S.length:Int))=false:=decide_eq_false (by omega);have HS2:=zb (show yh is S (k+1)=((p1,p2),is (decide (0<p1)) (decide (0<p2)),qL O ins (is (decide (0<p1)) (decide (0<p2))) c1) by rw[HU2.out,if_neg (fun h=>hnx h.1)]);obtain⟨now,hnow⟩:∃now,now=is (decide (0<p1)) (decide (0<p2)):=⟨_,rfl⟩;have Hgs:=zb (show ∀W,Calls Tryz.prog g #[.bool (decide (0<p1)),.bool (decide (0<p2))] W fun e w'=>e=.returned (.bool now)/\Below W.heap.size W w' from fun W=>by rw[hnow];exact Hg.out _ _ W);have HN:=zb (show yh is S (k+1)=((p1,p2),now,qL O ins now c1) by rw[HS2.out,hnow]);clear hnow;have y0:=HYc.out.1;have y1:=HYc.out.2.1;go_upto_region 13 with(fail);go_big_quiet (fail);go_upto_region 14 with(fail);obtain⟨V,hV⟩:∃V,V=Y.drewN nq:=⟨_,rfl⟩;have hbV:Below Y.heap.size Y V:=by rw[hV];exact zH (Below.refl _ _) _
    rw[<-hV];clear hV g0 n0 y0 y1;have y0:=(hbV.cell (p:=⟨w3.heap.size,0,none⟩) (by simp;omega)).trans HYc.out.1;have y1:=(hbV.cell (p:=⟨w3.heap.size,1,none⟩) (by simp;omega)).trans HYc.out.2.1;go_wp2_with fail;refine(Hgs.out V).mono ?_;rintro e w6 ⟨rfl,hb6⟩;have hbY6:=hbV.trans (hb6.mono hbV.size);have hb6w:=hbY.trans (hbY6.mono hbY.size);have n0:=(hbY6.cell (p:=⟨wr.heap.size,0,none⟩) (by simp;omega)).trans HYn.out;have HO6:=zb (zd HOY.out hbY6);have HY6:=zb (show w6.cell? ⟨w3.heap.size,0,none⟩=some (.int .i64 p1)/\w6.cell? ⟨w3.heap.size,1,none⟩=some (.int .i64 p2)/\∀j,w6.frozen? ⟨w3.heap.size,j,none⟩=false from
     ⟨(hbY6.cell (p:=⟨w3.heap.size,0,none⟩) (by simp;omega)).trans HYc.out.1,(hbY6.cell (p:=⟨w3.heap.size,1,none⟩) (by simp;omega)).trans HYc.out.2.1,fun j=>(hbY6.frozen (p:=⟨w3.heap.size,j,none⟩) (by simp;omega)).trans (HYc.out.2.2 j)⟩);have hz6:=hbY6.size;clear y0 y1;cases now with
    |true=>
      cases ins with
      |true=>have HE2:=zb (show yh is S (k+1)=((p1,p2),true,O) by rw[HN.out,kM]);go_wp2;exact⟨⟨k+1,p1,p2,true,O,by omega,by go_num,rfl,HE2.out,HY6.out.1,HY6.out.2.1,HY6.out.2.2,by omega,HO6.out,hb6w⟩,by simp[intOf];omega⟩
      |false=>
        have HE2:=zb (show yh is S (k+1)=((p1,p2),true,O++[(c1,0)]) by rw[HN.out,VL]);have hc6:¬w3.heap.size=w6.heap.size:=by omega
        have Hbl:=zb (fun g hg=>zg HO6.out g hg);obtain⟨i0,hi,hz0,hz1,hz2⟩:=info_parts Tryz.perInfo;have Hi:=zb (And.intro hi (And.intro hz0 (And.intro hz1 hz2)));clear hi hz0 hz1 hz2;go_wp2_with (at_builtin;refine wpList_append_own _ rfl _ _ 85 rfl (w3.heap.size+1) 25 i0 _ 2 16 Tryz.underlying85 Hi.out.1 Hi.out.2.1 Hi.out.2.2.1 Hi.out.2.2.2 rfl (by decide) _ _ _ rfl (HO6.out.alloc _) ⟨w6.heap.size,0,none⟩ 1 1 [.int .i64 c1,.int .i64 0] rfl rfl (World.news_of_block (cs:=#[.int .i64 c1,.int .i64 0]) (t:=25) (fr:=(0,0)) (heap_alloc_new _ _)) ?aq2 ?aq3 ?aq4 ?aq5 ?_);case aq2=>simp[Value.oneCell']
        case aq3=>unfold maxLen;omega
        case aq4=>omega
        case aq5=>(try simp);omega
        intro v_w2 w7 hown_w7 hgrow _;have hb7:Below (w3.heap.size+1) w6 w7:=((Below.refl (w3.heap.size+1) w6).alloc (by omega) _).grown hgrow (by simp;omega) (fun g hg=>(Hbl.out g hg).1);have Hown7:=zb hown_w7;clear hown_w7 hgrow;have hz7:=hb7.size;obtain⟨ao7,co7,rfl,-,-⟩:=zf Hown7.out;go_wp2;refine⟨⟨k+1,p1,p2,true,O++[(c1,0)],by omega,by go_num,rfl,HE2.out,(hb7.cell (p:=⟨w3.heap.size,0,none⟩) (by simp)).trans HY6.out.1,(hb7.cell (p:=⟨w3.heap.size,1,none⟩) (by simp)).trans HY6.out.2.1,fun j=>(hb7.frozen (p:=⟨w3.heap.size,j,none⟩) (by simp)).trans (HY6.out.2.2 j),by omega,?_,hb6w.trans (hb7.mono (by omega))⟩,by simp[intOf];omega⟩;rw[List.flatMap_append,List.length_append];exact Hown7.out
    |false=>
      cases ins with
      |false=>have HE2:=zb (show yh is S (k+1)=((p1,p2),false,O) by rw[HN.out,kM]);go_wp2;exact⟨⟨k+1,p1,p2,false,O,by omega,by go_num,rfl,HE2.out,HY6.out.1,HY6.out.2.1,HY6.out.2.2,by omega,HO6.out,hb6w⟩,by simp[intOf];omega⟩
      |true=>
        obtain⟨M,q,rfl⟩:∃M q,O=M++[q]:=⟨_,_,(List.dropLast_concat_getLast (HOn.out rfl)).symm⟩;obtain⟨q1,q2⟩:=q;have HE2:=zb (show yh is S (k+1)=((p1,p2),false,M++[(q1,c1)]) by rw[HN.out,YP]);obtain⟨g0,cg,hvv,hgB,hgl,hcell⟩:∃g cap,(Value.slice vo (M++[(q1,q2)]).length co)=.slice (some ⟨g,0,none⟩) (M++[(q1,q2)]).length cap/\w3.heap.size+1<=g/\g<w6.heap.size/\w6.cell? ⟨g,M.length*2+1,none⟩=some (.int .i64 q2):=by
         have h0:=HO6.out;rcases h0.2 with⟨-,h1⟩|⟨g,cap,cur,hv,hB,hh,-⟩;· simp at h1
         rw[hv]at h0;refine⟨g,cap,hv,hB,(zu hh),?_⟩;rw[h0.cellAt (M.length*2+1) (by simp;omega),List.flatMap_append,List.getElem?_append_right (by rw[zN zh 2 (fun _=>rfl)];omega),zN zh 2 (fun _=>rfl)];simp[zh]
        simp only[Value.slice.injEq]at hvv;obtain⟨rfl,-,rfl⟩:=hvv;have hlenM:(M++[(q1,q2)]).length=M.length+1:=by simp
        have HownM:=zb (show w6.ownsRow (w3.heap.size+1) 25 2 (.slice (some ⟨g0,0,none⟩) (M.length+1) co) (M.length+1) ((M++[(q1,q2)]).flatMap zh) by have h:=HO6.out;rwa[hlenM]at h);have hco:=hlenM▸hco;have hOl:=hlenM▸hOl;rw[hlenM];have hj1:IntKind.i64.wrap ((M.length:Int)+1-1)=(M.length:Int):=by rw[Int.add_sub_cancel];exact IntWalk.i64_in _ (by omega)
        have hj2:(0:Int)<(M.length:Int)+1:=by omega
        have hj3:((M.length:Int)+1).toNat=M.length+1:=by omega
        have hj4:IntKind.i64.wrap (M.length:Int)=(M.length:Int):=IntWalk.i64_in _ (by omega);have hj5:(0:Int)<=(M.length:Int):=Int.natCast_nonneg _;have hj6:(M.length:Int)<(M.length:Int)+1:=by omega
        have e1:w6.frozen? ⟨g0,M.length*2+1,none⟩=false:=HownM.out.frozenAt _;have hst:=HownM.out.stored (M.length*2+1) (.int .i64 c1);have Hst:=zb hst.1;clear hst hlenM;go_wp2;refine⟨⟨k+1,p1,p2,false,M++[(q1,c1)],by omega,by go_num,rfl,HE2.out,(World.cell?_setCell_other _ _ _ _ (by intro h;have h:=congrArg Addr.block h;simp at h;omega)).trans HY6.out.1,(World.cell?_setCell_other _ _ _ _ (by intro h;have h:=congrArg Addr.block h;simp at h;omega)).trans HY6.out.2.1,fun j=>(World.frozen?_setCell _ _ _ _).trans (HY6.out.2.2 j),by simp;omega,?_,hb6w.setCell (show w3.heap.size<=g0 by omega) _⟩,by simp[intOf];omega⟩;rw[List.length_append];have h:=Hst.out;rw[uB]at h;exact h
  have hkk:k=S.length:=by omega
  have HF:=zb (show vh a b ig inb=O by rw[<-HE.out,<-hkk,hsw]);clear hkk hsw;go_wp2;go_ret;rw[HF.out];exact⟨_,rfl,yd.own Hown.out,hbw3.trans (hb.mono (by omega))⟩
end Go.Proofs.YtngippiilgdnoaaGreat
namespace Go.Proofs.YtngippiilgdnoaaGreat
open Go.RowKit
open Go.RowKit
open Go.RowKit
end Go.Proofs.YtngippiilgdnoaaGreat
