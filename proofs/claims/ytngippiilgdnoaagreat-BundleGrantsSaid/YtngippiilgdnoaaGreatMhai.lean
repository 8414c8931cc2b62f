/-
  The walk of the reference's Scale.
-/
import Derived.Test.YtngippiilgdnoaaGreatMhah
import Derived.Test.YtngippiilgdnoaaGreatMhad
set_option maxRecDepth 100000
set_option maxHeartbeats 25600000
namespace Go.Proofs.YtngippiilgdnoaaGreat
open Go.RowKit
set_option linter.unusedSimpArgs false in
theorem uf (f t f2 t2:Int) (w:World):Calls Tryz.prog 91 #[.agg #[.int .i64 f,.int .i64 t],.agg #[.int .i64 f2,.int .i64 t2]] w fun e w'=>e=.returned (.tuple #[jW f t f2 t2,.bool (yO f t f2 t2)])/\Below w.heap.size w w':=by
 obtain⟨W,hW⟩:∃W,W=(((w.alloc (Obj.cells #[.int .i64 f,.int .i64 t] 25)).alloc (Obj.cells #[.int .i64 f2,.int .i64 t2] 25)).alloc (Obj.cells #[.int .i64 0,.int .i64 0] 25)).alloc (Obj.cells #[.int .i64 (max f f2),.int .i64 (min t t2)] 25):=⟨_,rfl⟩;have hw0:Below w.heap.size w W:=by rw[hW];go_grown
 have hz:W.heap.size=w.heap.size+4:=by rw[hW];simp
 have r0:W.heap[w.heap.size]?=some (Obj.cells #[.int .i64 f,.int .i64 t] 25):=by rw[hW,Below.heap_alloc _ _ _ (by simp<;>omega),Below.heap_alloc _ _ _ (by simp<;>omega),Below.heap_alloc _ _ _ (by simp)];exact heap_alloc_new _ _
 have r1:W.heap[w.heap.size+1]?=some (Obj.cells #[.int .i64 f2,.int .i64 t2] 25):=by rw[hW,Below.heap_alloc _ _ _ (by simp<;>omega),Below.heap_alloc _ _ _ (by simp<;>omega)];simpa using heap_alloc_new (w.alloc _) _
 have r2:W.heap[w.heap.size+1+1]?=some (Obj.cells #[.int .i64 0,.int .i64 0] 25):=by rw[hW,Below.heap_alloc _ _ _ (by simp<;>omega)];simpa using heap_alloc_new ((w.alloc _).alloc _) _
 have r3:W.heap[w.heap.size+1+1+1]?=some (Obj.cells #[.int .i64 (max f f2),.int .i64 (min t t2)] 25):=by rw[hW];simpa using heap_alloc_new (((w.alloc _).alloc _).alloc _) _
 have HW:=zb hW;have Hz:=zb hz;have Hr:=zb (And.intro r0 (And.intro r1 (And.intro r2 r3)));have HMm:=zb (show ∀U,Below W.heap.size W U->U.cell? ⟨w.heap.size,0,none⟩=some (.int .i64 f)/\U.cell? ⟨w.heap.size,1,none⟩=some (.int .i64 t)/\U.cell? ⟨w.heap.size+1,0,none⟩=some (.int .i64 f2)/\U.cell? ⟨w.heap.size+1,1,none⟩=some (.int .i64 t2)/\U.cell? ⟨w.heap.size+1+1,0,none⟩=some (.int .i64 0)/\U.cell? ⟨w.heap.size+1+1,1,none⟩=some (.int .i64 0)/\U.frozen? ⟨w.heap.size+1+1,0,none⟩=false/\U.frozen? ⟨w.heap.size+1+1,1,none⟩=false/\U.cell? ⟨w.heap.size+1+1+1,0,none⟩=some (.int .i64 (max f f2))/\U.cell? ⟨w.heap.size+1+1+1,1,none⟩=some (.int .i64 (min t t2))from fun U hb=>by
  have m0:=(hb.block (w.heap.size) (by rw[Hz.out];omega)).trans Hr.out.1;have m1:=(hb.block (w.heap.size+1) (by rw[Hz.out];omega)).trans Hr.out.2.1;have m2:=(hb.block (w.heap.size+1+1) (by rw[Hz.out];omega)).trans Hr.out.2.2.1;have m3:=(hb.block (w.heap.size+1+1+1) (by rw[Hz.out];omega)).trans Hr.out.2.2.2;exact⟨cell_of_row U _ 0 _ _ _ m0,cell_of_row U _ 1 _ _ _ m0,cell_of_row U _ 0 _ _ _ m1,cell_of_row U _ 1 _ _ _ m1,cell_of_row U _ 0 _ _ _ m2,cell_of_row U _ 1 _ _ _ m2,by simp[World.frozen?,m2],by simp[World.frozen?,m2],cell_of_row U _ 0 _ _ _ m3,cell_of_row U _ 1 _ _ _ m3⟩);have H1:=zb (fun w1=>jv f t w1);have H2:=zb (fun w1=>jv f2 t2 w1);have HX:=zb (show(if f<f2 then f2 else f)=max f f2 by rw[Int.max_def];split<;>split<;>omega);have HY:=zb (show(if t2<t then t2 else t)=min t t2 by rw[Int.min_def];split<;>split<;>omega);have HM:=zb (vf f t f2 t2);have HV:=zb (show jW f t f2 t2=if yO f t f2 t2=true then .agg #[.int .i64 (max f f2),.int .i64 (min t t2)] else .agg #[.int .i64 0,.int .i64 0] from rfl);clear hW r0 r1 r2 r3 hz;cases hv:ym f t with
 |false=>rw[hv]at H1;have hm:yO f t f2 t2=false:=(qj HM.out (fun h=>by rw[hv]at h;cases h.1)).symm;have HE:=zb (And.intro (show jW f t f2 t2=.agg #[.int .i64 0,.int .i64 0] by rw[HV.out,if_neg (by rw[hm];decide)]) hm);clear hm hv;go_enter Tryz.func91,Tryz.ntmps91;go_upto_region 2 with(fail);rw[HX.out,HY.out,<-HW.out];obtain⟨c0,d0,c1,d1,c2,d2,p2,q2,c3,d3⟩:=HMm.out _ ((Below.refl W.heap.size W));go_wp2_with fail;refine(H1.out W).mono ?_;rintro e w1 ⟨rfl,hb1⟩;have hb2:=hw0.trans (hb1.mono hw0.size);clear c0 d0 c1 d1 c2 d2 p2 q2 c3 d3;obtain⟨c0,d0,c1,d1,c2,d2,p2,q2,c3,d3⟩:=HMm.out _ (hb1);go_wp2;rw[HE.out.1,HE.out.2];exact bodyPost_ret (v:=.tuple #[.agg #[.int .i64 0,.int .i64 0],.bool false]) (by simp[results,Tryz.results91,go_sem,c2,d2]) rfl ⟨rfl,by go_grown⟩
 |true=>
   rw[hv]at H1;cases hv2:ym f2 t2 with
   |false=>rw[hv2]at H2;have hm:yO f t f2 t2=false:=(qj HM.out (fun h=>by rw[hv2]at h;cases h.2.1)).symm;have HE:=zb (And.intro (show jW f t f2 t2=.agg #[.int .i64 0,.int .i64 0] by rw[HV.out,if_neg (by rw[hm];decide)]) hm);clear hm hv hv2;go_enter Tryz.func91,Tryz.ntmps91;go_upto_region 2 with(fail);rw[HX.out,HY.out,<-HW.out];obtain⟨c0,d0,c1,d1,c2,d2,p2,q2,c3,d3⟩:=HMm.out _ ((Below.refl W.heap.size W));go_wp2_with fail;refine(H1.out W).mono ?_;rintro e w1 ⟨rfl,hb1⟩;have hb2:=hw0.trans (hb1.mono hw0.size);clear c0 d0 c1 d1 c2 d2 p2 q2 c3 d3;obtain⟨c0,d0,c1,d1,c2,d2,p2,q2,c3,d3⟩:=HMm.out _ (hb1);go_wp2_with fail;refine(H2.out w1).mono ?_;rintro e w2 ⟨rfl,hb3⟩;have hb4:=hb1.trans (hb3.mono hb1.size);have hb5:=hw0.trans (hb4.mono hw0.size);clear c0 d0 c1 d1 c2 d2 p2 q2 c3 d3;obtain⟨c0,d0,c1,d1,c2,d2,p2,q2,c3,d3⟩:=HMm.out _ (hb4);go_wp2;rw[HE.out.1,HE.out.2];exact bodyPost_ret (v:=.tuple #[.agg #[.int .i64 0,.int .i64 0],.bool false]) (by simp[results,Tryz.results91,go_sem,c2,d2]) rfl ⟨rfl,by go_grown⟩
   |true=>
     rw[hv2]at H2;by_cases hlt:max f f2<min t t2
     · have hm:yO f t f2 t2=true:=HM.out.2 ⟨hv,hv2,hlt⟩
       have HE:=zb (And.intro (show jW f t f2 t2=.agg #[.int .i64 (max f f2),.int .i64 (min t t2)] by rw[HV.out,if_pos hm]) hm);have k1:decide (min t t2<=max f f2)=false:=decide_eq_false (by omega);clear hm hv hv2;go_enter Tryz.func91,Tryz.ntmps91;go_upto_region 2 with(fail);rw[HX.out,HY.out,<-HW.out];obtain⟨c0,d0,c1,d1,c2,d2,p2,q2,c3,d3⟩:=HMm.out _ ((Below.refl W.heap.size W));go_wp2_with fail;refine(H1.out W).mono ?_;rintro e w1 ⟨rfl,hb1⟩;have hb2:=hw0.trans (hb1.mono hw0.size);clear c0 d0 c1 d1 c2 d2 p2 q2 c3 d3;obtain⟨c0,d0,c1,d1,c2,d2,p2,q2,c3,d3⟩:=HMm.out _ (hb1);go_wp2_with fail;refine(H2.out w1).mono ?_;rintro e w2 ⟨rfl,hb3⟩;have hb4:=hb1.trans (hb3.mono hb1.size);have hb5:=hw0.trans (hb4.mono hw0.size);clear c0 d0 c1 d1 c2 d2 p2 q2 c3 d3;obtain⟨c0,d0,c1,d1,c2,d2,p2,q2,c3,d3⟩:=HMm.out _ (hb4);go_wp2;rw[HE.out.1,HE.out.2];exact bodyPost_ret (v:=.tuple #[.agg #[.int .i64 (max f f2),.int .i64 (min t t2)],.bool true]) (by simp[results,Tryz.results91,go_sem,c2,d2]) rfl ⟨rfl,by go_grown⟩
     have hm:yO f t f2 t2=false:=(qj HM.out (fun h=>hlt h.2.2)).symm;have HE:=zb (And.intro (show jW f t f2 t2=.agg #[.int .i64 0,.int .i64 0] by rw[HV.out,if_neg (by rw[hm];decide)]) hm);have k1:decide (min t t2<=max f f2)=true:=decide_eq_true (by omega);clear hm hv hv2;go_enter Tryz.func91,Tryz.ntmps91;go_upto_region 2 with(fail);rw[HX.out,HY.out,<-HW.out];obtain⟨c0,d0,c1,d1,c2,d2,p2,q2,c3,d3⟩:=HMm.out _ ((Below.refl W.heap.size W));go_wp2_with fail;refine(H1.out W).mono ?_;rintro e w1 ⟨rfl,hb1⟩;have hb2:=hw0.trans (hb1.mono hw0.size);clear c0 d0 c1 d1 c2 d2 p2 q2 c3 d3;obtain⟨c0,d0,c1,d1,c2,d2,p2,q2,c3,d3⟩:=HMm.out _ (hb1);go_wp2_with fail;refine(H2.out w1).mono ?_;rintro e w2 ⟨rfl,hb3⟩;have hb4:=hb1.trans (hb3.mono hb1.size);have hb5:=hw0.trans (hb4.mono hw0.size);clear c0 d0 c1 d1 c2 d2 p2 q2 c3 d3;obtain⟨c0,d0,c1,d1,c2,d2,p2,q2,c3,d3⟩:=HMm.out _ (hb4);go_wp2;rw[HE.out.1,HE.out.2];exact bodyPost_ret (v:=.tuple #[.agg #[.int .i64 0,.int .i64 0],.bool false]) (by simp[results,Tryz.results91,go_sem,c2,d2]) rfl ⟨rfl,by go_grown⟩
theorem Tryz.intInfo:(Tryz.prog.info? 3).map (fun i=>(i.zero,i.size,i.bytes))=some (some (.int .i64 0),1,8):=by kernel_rfl
def IntC (w:World) (b o:Nat) (n:Int):Prop:=w.cell? ⟨b,o,none⟩=some (.int .i64 n)
theorem IntC.stays:Yl IntC:=fun _ _ b o _ hb hB h=>(hb.cell (p:=⟨b,o,none⟩) hB).trans h
def uh (w:World) (v:Value) (l:List Int):Prop:=zz 1 IntC w v l
theorem uh.below {w w':World} {v:Value} {l:List Int} (h:uh w v l) (hb:Below w.heap.size w w'):uh w' v l:=zz.below IntC.stays h hb
def qq (n:Int):List Value:=[.int .i64 n]
theorem NO (l:List Int):l.flatMap qq=l.map (Value.int .i64):=by
 induction l with
 |nil=>rfl
 |cons a l ih=>rw[List.flatMap_cons,ih];rfl
theorem uh.own {w:World} {base:Nat} {e:TypeId} {v:Value} {l:List Int} (h:w.ownsRow base e 1 v l.length (l.map (Value.int .i64))):uh w v l:=by rw[<-NO]at h;exact zz.own qq (fun _=>rfl) h fun g o i hi hc=>hc 0 Nat.zero_lt_one
def zD (n:Int) (s:List Int×Bool) (x:Int):List Int×Bool:=
 if s.2=false/\n<=x then (if x=n then (s.1++[n],true) else (s.1++[n]++[x],true)) else (if x=n then s else (s.1++[x],s.2))
def addL (l:List Int) (n:Int):List Int:=if (l.foldl (zD n) ([],false)).2=true then (l.foldl (zD n) ([],false)).1 else (l.foldl (zD n) ([],false)).1++[n]
theorem EW (n:Int) (l:List Int) (k:Nat) (h:k<l.length):(l.take (k+1)).foldl (zD n) ([],false)=zD n ((l.take k).foldl (zD n) ([],false)) l[k]:=by rw[List.take_succ_eq_append_getElem h,List.foldl_append];rfl
theorem Wx (n:Int):∀(l:List Int) (s:List Int×Bool),(l.foldl (zD n) s).1.length+(if (l.foldl (zD n) s).2=true then 0 else 1)<=s.1.length+l.length+(if s.2=true then 0 else 1):=by
 intro l;induction l with
 |nil=>intro s;exact Nat.le_refl _
 |cons x r ih=>
   intro s;rw[List.foldl_cons];refine Nat.le_trans (ih _) ?_;have:(zD n s x).1.length+(if (zD n s x).2=true then 0 else 1)<=s.1.length+1+(if s.2=true then 0 else 1):=by
    unfold zD;by_cases h1:s.2=false/\n<=x
    · rw[if_pos h1]
      by_cases h2:x=n;· rw[if_pos h2];simp[h1.1]
      rw[if_neg h2];simp[h1.1]
    rw[if_neg h1];by_cases h2:x=n;· rw[if_pos h2];omega
    rw[if_neg h2];simp<;>omega
   rw[List.length_cons];omega
theorem QD (l:List Int) (n:Int):(addL l n).length<=l.length+1:=by
 have:=Wx n l ([],false);unfold addL;generalize l.foldl (zD n) ([],false)=s at *;by_cases h:s.2=true;· rw[if_pos h]at *;simp at this;omega
 rw[if_neg h]at *;simp at this;rw[List.length_append];simp;omega
def xw (w:World) (N:List Int) (e:Ending) (w':World):Prop:=∃v,e=.returned v/\uh w' v N/\Below w.heap.size w w'
theorem JQ (v:Value) (l:List Int) (n:Int) (w:World) (h:uh w v l) (hl:l.length<=10000):
 Calls Tryz.prog 173 #[v,.int .i64 n] w (xw w (addL l n)):=by
 have hh:=h;obtain⟨av,cap,rfl,-,-,-⟩:=h;go_enter Tryz.func173,Tryz.ntmps173;go_wp2_with fail;go_loopw [5,6,7] (fun v d i wr=>∃(k:Nat) (N:List Int) (dn:Bool),k<=l.length/\i=.int .i64 k/\d=.bool dn/\(l.take k).foldl (zD n) ([],false)=(N,dn)/\N.length<=k+1/\wr.ownsRow w.heap.size 3 1 v N.length (N.map (Value.int .i64))/\Below w.heap.size w wr) (fun _ _ i _=>l.length-(intOf i).toNat);case atStart=>exact⟨0,[],false,Nat.zero_le _,rfl,rfl,rfl,by simp,⟨rfl,Or.inl ⟨rfl,rfl⟩⟩,Below.refl _ _⟩
 case round=>
  obtain⟨k,N,dn,hk,rfl,rfl,hN,hle,hown,hb⟩:=hrel;have hbz:=hb.size;obtain⟨ao,co,rfl,hco,-⟩:=zf hown;obtain⟨i0,hi,hz0,hz1,hz2⟩:=info_parts Tryz.intInfo;have Hi:=zb (And.intro hi (And.intro hz0 (And.intro hz1 hz2)));clear hi hz0 hz1 hz2;have Hown:=zb hown;clear hown;by_cases hlt:k<l.length
  · obtain⟨av',cap',hv,-,-,hs⟩:=hh.below hb
    cases hv;obtain⟨b,o,rfl,hB,hs⟩:=hs (by rintro rfl;cases hlt);have c0:=hs k hlt;unfold IntC at c0;rw[Nat.mul_one]at c0;have Hc0:=zb (show ∀w',Below w.heap.size w w'->w'.cell? ⟨b,o+k,none⟩=some (.int .i64 l[k])from fun w' hw=>by
     obtain⟨av3,cap3,e3,-,-,hy⟩:=hh.below hw;cases e3;obtain⟨b3,o3,e4,-,hy⟩:=hy (by rintro rfl;cases hlt);cases e4;have:=hy k hlt;unfold IntC at this;rwa[Nat.mul_one]at this);have hst:=EW n l k hlt;have hln:=Wx n (l.take k) ([],false);rw[List.length_take,Nat.min_eq_left (by omega)]at hln;rw[hN]at hln hst;clear hs hN;generalize l[k]=x at *;have hk0:(0:Int)<=(k:Int):=Int.natCast_nonneg _;have hk1:(k:Int)<(l.length:Int):=by omega
    cases dn with
    |false=>
      by_cases h1:n<=x
      · have d1:decide (n<=x)=true:=decide_eq_true h1
        by_cases h2:x=n
        · subst h2
          have d2:(x != x)=false:=bne_self_eq_false _;have hlen:N.length<=k:=by simp at hln;omega
          have HT:=zb (show(l.take (k+1)).foldl (zD x) ([],false)=(N++[x],true) by rw[hst];unfold zD;rw[if_pos ⟨rfl,Int.le_refl _⟩,if_pos rfl]);have HL:=zb (show(N++[x]).length<=k+1+1 by simp only[List.length_append,List.length_cons,List.length_nil];omega);clear hst hln;go_wp2_with (at_builtin;refine wpList_append_own _ rfl _ _ 96 rfl w.heap.size 3 i0 _ 1 8 Tryz.underlying96 Hi.out.1 Hi.out.2.1 Hi.out.2.2.1 Hi.out.2.2.2 rfl (by decide) _ _ _ rfl (Hown.out.alloc _) ⟨wr.heap.size,0,none⟩ 1 1 [.int .i64 x] rfl rfl (World.news_of_block (cs:=#[.int .i64 x]) (t:=3) (fr:=(0,0)) (heap_alloc_new _ _)) ?aq2 ?aq3 ?aq4 ?aq5 ?_);case aq2=>simp[Value.oneCell']
          case aq3=>unfold maxLen;(try simp only[List.length_append,List.length_cons,List.length_nil]);omega
          case aq4=>(try simp only[List.length_append,List.length_cons,List.length_nil]);omega
          case aq5=>(try simp);omega
          intro v_w2 w2 hown_w2 hgrow _;have hb2:=(hb.alloc hbz (Obj.cells #[.int .i64 x] 3)).grown hgrow (by simp;omega) (fun g hg=>(zg Hown.out g hg).1);have Hown2:=zb hown_w2;have hz_w2:=hb2.size;clear hown_w2 hgrow;have c1:=Hc0.out w2 hb2;obtain⟨ao2,co2,rfl,-,-⟩:=zf Hown2.out;go_wp2;exact⟨⟨k+1,N++[x],true,by omega,by go_num,rfl,HT.out,HL.out,by have:=Hown2.out;simpa using this,hb2⟩,by simp[intOf];omega⟩
        have d2:(x != n)=true:=by rw[bne_iff_ne];exact h2
        have hlen:N.length<=k:=by simp at hln;omega
        have HT:=zb (show(l.take (k+1)).foldl (zD n) ([],false)=(N++[n]++[x],true) by rw[hst];unfold zD;rw[if_pos ⟨rfl,h1⟩,if_neg h2]);have HL:=zb (show(N++[n]++[x]).length<=k+1+1 by simp only[List.length_append,List.length_cons,List.length_nil];omega);clear hst hln;go_wp2_with (at_builtin;refine wpList_append_own _ rfl _ _ 96 rfl w.heap.size 3 i0 _ 1 8 Tryz.underlying96 Hi.out.1 Hi.out.2.1 Hi.out.2.2.1 Hi.out.2.2.2 rfl (by decide) _ _ _ rfl (Hown.out.alloc _) ⟨wr.heap.size,0,none⟩ 1 1 [.int .i64 n] rfl rfl (World.news_of_block (cs:=#[.int .i64 n]) (t:=3) (fr:=(0,0)) (heap_alloc_new _ _)) ?bq2 ?bq3 ?bq4 ?bq5 ?_);case bq2=>simp[Value.oneCell']
        case bq3=>unfold maxLen;(try simp only[List.length_append,List.length_cons,List.length_nil]);omega
        case bq4=>(try simp only[List.length_append,List.length_cons,List.length_nil]);omega
        case bq5=>(try simp);omega
        intro v_w2 w2 hown_w2 hgrow _;have hb2:=(hb.alloc hbz (Obj.cells #[.int .i64 n] 3)).grown hgrow (by simp;omega) (fun g hg=>(zg Hown.out g hg).1);have Hown2:=zb hown_w2;have hz_w2:=hb2.size;clear hown_w2 hgrow;have c1:=Hc0.out w2 hb2;obtain⟨ao2,co2,rfl,-,-⟩:=zf Hown2.out;go_wp2_with (at_builtin;refine wpList_append_own _ rfl _ _ 96 rfl w.heap.size 3 i0 _ 1 8 Tryz.underlying96 Hi.out.1 Hi.out.2.1 Hi.out.2.2.1 Hi.out.2.2.2 rfl (by decide) _ _ _ rfl (Hown2.out.alloc _) ⟨w2.heap.size,0,none⟩ 1 1 [.int .i64 x] rfl rfl (World.news_of_block (cs:=#[.int .i64 x]) (t:=3) (fr:=(0,0)) (heap_alloc_new _ _)) ?cq2 ?cq3 ?cq4 ?cq5 ?_);case cq2=>simp[Value.oneCell']
        case cq3=>unfold maxLen;(try simp only[List.length_append,List.length_cons,List.length_nil]);omega
        case cq4=>(try simp only[List.length_append,List.length_cons,List.length_nil]);omega
        case cq5=>(try simp);omega
        intro v_w3 w3 hown_w3 hgrow _;have hb3:=(hb2.alloc hz_w2 (Obj.cells #[.int .i64 x] 3)).grown hgrow (by simp;omega) (fun g hg=>(zg Hown2.out g hg).1);have Hown3:=zb hown_w3;have hz_w3:=hb3.size;clear hown_w3 hgrow;obtain⟨ao3,co3,rfl,-,-⟩:=zf Hown3.out;go_wp2;exact⟨⟨k+1,N++[n]++[x],true,by omega,by go_num,rfl,HT.out,HL.out,by have:=Hown3.out;simpa using this,hb3⟩,by simp[intOf];omega⟩
      have d1:decide (n<=x)=false:=decide_eq_false h1;have h2:x≠n:=by omega
      have d2:(x != n)=true:=by rw[bne_iff_ne];exact h2
      have hlen:N.length<=k:=by simp at hln;omega
      have HT:=zb (show(l.take (k+1)).foldl (zD n) ([],false)=(N++[x],false) by rw[hst];unfold zD;rw[if_neg (fun h=>h1 h.2),if_neg h2]);have HL:=zb (show(N++[x]).length<=k+1+1 by simp only[List.length_append,List.length_cons,List.length_nil];omega);clear hst hln;go_wp2_with (at_builtin;refine wpList_append_own _ rfl _ _ 96 rfl w.heap.size 3 i0 _ 1 8 Tryz.underlying96 Hi.out.1 Hi.out.2.1 Hi.out.2.2.1 Hi.out.2.2.2 rfl (by decide) _ _ _ rfl (Hown.out.alloc _) ⟨wr.heap.size,0,none⟩ 1 1 [.int .i64 x] rfl rfl (World.news_of_block (cs:=#[.int .i64 x]) (t:=3) (fr:=(0,0)) (heap_alloc_new _ _)) ?dq2 ?dq3 ?dq4 ?dq5 ?_);case dq2=>simp[Value.oneCell']
      case dq3=>unfold maxLen;(try simp only[List.length_append,List.length_cons,List.length_nil]);omega
      case dq4=>(try simp only[List.length_append,List.length_cons,List.length_nil]);omega
      case dq5=>(try simp);omega
      intro v_w2 w2 hown_w2 hgrow _;have hb2:=(hb.alloc hbz (Obj.cells #[.int .i64 x] 3)).grown hgrow (by simp;omega) (fun g hg=>(zg Hown.out g hg).1);have Hown2:=zb hown_w2;have hz_w2:=hb2.size;clear hown_w2 hgrow;obtain⟨ao2,co2,rfl,-,-⟩:=zf Hown2.out;go_wp2;exact⟨⟨k+1,N++[x],false,by omega,by go_num,rfl,HT.out,HL.out,by have:=Hown2.out;simpa using this,hb2⟩,by simp[intOf];omega⟩
    |true=>
      by_cases h2:x=n
      · subst h2
        have d2:(x != x)=false:=bne_self_eq_false _;have HT:=zb (show(l.take (k+1)).foldl (zD x) ([],false)=(N,true) by rw[hst];unfold zD;rw[if_neg (fun h=>by cases h.1),if_pos rfl]);have HL:=zb (show N.length<=k+1+1 by omega);clear hst hln;go_wp2;exact⟨⟨k+1,N,true,by omega,by go_num,rfl,HT.out,HL.out,by have:=Hown.out;simpa using this,hb⟩,by simp[intOf];omega⟩
      have d2:(x != n)=true:=by rw[bne_iff_ne];exact h2
      have HT:=zb (show(l.take (k+1)).foldl (zD n) ([],false)=(N++[x],true) by rw[hst];unfold zD;rw[if_neg (fun h=>by cases h.1),if_neg h2]);have HL:=zb (show(N++[x]).length<=k+1+1 by simp only[List.length_append,List.length_cons,List.length_nil];omega);clear hst hln;go_wp2_with (at_builtin;refine wpList_append_own _ rfl _ _ 96 rfl w.heap.size 3 i0 _ 1 8 Tryz.underlying96 Hi.out.1 Hi.out.2.1 Hi.out.2.2.1 Hi.out.2.2.2 rfl (by decide) _ _ _ rfl (Hown.out.alloc _) ⟨wr.heap.size,0,none⟩ 1 1 [.int .i64 x] rfl rfl (World.news_of_block (cs:=#[.int .i64 x]) (t:=3) (fr:=(0,0)) (heap_alloc_new _ _)) ?eq2 ?eq3 ?eq4 ?eq5 ?_);case eq2=>simp[Value.oneCell']
      case eq3=>unfold maxLen;(try simp only[List.length_append,List.length_cons,List.length_nil]);omega
      case eq4=>(try simp only[List.length_append,List.length_cons,List.length_nil]);omega
      case eq5=>(try simp);omega
      intro v_w2 w2 hown_w2 hgrow _;have hb2:=(hb.alloc hbz (Obj.cells #[.int .i64 x] 3)).grown hgrow (by simp;omega) (fun g hg=>(zg Hown.out g hg).1);have Hown2:=zb hown_w2;have hz_w2:=hb2.size;clear hown_w2 hgrow;obtain⟨ao2,co2,rfl,-,-⟩:=zf Hown2.out;go_wp2;exact⟨⟨k+1,N++[x],true,by omega,by go_num,rfl,HT.out,HL.out,by have:=Hown2.out;simpa using this,hb2⟩,by simp[intOf];omega⟩
  have hall:l.take k=l:=List.take_of_length_le (by omega);rw[hall]at hN;cases dn with
  |true=>have HN:=zb (show addL l n=N by unfold addL;rw[hN,if_pos rfl]);clear hN hall;go_wp2;go_ret;exact⟨_,rfl,by rw[HN.out];exact uh.own Hown.out,hb⟩
  |false=>
    have HN:=zb (show addL l n=N++[n] by unfold addL;rw[hN,if_neg (show ¬(N,false).2=true from fun h=>by cases h)]);clear hN hall;go_wp2_with (at_builtin;refine wpList_append_own _ rfl _ _ 96 rfl w.heap.size 3 i0 _ 1 8 Tryz.underlying96 Hi.out.1 Hi.out.2.1 Hi.out.2.2.1 Hi.out.2.2.2 rfl (by decide) _ _ _ rfl (Hown.out.alloc _) ⟨wr.heap.size,0,none⟩ 1 1 [.int .i64 n] rfl rfl (World.news_of_block (cs:=#[.int .i64 n]) (t:=3) (fr:=(0,0)) (heap_alloc_new _ _)) ?fq2 ?fq3 ?fq4 ?fq5 ?_);case fq2=>simp[Value.oneCell']
    case fq3=>unfold maxLen;(try simp only[List.length_append,List.length_cons,List.length_nil]);omega
    case fq4=>(try simp only[List.length_append,List.length_cons,List.length_nil]);omega
    case fq5=>(try simp);omega
    intro v_w2 w2 hown_w2 hgrow _;have hb2:=(hb.alloc hbz (Obj.cells #[.int .i64 n] 3)).grown hgrow (by simp;omega) (fun g hg=>(zg Hown.out g hg).1);have Hown2:=zb hown_w2;have hz_w2:=hb2.size;clear hown_w2 hgrow;obtain⟨ao2,co2,rfl,-,-⟩:=zf Hown2.out;go_wp2;go_ret;exact⟨_,rfl,by rw[HN.out];exact uh.own (by have:=Hown2.out;simpa using this),hb2⟩
end Go.Proofs.YtngippiilgdnoaaGreat
namespace Go.Proofs.YtngippiilgdnoaaGreat
open Go.RowKit
open Go.RowKit
open Go.RowKit
open Go.RowKit
open Go.RowKit
end Go.Proofs.YtngippiilgdnoaaGreat
