/-
  The walks of Fee, the program's and the reference's; of the laws' Few and valid; the law on fees.
-/
import Derived.Test.YtngippiilgdnoaaGreatMibf
import Derived.Test.YtngippiilgdnoaaGreatMibm
import Derived.Test.YtngippiilgdnoaaGreatMibh
import Derived.Test.YtngippiilgdnoaaGreatMibi
set_option maxRecDepth 100000
set_option maxHeartbeats 25600000
namespace Go.Proofs.YtngippiilgdnoaaGreat
open Go.RowKit
theorem G0 (v:Value) (l:List Pd) (s:ByteArray) (t:Int) (w:World) (h:qG w v l) (hf:FewP l):
 Calls Tryz.prog 77 #[v,.string s,.int .i64 t] w fun e w'=>xl w (atL l s t) e w':=by
 cases ha:atL l s t with
 |none=>exact at_no v l s t w h hf ha
 |some p=>exact z8c v l s t p w h hf ha
theorem ul {w:World} {v:Value} {l:List (Int×Int)} (h:yf w v l):∃a c,v=.slice a l.length c/\l.length<=c/\c<=maxLen:=by obtain⟨a,c,rfl,h1,h2,-⟩:=h;exact⟨a,c,rfl,h1,h2.1⟩
def buOf (ac:Int) (h:Had) (q:Int×Int) (i:Int) (b:Bd):Bu:=⟨ac,h.1,h.2,i,b.kd,b.zs,q.1,q.2,b.un,b.un,b.pr,b.sh⟩
def qg (ac:Int) (h:Had) (q:Int×Int) (bs:List Bd):List (Bu×Int):=bs.mapIdx fun i b=>(buOf ac h q (i:Int) b,b.ro)
theorem Yr (ac:Int) (h:Had) (q:Int×Int) (bs:List Bd) (k:Nat) (hk:k<bs.length):qg ac h q (bs.take (k+1))=qg ac h q (bs.take k)++[(buOf ac h q (k:Int) bs[k],(bs[k]).ro)]:=by unfold qg;rw[List.take_succ_eq_append_getElem hk,List.mapIdx_concat,List.length_take,Nat.min_eq_left (Nat.le_of_lt hk)]
theorem Vx (ac:Int) (h:Had) (q:Int×Int) (bs:List Bd):(qg ac h q bs).length=bs.length:=by unfold qg;rw[List.length_mapIdx]
def ju (A:List (Int×Int)) (c:Int×Int):Option (Int×Int):=match A.find? (fun p=>yY p.1 p.2 c.1 c.2)with
 |some p=>some (max p.1 c.1,min p.2 c.2)
 |none=>none
def bsOf:Option Pd->List Bd
 |none=>[]
 |some x=>x.bs
def yG (P:List Pd) (ac:Int) (h:Had) (A:List (Int×Int)) (c:Int×Int):List (Bu×Int):=match ju A c with
 |none=>[]
 |some q=>qg ac h q (bsOf (atL P h.2 q.1))
theorem QJ {α:Type} {p:α->Bool} {l:List α} {k:Nat} (hk:k<l.length) (h:(l.take k).any p=false) (hp:p l[k]=true):l.find? p=some l[k]:=by
 have e:l=l.take k++(l[k]::l.drop (k+1)):=by rw[<-List.drop_eq_getElem_cons hk,List.take_append_drop]
 have h1:(l.take k).find? p=none:=List.find?_eq_none.2 (fun x hx=>by
  have:=List.any_eq_false.1 h x hx;simpa using this);have h2:l.find? p=(l.take k++(l[k]::l.drop (k+1))).find? p:=congrArg _ e;rw[h2,List.find?_append,h1,Option.none_or,List.find?_cons_of_pos hp]
theorem QK {α:Type} {p:α->Bool} {l:List α} {k:Nat} (hk:l.length<=k) (h:(l.take k).any p=false):l.find? p=none:=by
 rw[List.take_of_length_le hk]at h;exact List.find?_eq_none.2 (fun x hx=>by
  have:=List.any_eq_false.1 h x hx;simpa using this)
theorem QH {A:List (Int×Int)} {c:Int×Int} {k:Nat} (hk:k<A.length) (h:(A.take k).any (fun p=>yY p.1 p.2 c.1 c.2)=false) (hp:yY (A[k]).1 (A[k]).2 c.1 c.2=true):ju A c=some (max (A[k]).1 c.1,min (A[k]).2 c.2):=by unfold ju;rw[QJ (p:=fun p:Int×Int=>yY p.1 p.2 c.1 c.2) hk h hp]
theorem QI {A:List (Int×Int)} {c:Int×Int} {k:Nat} (hk:A.length<=k) (h:(A.take k).any (fun p=>yY p.1 p.2 c.1 c.2)=false):ju A c=none:=by unfold ju;rw[QK (p:=fun p:Int×Int=>yY p.1 p.2 c.1 c.2) hk h]
def jb (g:BuX×Int):List Value:=[.int .i64 g.1.b.ac,.int .i64 g.1.b.sb,.string g.1.b.pr,.int .i64 g.1.b.ix,.int .i64 g.1.b.kd,.slice g.1.za g.1.zn g.1.zc,.int .i64 g.1.b.f,.int .i64 g.1.b.t,.int .i64 g.1.b.un,.int .i64 g.1.b.lf,.int .i64 g.1.b.pt,.bool g.1.b.sh,.int .i64 g.2]
theorem z4b (a:BuX×Int):∀u∈jb a,u.oneCell'=true:=by intro u hu;unfold jb at hu;simp only[List.mem_cons,List.not_mem_nil,or_false]at hu;rcases hu with rfl|rfl|rfl|rfl|rfl|rfl|rfl|rfl|rfl|rfl|rfl|rfl|rfl<;>rfl
theorem Tryz.grInfo:(Tryz.prog.info? 122).map (fun i=>(i.zero,i.size,i.bytes))=some (some (.agg #[.int .i64 0,.int .i64 0,.string ⟨#[]⟩,.int .i64 0,.int .i64 0,.slice none 0 0,.int .i64 0,.int .i64 0,.int .i64 0,.int .i64 0,.int .i64 0,.bool false,.int .i64 0]),13,128):=by kernel_rfl
def plG (X:List (BuX×Int)):List (Bu×Int):=X.map fun g=>(g.1.b,g.2)
def GrTo (G:List (Bu×Int)) (w:World) (e:Ending) (w':World):Prop:=∃(a:Option Addr) (c:Nat) (X:List (BuX×Int)),e=.returned (.slice a X.length c)/\w'.ownsRow w.heap.size 122 13 (.slice a X.length c) X.length (X.flatMap jb)/\plG X=G/\(∀x∈X,BuRd w' x.1)/\Below w.heap.size w w'
theorem EA {w:World} {ops:Array Oper} {rest:List Oper} {o:Oper} {a:Act} {Q:Exit->Act->World->Prop} (hgd:o.guard=none) (s x:Operand)
 (ho:o.op=.call { callee:=.builtin .append,args:=#[s,x],argTypes:=#[119,119] })
 (base:Nat) (hbase:base<=w.heap.size) (v vx:Value) (L X:List (BuX×Int)) (hs:a.eval s=v) (hx:a.eval x=vx) (hown:w.ownsRow base 122 13 v L.length (L.flatMap jb)) (hX:zh jb 13 w vx X) (hlen:L.length+X.length<=1000000)
 (h:∀R:List (BuX×Int),RowKit.Hid (R=L++X)->∀v' w',w'.ownsRow base 122 13 v' R.length (R.flatMap jb)->w.grownBy w' v.ownBlock->wpList Tryz.prog ops Q rest (a.put o.dst v') w'):wpList Tryz.prog ops Q (o::rest) a w:=
 yu (c:=jb) (sz:=13) (fun _=>rfl) z4b 122 119 _ 128 Tryz.underlying119 Tryz.grInfo rfl (by decide) hgd s x ho base hbase v vx L X hs hx hown hX (by unfold maxLen;omega) (by omega) h
theorem World.le_alloc (w:World) (o:Obj):w.heap.size<=(w.alloc o).heap.size:=by simp
theorem Ew {w:World} {v:Value} {l:List Bd} (h:qW w v l):∃a c,v=.slice a l.length c/\l.length<=c/\c<=maxLen:=by obtain⟨a,c,rfl,h1,h2,-⟩:=h;exact⟨a,c,rfl,h1,h2.1⟩
theorem Gv (w:World):qW w (.slice none 0 0) []:=⟨none,0,rfl,Nat.le_refl _,⟨by unfold maxLen;omega,fun _=>rfl⟩,fun h=>absurd rfl h⟩
theorem atBs {w w':World} {o:Option Pd} {e:Ending} (h:xl w o e w'):∃(nm ct:ByteArray) (fm fe:Int) (pro:Bool) (ba:Option Addr) (bc:Nat),e=.returned (.tuple #[.agg #[.string nm,.int .i64 fm,.int .i64 fe,.string ct,.bool pro,.slice ba (bsOf o).length bc],.bool o.isSome])/\qW w' (.slice ba (bsOf o).length bc) (bsOf o)/\(bsOf o).length<=bc/\bc<=maxLen/\Below w.heap.size w w':=by
 cases o with
 |none=>exact⟨_,_,_,_,_,none,0,h.1,Gv _,Nat.le_refl _,by unfold maxLen;omega,h.2⟩
 |some p=>obtain⟨bv,rfl,hb,hbl⟩:=h;obtain⟨a,c,rfl,h1,h2⟩:=Ew hb;exact⟨_,_,_,_,_,a,c,rfl,hb,h1,h2,hbl⟩
theorem XC {w:World} {b o:Nat} {x:Bd} (h:BdR w b o x):∃(za:Option Addr) (zc:Nat),w.cell? ⟨b,o,none⟩=some (.int .i64 x.kd)/\w.cell? ⟨b,o+1,none⟩=some (.slice za x.zs.length zc)/\zY w (.slice za x.zs.length zc) x.zs/\w.cell? ⟨b,o+2,none⟩=some (.int .i64 x.un)/\w.cell? ⟨b,o+3,none⟩=some (.int .i64 x.ro)/\w.cell? ⟨b,o+4,none⟩=some (.int .i64 x.pr)/\w.cell? ⟨b,o+5,none⟩=some (.bool x.sh):=by obtain⟨h0,⟨zv,h1,hz⟩,h2,h3,h4,h5⟩:=h;have hz2:=hz;obtain⟨za,zc,rfl,-,-,-⟩:=hz2;exact⟨za,zc,h0,h1,hz,h2,h3,h4,h5⟩
theorem Xf (ac sb:Int) (pr:ByteArray) (pa:Option Addr) (pn pc:Nat) (vp:Value) (P:List Pd) (A:List (Int×Int)) (c:Int×Int) (w:World) (hA:yf w (.slice pa pn pc) A) (hp:qG w vp P) (hf:FewP P) (hs:pr.size<=maxLen):
 Calls Tryz.prog 56 #[.agg #[.int .i64 ac,.int .i64 sb,.string pr,.slice pa pn pc],vp,.agg #[.int .i64 c.1,.int .i64 c.2]] w (GrTo (yG P ac (sb,pr) A c) w):=by
 obtain⟨W,hW,r0,r1,hw0,hz0⟩:=yL w (Obj.cells #[.int .i64 ac,.int .i64 sb,.string pr,.slice pa pn pc] 118) (Obj.cells #[.int .i64 c.1,.int .i64 c.2] 25);have HA:=zb (hA.below hw0);have HP:=zb (hp.below hw0);have Hf:=zb hf;have Hs:=zb hs;have Hzs:=zb (show ∀(s:ByteArray) (t:Int),∀b∈bsOf (atL P s t),b.zs.length<=100 from fun s t b hb=>by
  cases ha:atL P s t with
  |none=>rw[ha]at hb;cases hb
  |some x=>
    rw[ha]at hb;have hx:x∈P:=by unfold atL at ha;exact(List.mem_filter.1 (List.mem_of_getLast? ha)).1
    exact(hf.2 x hx).2 b hb);have Hbl:=zb (show ∀(s:ByteArray) (t:Int),(bsOf (atL P s t)).length<=100 from fun s t=>by
  cases ha:atL P s t with
  |none=>exact Nat.zero_le _
  |some x=>
    have hx:x∈P:=by unfold atL at ha;exact(List.mem_filter.1 (List.mem_of_getLast? ha)).1
    exact(hf.2 x hx).1);have Hnone:=zb (show ju A c=none->yG P ac (sb,pr) A c=[] from fun h=>by unfold yG;rw[h]);have Hsome:=zb (show ∀q,ju A c=some q->yG P ac (sb,pr) A c=qg ac (sb,pr) q (bsOf (atL P pr q.1))from fun q h=>by unfold yG;rw[h]);have HW:=zb hW;have Hw0:=zb hw0;have R0:=zb r0;have R1:=zb r1;obtain⟨av,cap,e,hlc,hm,-⟩:=hA;cases e;have hm:=hm.1;unfold maxLen at hm;obtain⟨pav,pcap,rfl,-,-,-⟩:=hp;have a3:=cell_of_row W _ 3 _ _ _ r0;clear hW r0 r1 hw0 hf hs;generalize yG P ac (sb,pr) A c=GG at *;go_enter Tryz.func56,Tryz.ntmps56;go_upto_region 1 with(fail);rw[<-HW.out];go_wp2_with fail;go_loopw [20] (fun i wr=>∃k:Nat,k<=A.length/\i=.int .i64 k/\(A.take k).any (fun p=>yY p.1 p.2 c.1 c.2)=false/\Below W.heap.size W wr) (fun i _=>A.length-(intOf i).toNat);case atStart=>exact⟨0,Nat.zero_le _,rfl,rfl,Below.refl _ _⟩
 case round=>
  obtain⟨wo,rfl⟩:∃wo:World,wo=wr:=⟨_,rfl⟩;obtain⟨k,hk,rfl,hn,hb⟩:=hrel;have Hn:=zb hn;have Hb:=zb hb;by_cases hlt:k<A.length
  · have hk1:(k:Int)<(A.length:Int):=by omega
    have hk0:(0:Int)<=(k:Int):=Int.natCast_nonneg _;obtain⟨a3,c3,e3,-,-,hx⟩:=HA.out.below hb;cases e3;obtain⟨bb,o,rfl,hB,hx⟩:=hx (by rintro rfl;cases hlt);obtain⟨x0,x1⟩:=hx k hlt;have HH:=zb (fun h2=>QH (c:=c) hlt Hn.out h2);have HT:=zb (fun h2=>qF (p:=fun p:Int×Int=>yY p.1 p.2 c.1 c.2) hlt Hn.out h2);clear hx hn;generalize A[k]=p at *;obtain⟨Y,hY⟩:∃Y,Y=wo.alloc (Obj.cells #[.int .i64 p.1,.int .i64 p.2] 25):=⟨_,rfl⟩;have hbY:Below wo.heap.size wo Y:=by rw[hY];exact(Below.refl _ _).alloc (Nat.le_refl _) _
    have YN:=zb (show Y.heap[wo.heap.size]?=some (Obj.cells #[.int .i64 p.1,.int .i64 p.2] 25) by rw[hY];exact heap_alloc_new _ _);have hbW:=hb.trans (hbY.mono hb.size);have HbW:=zb hbW;have Y1:=zb ((hbW.block _ hz0).trans R1.out);have HY:=zb hY;clear hY hbY hb;have y0:=cell_of_row Y _ 0 _ _ _ YN.out;have y1:=cell_of_row Y _ 1 _ _ _ YN.out;have z0:=cell_of_row Y _ 0 _ _ _ Y1.out;have z1:=cell_of_row Y _ 1 _ _ _ Y1.out;have HI:=zb (uy p.1 p.2 c.1 c.2 Y);cases hme:yY p.1 p.2 c.1 c.2 with
    |false=>have HE:=zb (HT.out hme);unfold ko at HI;rw[hme,if_neg (by decide)]at HI;clear hme;go_upto_region 4 with(fail);rw[<-HY.out];go_wp2_with fail;refine HI.out.mono ?_;rintro e w3 ⟨rfl,hb3⟩;have Hb3:=zb (HbW.out.trans ((hb3.alloc hb3.size (Obj.cells #[.int .i64 0,.int .i64 0] 25)).mono HbW.out.size));clear hb3 y0 y1 z0 z1;go_wp2;exact⟨⟨k+1,by omega,by go_num,HE.out,Hb3.out⟩,by simp[intOf];omega⟩
    |true=>
      have HF:=zb (HH.out hme);unfold ko at HI;rw[hme,if_pos rfl]at HI;clear hme;go_upto_region 4 with(fail);rw[<-HY.out];go_wp2_with fail;refine HI.out.mono ?_;rintro e w3 ⟨rfl,hb3⟩;obtain⟨q,hq⟩:∃q:Int×Int,q=(max p.1 c.1,min p.2 c.2):=⟨_,rfl⟩;have hq1:max p.1 c.1=q.1:=by rw[hq]
      have hq2:min p.2 c.2=q.2:=by rw[hq]
      have HG:=zb (Hsome.out q (by rw[hq];exact HF.out));rw[hq1,hq2];clear hq hq1 hq2 HF HI HH HT y0 y1 z0 z1 x0 x1;obtain⟨V,hV⟩:∃V,V=w3.alloc (Obj.cells #[.int .i64 q.1,.int .i64 q.2] 25):=⟨_,rfl⟩;have hbV:Below w3.heap.size w3 V:=by rw[hV];exact(Below.refl _ _).alloc (Nat.le_refl _) _
      have VN:=zb (show V.heap[w3.heap.size]?=some (Obj.cells #[.int .i64 q.1,.int .i64 q.2] 25) by rw[hV];exact heap_alloc_new _ _);have hbV2:=HbW.out.trans ((hb3.trans (hbV.mono hb3.size)).mono HbW.out.size);have HbV:=zb hbV2;have V0:=zb ((hbV2.block _ (by omega)).trans R0.out);have HV:=zb hV;clear hV hbV hbV2 hb3;have v0:=cell_of_row V _ 0 _ _ _ VN.out;have v2:=cell_of_row V _ 2 _ _ _ V0.out;have HAt:=zb (G0 _ P pr q.1 V (HP.out.below HbV.out) Hf.out);have HzB:=zb (Hzs.out pr q.1);have HlB:=zb (Hbl.out pr q.1);have hVn:w3.heap.size<V.heap.size:=(zw VN.out);go_upto_region 6 with(fail);rw[<-HV.out];go_wp2_with fail;refine HAt.out.mono ?_;intro e w4 hAt;obtain⟨nm,ct,fm,fe,pro,ba,bc,rfl,hbs,hbc1,hbc2,hb4⟩:=atBs hAt;generalize bsOf (atL P pr q.1)=bs at *;generalize (atL P pr q.1).isSome=som at *;have hbl:=HlB.out;unfold maxLen at hbc2;obtain⟨T,hT⟩:∃T,T=w4.alloc (Obj.cells #[.string nm,.int .i64 fm,.int .i64 fe,.string ct,.bool pro,.slice ba bs.length bc] 72):=⟨_,rfl⟩;have hbT:Below w4.heap.size w4 T:=by rw[hT];exact(Below.refl _ _).alloc (Nat.le_refl _) _
      have TN:=zb (show T.heap[w4.heap.size]?=some (Obj.cells #[.string nm,.int .i64 fm,.int .i64 fe,.string ct,.bool pro,.slice ba bs.length bc] 72) by rw[hT];exact heap_alloc_new _ _);have hbT2:=hb4.trans (hbT.mono hb4.size);have HBs:=zb (hbs.below hbT);have T0:=zb ((hbT2.block _ (by have:=HbV.out.size;omega)).trans V0.out);have TV:=zb ((hbT2.block _ hVn).trans VN.out);have HbT:=zb (HbV.out.trans (hbT2.mono HbV.out.size));have HT:=zb hT;have t5:=cell_of_row T _ 5 _ _ _ TN.out;clear hT hbT hbT2 hb4 hbs hAt v0 v2;go_upto_region 8 with(fail);rw[<-HT.out];go_wp2_with fail;clear t5;go_loopw [13,44] (fun vo i wr=>∃(j:Nat) (O:List (BuX×Int)),j<=bs.length/\i=.int .i64 j/\RowKit.Hid (plG O=qg ac (sb,pr) q (bs.take j))/\O.length=j/\wr.ownsRow T.heap.size 122 13 vo O.length (O.flatMap jb)/\(∀x∈O,BuRd T x.1)/\Below T.heap.size T wr) (fun _ i _=>bs.length-(intOf i).toNat);case atStart=>exact⟨0,[],Nat.zero_le _,rfl,zb rfl,rfl,World.ownsRow_nil _ _ _ _,fun x hx=>(by cases hx),Below.refl _ _⟩
      case round=>
       obtain⟨wo2,rfl⟩:∃wo2:World,wo2=wr:=⟨_,rfl⟩;obtain⟨j,O,hj,rfl,HO,hOl,hown,hrd,hb⟩:=hrel;obtain⟨a,cp,rfl,hc1,hc2⟩:=zf hown;unfold maxLen at hc2;have Hown:=zb hown;have Hrd:=zb hrd;have Hbo:=zb hb;have hOl1:O.length<=100:=by omega
       have HOl:=zb hOl;clear hOl hrd;by_cases hjt:j<bs.length
       · have hj1:(j:Int)<(bs.length:Int):=by omega
         have hj0:(0:Int)<=(j:Int):=Int.natCast_nonneg _;have HG1:=zb (Yr ac (sb,pr) q bs j hjt);have HZl:=zb (HzB.out _ (List.getElem_mem hjt));obtain⟨a3,c3,e3,-,-,hx⟩:=HBs.out;cases e3;obtain⟨bb2,o2,rfl,hB2,hx⟩:=hx (by rintro rfl;cases hjt);have hbd:=hx j hjt;clear hx;generalize bs[j]=bd at *;obtain⟨za,zc,z0,z1,hzs,z2,z3,z4,z5⟩:=XC hbd;have Hz:=zb hzs;have x0:=(hb.cell (p:=⟨bb2,_,none⟩) hB2).trans z0;have x1:=(hb.cell (p:=⟨bb2,_,none⟩) hB2).trans z1;have x2:=(hb.cell (p:=⟨bb2,_,none⟩) hB2).trans z2;have x3:=(hb.cell (p:=⟨bb2,_,none⟩) hB2).trans z3;have x4:=(hb.cell (p:=⟨bb2,_,none⟩) hB2).trans z4;have x5:=(hb.cell (p:=⟨bb2,_,none⟩) hB2).trans z5;have hB2:bb2<wo2.heap.size:=Nat.lt_of_lt_of_le hB2 hb.size;clear z0 z1 z2 z3 z4 z5 hzs hbd;obtain⟨X,hX⟩:∃X,X=wo2.alloc (Obj.cells #[.int .i64 bd.kd,.slice za bd.zs.length zc,.int .i64 bd.un,.int .i64 bd.ro,.int .i64 bd.pr,.bool bd.sh] 76):=⟨_,rfl⟩;have HX:=zb hX;have hbX:Below wo2.heap.size wo2 X:=by rw[hX];exact(Below.refl _ _).alloc (Nat.le_refl _) _
         have hbX2:=hb.trans (hbX.mono hb.size);have XN:=zb (show X.heap[wo2.heap.size]?=some (Obj.cells #[.int .i64 bd.kd,.slice za bd.zs.length zc,.int .i64 bd.un,.int .i64 bd.ro,.int .i64 bd.pr,.bool bd.sh] 76) by rw[hX];exact heap_alloc_new _ _);have X0:=zb ((hbX2.block _ (by have:=HbT.out.size;omega)).trans T0.out);have XV:=zb ((hbX2.block _ (zw TV.out)).trans TV.out);obtain⟨U,hU⟩:∃U,U=X.alloc (Obj.cells #[.int .i64 ac,.int .i64 sb,.string pr,.int .i64 (j:Int),.int .i64 bd.kd,.slice za bd.zs.length zc,.int .i64 q.1,.int .i64 q.2,.int .i64 bd.un,.int .i64 bd.un,.int .i64 bd.pr,.bool bd.sh] 60):=⟨_,rfl⟩;have hbXU:Below X.heap.size X U:=by rw[hU];exact(Below.refl _ _).alloc (Nat.le_refl _) _
         have U1:=zb (show U.heap[X.heap.size]?=some (Obj.cells #[.int .i64 ac,.int .i64 sb,.string pr,.int .i64 (j:Int),.int .i64 bd.kd,.slice za bd.zs.length zc,.int .i64 q.1,.int .i64 q.2,.int .i64 bd.un,.int .i64 bd.un,.int .i64 bd.pr,.bool bd.sh] 60) by rw[hU];exact heap_alloc_new _ _);have U0:=zb ((hbXU.block _ (zw XN.out)).trans XN.out);have hbU:=hbX.trans (hbXU.mono hbX.size);have HbU:=zb hbU;have hbU2:=hb.trans (hbU.mono hb.size);have HbU2:=zb hbU2;have HU:=zb hU;clear hU hX hbU hbU2 hbX hbX2 hbXU hb;go_upto_region 11 with(fail);rw[<-HX.out];clear x0 x1 x2 x3 x4 x5;have h0:=cell_of_row X _ 0 _ _ _ X0.out;have h1:=cell_of_row X _ 1 _ _ _ X0.out;have h2:=cell_of_row X _ 2 _ _ _ X0.out;have v0:=cell_of_row X _ 0 _ _ _ XV.out;have v1:=cell_of_row X _ 1 _ _ _ XV.out;have tQ:=fun j=>cell_of_row X _ j _ _ _ XN.out;have b0:=tQ 0;have b1:=tQ 1;have b2:=tQ 2;have b3:=tQ 3;have b4:=tQ 4;have b5:=tQ 5;clear tQ;go_upto_region 12 with(fail);rw[<-HU.out];clear h0 h1 h2 v0 v1 b0 b1 b2 b3 b4 b5;have tQ:=fun j=>cell_of_row U _ j _ _ _ U1.out;have m0:=tQ 0;have m1:=tQ 1;have m2:=tQ 2;have m3:=tQ 3;have m4:=tQ 4;have m5:=tQ 5;have m6:=tQ 6;have m7:=tQ 7;have m8:=tQ 8;have m9:=tQ 9;have m10:=tQ 10;have m11:=tQ 11;clear tQ;have n3:=cell_of_row U _ 3 _ _ _ U0.out;have HRX:=zb (zh.one (c:=jb) (sz:=13) U ((⟨buOf ac (sb,pr) q (j:Int) bd,za,bd.zs.length,zc⟩:BuX),bd.ro) 122 #[.int .i64 ac,.int .i64 sb,.string pr,.int .i64 (j:Int),.int .i64 bd.kd,.slice za bd.zs.length zc,.int .i64 q.1,.int .i64 q.2,.int .i64 bd.un,.int .i64 bd.un,.int .i64 bd.pr,.bool bd.sh,.int .i64 bd.ro] rfl);have HownU:=zb (ze Hown.out HbU.out);have hbs:=HbU2.out.size;go_wp2_with (at_builtin;refine EA rfl _ _ rfl T.heap.size (Nat.le_trans hbs (World.le_alloc _ _)) _ _ O [((⟨buOf ac (sb,pr) q (j:Int) bd,za,bd.zs.length,zc⟩:BuX),bd.ro)] rfl rfl (HownU.out.alloc _) HRX.out (by rw[List.length_singleton];omega) ?_);intro R hR v5 w5 own5 hg5;have Hg5:=zb hg5;have HRe:=zb (show plG R=qg ac (sb,pr) q (bs.take (j+1)) by rw[hR.out,HG1.out,<-HO.out];unfold plG;rw[List.map_append];rfl);have HRl:=zb (show R.length=j+1 by rw[hR.out,List.length_append,HOl.out];rfl);have HR5:=zb (show ∀x∈R,BuRd T x.1 from fun x hx=>by
          rw[hR.out]at hx;rcases List.mem_append.1 hx with hx|hx;· exact Hrd.out x hx
          rw[List.mem_singleton.1 hx];exact⟨Hz.out,Hs.out,by show bd.zs.length*16<=_;have:=HZl.out;omega⟩);have Hb5:=zb ((HbU2.out.alloc hbs (Obj.cells #[.int .i64 ac,.int .i64 sb,.string pr,.int .i64 (j:Int),.int .i64 bd.kd,.slice za bd.zs.length zc,.int .i64 q.1,.int .i64 q.2,.int .i64 bd.un,.int .i64 bd.un,.int .i64 bd.pr,.bool bd.sh,.int .i64 bd.ro] 122)).grown Hg5.out (Nat.le_trans hbs (World.le_alloc _ _)) (fun g hg=>(zg HownU.out g hg).1));have Own5:=zb own5;clear own5 hg5 hR hbs m0;go_wp2;exact⟨⟨j+1,R,by omega,by go_num,HRe,HRl.out,Own5.out,HR5.out,Hb5.out⟩,by simp[intOf];omega⟩
       have HE:=zb (show plG O=GG by rw[HG.out,HO.out,List.take_of_length_le (by omega)]);have HbF:=zb (Hw0.out.trans ((HbT.out.trans (Hbo.out.mono HbT.out.size)).mono Hw0.out.size));have Own5:=zb (zr Hown.out (show w.heap.size<=T.heap.size by have:=HbT.out.size;omega));clear hown hb HG;go_wp2;go_ret;exact⟨_,_,O,rfl,Own5.out,HE.out,fun x hx=>(Hrd.out x hx).below Hbo.out,HbF.out⟩
  have HE:=zb (Hnone.out (QI (by omega) Hn.out));have HbF:=zb (Hw0.out.trans (hb.mono Hw0.out.size));clear hb hn;go_wp2;go_ret;exact⟨none,0,[],rfl,World.ownsRow_nil _ _ _ _,HE.out.symm,fun x hx=>(by cases hx),HbF.out⟩
def vn (l:List Ev) (n:Int):Int:=match Yj l n with
 |some e=>e.vl
 |none=>0
theorem Ui (v:Value) (l:List Ev) (n:Int) (w:World) (h:vQ w v l):
 Calls Tryz.prog 53 #[v,.int .i64 n] w fun e w'=>e=.returned (.int .i64 (vn l n))/\Below w.heap.size w w':=by
 have HE:=zb h.1;obtain⟨av,cap,rfl,hlc,hcm⟩:=zu h.1;unfold maxLen at hcm;clear h;go_enter Tryz.func53,Tryz.ntmps53;go_wp2_with fail;go_loopw [9] (fun i wr=>∃k:Nat,k<=l.length/\i=.int .i64 k/\(l.take k).any (qQ n)=false/\Below w.heap.size w wr) (fun i _=>l.length-(intOf i).toNat);case atStart=>exact⟨0,Nat.zero_le _,rfl,rfl,Below.refl _ _⟩
 case round=>
  obtain⟨wo,rfl⟩:∃wo:World,wo=wr:=⟨_,rfl⟩;obtain⟨k,hk,rfl,hno,hb⟩:=hrel;have Hno:=zb hno;have Hb:=zb hb;clear hno;by_cases hlt:k<l.length
  · have hk1:(k:Int)<(l.length:Int):=by omega
    have hk0:(0:Int)<=(k:Int):=Int.natCast_nonneg _;obtain⟨a2,n2,e2,-,-,hx⟩:=HE.out.below hb;cases e2;obtain⟨bb,o,rfl,hB,hx⟩:=hx (by rintro rfl;cases hlt);have x0:wo.cell? ⟨bb,o+k*7,none⟩=some (.int .i64 (l[k]).tm):=hx k hlt 0 (by decide);have x1:wo.cell? ⟨bb,o+k*7+1,none⟩=some (.int .i64 (l[k]).kd):=hx k hlt 1 (by decide);have x2:wo.cell? ⟨bb,o+k*7+2,none⟩=some (.int .i64 (l[k]).ac):=hx k hlt 2 (by decide);have x3:wo.cell? ⟨bb,o+k*7+3,none⟩=some (.int .i64 (l[k]).sb):=hx k hlt 3 (by decide);have x4:wo.cell? ⟨bb,o+k*7+4,none⟩=some (.string (l[k]).nu):=hx k hlt 4 (by decide);have x5:wo.cell? ⟨bb,o+k*7+5,none⟩=some (.string (l[k]).nm):=hx k hlt 5 (by decide);have x6:wo.cell? ⟨bb,o+k*7+6,none⟩=some (.int .i64 (l[k]).vl):=hx k hlt 6 (by decide);have HH:=zb (fun hp=>Kk (p:=qQ n) hlt Hno.out hp);have HT:=zb (fun hp=>qF (p:=qQ n) hlt Hno.out hp);clear hx hb;generalize l[k]=ev at *;obtain⟨Y,hY⟩:∃Y,Y=wo.alloc (Obj.cells #[.int .i64 ev.tm,.int .i64 ev.kd,.int .i64 ev.ac,.int .i64 ev.sb,.string ev.nu,.string ev.nm,.int .i64 ev.vl] 55):=⟨_,rfl⟩;have YN:=zb (show Y.heap[wo.heap.size]?=some (Obj.cells #[.int .i64 ev.tm,.int .i64 ev.kd,.int .i64 ev.ac,.int .i64 ev.sb,.string ev.nu,.string ev.nm,.int .i64 ev.vl] 55) by rw[hY];exact heap_alloc_new _ _);have HbY:=zb (show Below w.heap.size w Y by rw[hY];exact Hb.out.alloc Hb.out.size _);have HY:=zb hY;clear hY;go_upto_region 4 with(fail);rw[<-HY.out];clear x0 x1 x2 x3 x4 x5 x6;have tQ:=fun j=>cell_of_row Y _ j _ _ _ YN.out;have x0:=tQ 0;have x1:=tQ 1;have x2:=tQ 2;have x3:=tQ 3;have x4:=tQ 4;have x5:=tQ 5;have x6:=tQ 6;clear tQ;obtain⟨tm,kd,ac,sb,nu,nm,vl⟩:=ev;dsimp only at x0 x1 x2 x3 x4 x5 x6;cases hq1:(kd==1)with
    |false=>have HE2:=zb (HT.out (by unfold qQ;rw[show decide (kd=1)=false from decide_eq_false (beq_eq_false_iff_ne.1 hq1)];rfl));clear HH HT;go_wp2;exact⟨⟨k+1,by omega,by go_num,HE2.out,HbY.out⟩,by simp[intOf];omega⟩
    |true=>
      cases hq2:(ac==n)with
      |false=>have HE2:=zb (HT.out (by unfold qQ;rw[show decide (ac=n)=false from decide_eq_false (beq_eq_false_iff_ne.1 hq2),Bool.and_false]));clear HH HT;go_wp2;exact⟨⟨k+1,by omega,by go_num,HE2.out,HbY.out⟩,by simp[intOf];omega⟩
      |true=>have HE2:=zb (HH.out (by unfold qQ;rw[show decide (kd=1)=true from decide_eq_true (beq_iff_eq.1 hq1),show decide (ac=n)=true from decide_eq_true (beq_iff_eq.1 hq2)];rfl));clear HH HT;go_wp2;go_ret;exact⟨zT (by unfold vn Yj;rw[HE2.out]),HbY.out⟩
  have HE2:=zb (Xj (p:=qQ n) (by omega) Hno.out);go_wp2;go_ret;exact⟨zT (by unfold vn Yj;rw[HE2.out]),hb⟩
theorem XA {P:List Pd} (hf:FewP P) (s:ByteArray) (t:Int):(bsOf (atL P s t)).length<=100:=by
 cases ha:atL P s t with
 |none=>exact Nat.zero_le _
 |some x=>
   have hx:x∈P:=by unfold atL at ha;exact(List.mem_filter.1 (List.mem_of_getLast? ha)).1
   exact(hf.2 x hx).1
theorem Wo {P:List Pd} (hf:FewP P) (ac:Int) (h:Had) (A:List (Int×Int)) (c:Int×Int):(yG P ac h A c).length<=100:=by
 unfold yG;split;· exact Nat.zero_le _
 rw[Vx];exact XA hf _ _
theorem NW (a:BuX):∀u∈zt a,u.oneCell'=true:=by intro u hu;unfold zt at hu;simp only[List.mem_cons,List.not_mem_nil,or_false]at hu;rcases hu with rfl|rfl|rfl|rfl|rfl|rfl|rfl|rfl|rfl|rfl|rfl|rfl<;>rfl
theorem Tryz.buInfo:(Tryz.prog.info? 60).map (fun i=>(i.zero,i.size,i.bytes))=some (some (.agg #[.int .i64 0,.int .i64 0,.string ⟨#[]⟩,.int .i64 0,.int .i64 0,.slice none 0 0,.int .i64 0,.int .i64 0,.int .i64 0,.int .i64 0,.int .i64 0,.bool false]),12,120):=by kernel_rfl
theorem yz {w:World} {ops:Array Oper} {rest:List Oper} {o:Oper} {a:Act} {Q:Exit->Act->World->Prop} (hgd:o.guard=none) (s x:Operand)
 (ho:o.op=.call { callee:=.builtin .append,args:=#[s,x],argTypes:=#[41,41] })
 (base:Nat) (hbase:base<=w.heap.size) (v vx:Value) (L X:List BuX) (hs:a.eval s=v) (hx:a.eval x=vx) (hown:w.ownsRow base 60 12 v L.length (L.flatMap zt)) (hX:zh zt 12 w vx X) (hlen:L.length+X.length<=1000000)
 (h:∀R:List BuX,RowKit.Hid (R=L++X)->∀v' w',w'.ownsRow base 60 12 v' R.length (R.flatMap zt)->w.grownBy w' v.ownBlock->wpList Tryz.prog ops Q rest (a.put o.dst v') w'):wpList Tryz.prog ops Q (o::rest) a w:=
 yu (c:=zt) (sz:=12) (fun _=>rfl) NW 60 41 _ 120 Tryz.underlying41 Tryz.buInfo rfl (by decide) hgd s x ho base hbase v vx L X hs hx hown hX (by unfold maxLen;omega) (by omega) h
def gX (L:List Bu) (w:World) (e:Ending) (w':World):Prop:=∃(a:Option Addr) (c:Nat) (X:List BuX),e=.returned (.slice a X.length c)/\w'.ownsRow w.heap.size 60 12 (.slice a X.length c) X.length (X.flatMap zt)/\plB X=L/\(∀x∈X,BuRd w' x)/\Below w.heap.size w w'
theorem gX.none {L:List Bu} {w w':World} (h:L=[]) (hb:Below w.heap.size w w'):gX L w (.returned (.slice none 0 0)) w':=⟨_,_,[],rfl,World.ownsRow_nil _ _ _ _,h.symm,fun x hx=>(by cases hx),hb⟩
def QN (wa:World) (vA:Value) (k bb bo:Nat) (p1 p2 c1 c2 m1 m2:Int) (mb:Bool):Nat->(Nat->Value)->World->Prop
 |0,v,_=>v 0=vA
 |1,v,_=>v 1=.int .i64 k
 |2,v,_=>v 2=.pointer (some ⟨bb,bo,none⟩)
 |3,v,_=>v 3=.agg #[.int .i64 p1,.int .i64 p2]
 |4,v,_=>v 4=.agg #[.int .i64 c1,.int .i64 c2]
 |5,v,_=>v 5=.tuple #[.agg #[.int .i64 m1,.int .i64 m2],.bool mb]
 |6,v,_=>v 6=.tuple #[.agg #[.int .i64 m1,.int .i64 m2],.bool mb]
 |7,v,_=>v 7=.agg #[.int .i64 m1,.int .i64 m2]
 |8,v,_=>v 8=.bool mb
 |9,v,w=>∃g cs,v 9=.pointer (some ⟨g,0,none⟩)/\wa.heap.size<=g/\w.heap[g]?=some (Obj.cells cs 25)/\cs.size=2
 |10,v,w=>∃g,v 9=.pointer (some ⟨g,0,none⟩)/\wa.heap.size<=g/\w.heap[g]?=some (Obj.cells #[.int .i64 m1,.int .i64 m2] 25)
 |11,v,_=>v 11=.bool mb
 |_,_,_=>True
theorem Eh {wa:World} {vA:Value} {k bb bo:Nat} {p1 p2 c1 c2 m1 m2:Int} {mb:Bool}:∀(kQ mQ:Nat) (xQ:Value) (v:Nat->Value) (w:World),kQ≠mQ->(kQ=10->mQ≠9)->QN wa vA k bb bo p1 p2 c1 c2 m1 m2 mb kQ v w->QN wa vA k bb bo p1 p2 c1 c2 m1 m2 mb kQ (updV v mQ xQ) w
 |0,m,x,v,_,hk,_,h=>(show updV v m x 0=v 0 from if_neg hk).trans h
 |1,m,x,v,_,hk,_,h=>(show updV v m x 1=v 1 from if_neg hk).trans h
 |2,m,x,v,_,hk,_,h=>(show updV v m x 2=v 2 from if_neg hk).trans h
 |3,m,x,v,_,hk,_,h=>(show updV v m x 3=v 3 from if_neg hk).trans h
 |4,m,x,v,_,hk,_,h=>(show updV v m x 4=v 4 from if_neg hk).trans h
 |5,m,x,v,_,hk,_,h=>(show updV v m x 5=v 5 from if_neg hk).trans h
 |6,m,x,v,_,hk,_,h=>(show updV v m x 6=v 6 from if_neg hk).trans h
 |7,m,x,v,_,hk,_,h=>(show updV v m x 7=v 7 from if_neg hk).trans h
 |8,m,x,v,_,hk,_,h=>(show updV v m x 8=v 8 from if_neg hk).trans h
 |9,m,x,v,_,hk,_,⟨g,cs,h,h2⟩=>⟨g,cs,(show updV v m x 9=v 9 from if_neg hk).trans h,h2⟩
 |10,m,x,v,_,_,hd,⟨g,h,h2⟩=>⟨g,(show updV v m x 9=v 9 from if_neg (Ne.symm (hd rfl))).trans h,h2⟩
 |11,m,x,v,_,hk,_,h=>(show updV v m x 11=v 11 from if_neg hk).trans h
 |_+12,_,_,_,_,_,_,_=>trivial
theorem vY {wa:World} {vA:Value} {k bb bo:Nat} {p1 p2 c1 c2 m1 m2:Int} {mb:Bool} {w1 w2:World} (hb:Below w1.heap.size w1 w2):∀kQ v,QN wa vA k bb bo p1 p2 c1 c2 m1 m2 mb kQ v w1->QN wa vA k bb bo p1 p2 c1 c2 m1 m2 mb kQ v w2
 |0,_,h=>h
 |1,_,h=>h
 |2,_,h=>h
 |3,_,h=>h
 |4,_,h=>h
 |5,_,h=>h
 |6,_,h=>h
 |7,_,h=>h
 |8,_,h=>h
 |9,_,⟨g,cs,h1,h2,h3,h4⟩=>⟨g,cs,h1,h2,(hb.block _ (zw h3)).trans h3,h4⟩
 |10,_,⟨g,h1,h2,h3⟩=>⟨g,h1,h2,(hb.block _ (zw h3)).trans h3⟩
 |11,_,h=>h
 |_+12,_,_=>trivial
theorem Xl {wa:World} {vA:Value} {k bb bo:Nat} {p1 p2 c1 c2 m1 m2:Int} {mb:Bool} {w1 w2:World} {v:Nat->Value} {g:Nat} (e:v 9=.pointer (some ⟨g,0,none⟩)) (hg:wa.heap.size<=g) (h2:w2.heap[g]?=some (Obj.cells #[.int .i64 m1,.int .i64 m2] 25)):∀kQ,QN wa vA k bb bo p1 p2 c1 c2 m1 m2 mb kQ v w1->QN wa vA k bb bo p1 p2 c1 c2 m1 m2 mb kQ v w2
 |0,h=>h
 |1,h=>h
 |2,h=>h
 |3,h=>h
 |4,h=>h
 |5,h=>h
 |6,h=>h
 |7,h=>h
 |8,h=>h
 |9,_=>⟨g,_,e,hg,h2,rfl⟩
 |10,_=>⟨g,e,hg,h2⟩
 |11,h=>h
 |_+12,_=>trivial
theorem intersect_calls' (f t f2 t2:Int) (w:World):Calls Tryz.prog 30 #[.agg #[.int .i64 f,.int .i64 t],.agg #[.int .i64 f2,.int .i64 t2]] w fun e w'=>e=.returned (.tuple #[.agg #[.int .i64 (if yY f t f2 t2=true then ((max f f2,min t t2):Int×Int) else (0,0)).1,.int .i64 (if yY f t f2 t2=true then ((max f f2,min t t2):Int×Int) else (0,0)).2],.bool (yY f t f2 t2)])/\Below w.heap.size w w':=by
 have h:=YS f t f2 t2 w;unfold ko at h;cases hm:yY f t f2 t2 with
 |false=>rw[hm]at h;exact h
 |true=>rw[hm]at h;exact h
def FiTo (o:Option (Int×Int)) (w:World) (e:Ending) (w':World):Prop:=∃q:Int×Int,e=.returned (.tuple #[.agg #[.int .i64 q.1,.int .i64 q.2],.bool o.isSome])/\(o=some q\/(o=none/\q=(0,0)))/\Below w.heap.size w w'
theorem Xi (v:Value) (A:List (Int×Int)) (c:Int×Int) (w:World) (hA:yf w v A):
 Calls Tryz.prog 98 #[v,.agg #[.int .i64 c.1,.int .i64 c.2]] w (FiTo (ju A c) w):=by
 obtain⟨W,hW,r0,r1,hw0,hz0⟩:=yL w (Obj.cells #[.int .i64 c.1,.int .i64 c.2] 25) (Obj.cells #[.int .i64 0,.int .i64 0] 25);have HA:=zb (hA.below hw0);have HW:=zb hW;have Hw0:=zb hw0;have R0:=zb r0;have R1:=zb r1;obtain⟨aA,cA,rfl,hlc,hm⟩:=ul hA;unfold maxLen at hm;clear hW r0 r1 hw0 hA;go_enter Tryz.func98,Tryz.ntmps98;go_upto_region 1 with(fail);rw[<-HW.out];go_wp2_with fail;go_loopw [6] (fun i wr=>∃k:Nat,k<=A.length/\i=.int .i64 k/\(A.take k).any (fun p=>yY p.1 p.2 c.1 c.2)=false/\Below W.heap.size W wr) (fun i _=>A.length-(intOf i).toNat);case atStart=>exact⟨0,Nat.zero_le _,rfl,rfl,Below.refl _ _⟩
 case round=>
  obtain⟨wo,rfl⟩:∃wo:World,wo=wr:=⟨_,rfl⟩;obtain⟨k,hk,rfl,hn,hb⟩:=hrel;have Hn:=zb hn;have Hb:=zb hb;by_cases hlt:k<A.length
  · have hk1:(k:Int)<(A.length:Int):=by omega
    have hk0:(0:Int)<=(k:Int):=Int.natCast_nonneg _;obtain⟨a3,c3,e3,-,-,hx⟩:=HA.out.below hb;cases e3;obtain⟨bb,o,rfl,hB,hx⟩:=hx (by rintro rfl;cases hlt);obtain⟨x0,x1⟩:=hx k hlt;have HH:=zb (fun h2=>QH (c:=c) hlt Hn.out h2);have HT:=zb (fun h2=>qF (p:=fun p:Int×Int=>yY p.1 p.2 c.1 c.2) hlt Hn.out h2);clear hx hn;generalize A[k]=p at *;have hz1:=Hb.out.size;have HAw:=zb (show ∀Y,Below wo.heap.size wo Y->Y.cell? ⟨bb,o+k*2,none⟩=some (.int .i64 p.1)/\Y.cell? ⟨bb,o+k*2+1,none⟩=some (.int .i64 p.2)/\Y.cell? ⟨w.heap.size,0,none⟩=some (.int .i64 c.1)/\Y.cell? ⟨w.heap.size,1,none⟩=some (.int .i64 c.2)from fun Y hY=>by
     have q:=(hY.block w.heap.size (by omega)).trans ((hb.block w.heap.size (by omega)).trans R0.out);exact⟨(hY.cell (p:=⟨bb,_,none⟩) hB).trans x0,(hY.cell (p:=⟨bb,_,none⟩) hB).trans x1,cell_of_row Y _ 0 _ _ _ q,cell_of_row Y _ 1 _ _ _ q⟩);have HI:=zb (fun Y=>intersect_calls' p.1 p.2 c.1 c.2 Y);obtain⟨m,hm0⟩:∃m:Int×Int,m=if yY p.1 p.2 c.1 c.2=true then (max p.1 c.1,min p.2 c.2) else (0,0):=⟨_,rfl⟩
    have HM:=zb hm0;rw[<-hm0]at HI;clear hm0 hb x0 x1;obtain⟨mb,hmb⟩:∃mb,mb=yY p.1 p.2 c.1 c.2:=⟨_,rfl⟩;rw[<-hmb]at HI HH HT HM;clear hmb;go_upto_region 4 with(fail);refine ux (fun w'=>Below wo.heap.size wo w') (QN wo (.slice (some ⟨bb,o,none⟩) A.length cA) k bb (o+k*2) p.1 p.2 c.1 c.2 m.1 m.2 mb) (by kernel_rfl) (by kernel_rfl) ?_ (Below.refl _ _).drew ?_ ?_
    · intro k1 i1 x v w' hki hd h
      refine Eh k1 i1 x v w' hki (fun e1 e2=>?_) h;subst e1;subst e2;exact absurd hd (ne_false_of_eq_true (by kernel_rfl))
    · generalize hfr:(fun v:Nat->Value=>_)=fr
      simp only[List.map_cons,List.map_nil,zB,List.setIfInBounds_toArray,List.set_cons_succ,List.set_cons_zero,Nat.zero_add,Nat.reduceAdd]at hfr;simp only[jV];refine⟨?_,?_,?_,?_,?_,?_,?_,?_,?_,?_,?_,?_,trivial⟩;iterate 2
       · intro v w5 hC hd K hK
         rw[<-hfr]at hK⊢;go_simp;exact hK _ _ hC (fun j1=>vY (Below.refl _ _) j1 _) rfl
      · intro v w5 hC hd K hK
        obtain⟨(e0:v 0=_),(e1:v 1=_),-⟩:=hd;rw[<-hfr]at hK⊢;simp only[e0,e1]at hK⊢;go_simp;exact hK _ _ hC (fun j1=>vY (Below.refl _ _) j1 _) rfl
      · intro v w5 hC hd K hK
        obtain⟨(e2:v 2=_),-⟩:=hd;obtain⟨p0,p1,p2,p3⟩:=HAw.out w5 hC;rw[<-hfr]at hK⊢;simp only[e2]at hK⊢;go_simp;exact hK _ _ hC (fun j1=>vY (Below.refl _ _) j1 _) rfl
      · intro v w5 hC hd K hK
        obtain⟨p0,p1,p2,p3⟩:=HAw.out w5 hC;rw[<-hfr]at hK⊢;go_simp;exact hK _ _ hC (fun j1=>vY (Below.refl _ _) j1 _) rfl
      · intro v w5 hC hd K hK
        obtain⟨(e3:v 3=_),(e4:v 4=_),-⟩:=hd;rw[<-hfr]at hK⊢;simp only[e3,e4]at hK⊢;go_simp;refine(HI.out w5).mono ?_;rintro e w6 ⟨rfl,hb4⟩;exact hK _ _ (hC.trans (hb4.mono hC.size)) (fun j1=>vY hb4 j1 _) rfl
      · intro v w5 hC hd K hK
        obtain⟨(e5:v 5=_),-⟩:=hd;rw[<-hfr]at hK⊢;simp only[e5]at hK⊢;go_simp;exact hK _ _ hC (fun j1=>vY (Below.refl _ _) j1 _) rfl
      iterate 2
       · intro v w5 hC hd K hK
         obtain⟨(e6:v 6=_),-⟩:=hd;rw[<-hfr]at hK⊢;simp only[e6]at hK⊢;go_simp;exact hK _ _ hC (fun j1=>vY (Below.refl _ _) j1 _) rfl
      · intro v w5 hC hd K hK
        rw[<-hfr]at hK⊢;go_simp;exact hK _ _ (hC.alloc hC.size _) (fun j1=>vY ((Below.refl _ _).alloc (Nat.le_refl _) _) j1 _) ⟨_,_,rfl,hC.size,heap_alloc_new _ _,rfl⟩
      · intro v w5 hC hd K hK
        obtain⟨f9,f7,-⟩:=hd;have e7:v 7=.agg #[.int .i64 m.1,.int .i64 m.2]:=f7;obtain⟨g,cs,ea,hg,hrow,hcs⟩:∃g cs,v 9=.pointer (some ⟨g,0,none⟩)/\wo.heap.size<=g/\w5.heap[g]?=some (Obj.cells cs 25)/\cs.size=2:=f9;refine wp_store_row _ _ _ rfl g #[.int .i64 m.1,.int .i64 m.2] (by rw[<-hfr];exact ea) (by rw[<-hfr];exact e7) 25 cs hrow (by kernel_rfl) hcs (by simp[Value.oneCell']) ?_;have hn:=setRow_heap w5 g cs #[.int .i64 m.1,.int .i64 m.2] _ _ hrow;exact hK undef _ (zk hC hg _) (Xl ea hg hn) ⟨g,ea,hg,hn⟩
      intro v w5 hC hd K hK;obtain⟨(e8:v 8=_),-⟩:=hd;rw[<-hfr]at hK⊢;simp only[e8]at hK⊢;go_simp;exact hK _ _ hC (fun j1=>vY (Below.refl _ _) j1 _) rfl
    intro v w5 hC hall;obtain⟨g,e9,hg,hrow⟩:∃g,v 9=.pointer (some ⟨g,0,none⟩)/\wo.heap.size<=g/\w5.heap[g]?=some (Obj.cells #[.int .i64 m.1,.int .i64 m.2] 25):=hall 10 (by decide);have e11:v 11=.bool mb:=hall 11 (by decide);have Hb5:=zb (Hb.out.trans (hC.mono Hb.out.size));have g0:=cell_of_row w5 _ 0 _ _ _ hrow;have g1:=cell_of_row w5 _ 1 _ _ _ hrow;have R15:=zb ((Hb5.out.block _ hz0).trans R1.out);simp only[List.map_cons,List.map_nil,zB,List.setIfInBounds_toArray,List.set_cons_succ,List.set_cons_zero,Nat.zero_add,Nat.reduceAdd];simp only[e9,e11];generalize v 0=y0,v 1=y1,v 2=y2,v 3=y3,v 4=y4,v 5=y5,v 6=y6,v 7=y7,v 8=y8,v 10=y10;clear e9 e11 hall hrow hC v HAw HI;cases mb with
    |false=>have HE:=zb (HT.out rfl);go_wp2;exact⟨⟨k+1,by omega,by go_num,HE.out,Hb5.out⟩,by simp[intOf];omega⟩
    |true=>
      have HE:=zb (HH.out rfl);have HM:=zb (show m=(max p.1 c.1,min p.2 c.2) by rw[HM.out,if_pos rfl]);have HbF:=zb (zk (Hw0.out.trans (Hb5.out.mono Hw0.out.size)) (show w.heap.size<=w.heap.size+1 by omega) #[.int .i64 m.1,.int .i64 m.2]);go_upto_region 6 with(fail);have t0:=cell_setRow_same w5 (w.heap.size+1) 0 _ #[.int .i64 m.1,.int .i64 m.2] _ _ R15.out;have t1:=cell_setRow_same w5 (w.heap.size+1) 1 _ #[.int .i64 m.1,.int .i64 m.2] _ _ R15.out;repeat (first|refine wpList_store_row rfl _ _ _ rfl (w.heap.size+1) #[.int .i64 m.1,.int .i64 m.2] rfl rfl 25 _ R15.out (by kernel_rfl) rfl (by simp[Value.oneCell']) ?_|go_step)
      refine bodyPost_ret (v:=.tuple #[.agg #[.int .i64 m.1,.int .i64 m.2],.bool true]) (by simp[results,Tryz.results98,go_sem,t0,t1]) rfl ?_;exact⟨m,by rw[HE.out];rfl,Or.inl (by rw[HE.out,HM.out]),HbF.out⟩
  have HE:=zb (QI (by omega) Hn.out);have HbF:=zb (zk (Hw0.out.trans (hb.mono Hw0.out.size)) (show w.heap.size<=w.heap.size+1 by omega) #[.int .i64 0,.int .i64 0]);have R1':=zb ((hb.block _ hz0).trans R1.out);clear hb hn;go_upto_region 7 with(fail);have t0:=cell_setRow_same wo (w.heap.size+1) 0 _ #[.int .i64 0,.int .i64 0] _ _ R1'.out;have t1:=cell_setRow_same wo (w.heap.size+1) 1 _ #[.int .i64 0,.int .i64 0] _ _ R1'.out;repeat (first|refine wpList_store_row rfl _ _ _ rfl (w.heap.size+1) #[.int .i64 0,.int .i64 0] rfl rfl 25 _ R1'.out (by kernel_rfl) rfl (by simp[Value.oneCell']) ?_|go_step)
  refine bodyPost_ret (v:=.tuple #[.agg #[.int .i64 0,.int .i64 0],.bool false]) (by simp[results,Tryz.results98,go_sem,t0,t1]) rfl ?_;exact⟨(0,0),by rw[HE.out];rfl,Or.inr ⟨HE.out,rfl⟩,HbF.out⟩
def GsTo (G:List (Bu×Int)) (w:World) (e:Ending) (w':World):Prop:=∃(a:Option Addr) (c:Nat) (X:List BuX) (ba:Option Addr) (bc:Nat) (bs:List Bd),e=.returned (.tuple #[.slice a X.length c,.slice ba bs.length bc])/\w'.ownsRow w.heap.size 60 12 (.slice a X.length c) X.length (X.flatMap zt)/\plB X=G.map (·.1)/\(∀x∈X,BuO w.heap.size w' x)/\qW w' (.slice ba bs.length bc) bs/\bs.map (·.ro)=G.map (·.2)/\Below w.heap.size w w'
theorem GsTo.none {G:List (Bu×Int)} {w w':World} (h:G=[]) (hb:Below w.heap.size w w'):GsTo G w (.returned (.tuple #[.slice none 0 0,.slice none 0 0])) w':=
 ⟨_,_,[],_,_,[],rfl,World.ownsRow_nil _ _ _ _,by rw[h];rfl,fun x hx=>(by cases hx),Gv _,by rw[h];rfl,hb⟩
theorem Jm {w:World} {o:Oper} {a:Act} {K:Act->World->Prop} {Q:Exit->Act->World->Prop} (hgd:o.guard=none) (s x:Operand)
 (ho:o.op=.call { callee:=.builtin .append,args:=#[s,x],argTypes:=#[58,58] })
 (base:Nat) (hbase:base<=w.heap.size) (av:Option Addr) (vx:Value) (X:List ByteArray) (hs:a.eval s=.slice av 0 0) (hx:a.eval x=vx) (hown:w.ownsRow base 9 1 (.slice av 0 0) 0 []) (hX:zh zm 1 w vx X) (hlen:X.length<=1000000)
 (h:∀v' w',w'.ownsRow base 9 1 v' X.length (X.flatMap zm)->Below w.heap.size w w'->K (a.put o.dst v') w'):o.wp Tryz.prog a w K Q:=
 zV (c:=zm) (sz:=1) (fun _=>rfl) (fun a u hu=>by unfold zm at hu;rw[List.mem_singleton]at hu;subst hu;rfl) 9 58 _ 16 Tryz.underlying58 Tryz.stringInfo rfl (by decide) hgd s x ho base hbase av vx X hs hx hown hX (by unfold maxLen;omega) (by omega) h
theorem Xz {w:World} {g:Nat} {cs:Array Value} {t:TypeId} {fr:Nat×Nat} (hg:w.heap[g]?=some (.cells cs t fr)) (x:BuX) (h:cs=(zt x).toArray):zh zt 12 w (.slice (some ⟨g,0,none⟩) 1 1) [x]:=Zh hg x h
def qVal (ac sb:Int) (pr:ByteArray) (j:Int) (bd:Bd) (q:Int×Int) (qa:Option Addr) (qc:Nat):Array Value:=#[.int .i64 ac,.int .i64 sb,.string pr,.int .i64 j,.int .i64 bd.kd,.slice qa bd.zs.length qc,.int .i64 q.1,.int .i64 q.2,.int .i64 bd.un,.int .i64 bd.un,.int .i64 bd.pr,.bool bd.sh]
def Nx (wa:World) (vo:Value) (bh bb:Nat) (ac sb:Int) (pr:ByteArray) (j:Int) (bd:Bd) (za:Option Addr) (zc:Nat) (q:Int×Int):Nat->Value->World->Prop
 |0,v,_=>v=vo
 |1,v,_=>v=.pointer (some ⟨bh,0,none⟩)
 |2,v,_=>v=.int .i64 ac
 |3,v,_=>v=.pointer (some ⟨bh,1,none⟩)
 |4,v,_=>v=.int .i64 sb
 |5,v,_=>v=.pointer (some ⟨bh,2,none⟩)
 |6,v,_=>v=.string pr
 |7,v,_=>v=.int .i64 j
 |8,v,_=>v=.pointer (some ⟨bb,0,none⟩)
 |9,v,_=>v=.int .i64 bd.kd
 |10,v,w=>∃g,v=.slice (some ⟨g,0,none⟩) 0 0/\w.ownsRow wa.heap.size 9 1 (.slice (some ⟨g,0,none⟩) 0 0) 0 []
 |11,v,_=>v=.pointer (some ⟨bb,1,none⟩)
 |12,v,_=>v=.slice za bd.zs.length zc
 |13,v,w=>∃qa qc,v=.slice qa bd.zs.length qc/\w.ownsRow wa.heap.size 9 1 (.slice qa bd.zs.length qc) bd.zs.length (bd.zs.flatMap zm)
 |14,v,_=>v=.agg #[.int .i64 q.1,.int .i64 q.2]
 |15,v,_=>v=.pointer (some ⟨bb,2,none⟩)
 |16,v,_=>v=.int .i64 bd.un
 |17,v,_=>v=.pointer (some ⟨bb,2,none⟩)
 |18,v,_=>v=.int .i64 bd.un
 |19,v,_=>v=.pointer (some ⟨bb,4,none⟩)
 |20,v,_=>v=.int .i64 bd.pr
 |21,v,_=>v=.pointer (some ⟨bb,5,none⟩)
 |22,v,_=>v=.bool bd.sh
 |23,v,w=>∃qa qc,v=.agg (qVal ac sb pr j bd q qa qc)/\w.ownsRow wa.heap.size 9 1 (.slice qa bd.zs.length qc) bd.zs.length (bd.zs.flatMap zm)
 |24,v,w=>∃g qa qc,v=.slice (some ⟨g,0,none⟩) 1 1/\w.heap[g]?=some (Obj.cells (qVal ac sb pr j bd q qa qc) 60)/\w.ownsRow wa.heap.size 9 1 (.slice qa bd.zs.length qc) bd.zs.length (bd.zs.flatMap zm)
 |_,_,_=>True
theorem zR {wa:World} {vo:Value} {bh bb:Nat} {ac sb:Int} {pr:ByteArray} {j:Int} {bd:Bd} {za:Option Addr} {zc:Nat} {q:Int×Int} {w1 w2:World} (hb:Below w1.heap.size w1 w2):∀kQ y,Nx wa vo bh bb ac sb pr j bd za zc q kQ y w1->Nx wa vo bh bb ac sb pr j bd za zc q kQ y w2
 |0,_,h=>h
 |1,_,h=>h
 |2,_,h=>h
 |3,_,h=>h
 |4,_,h=>h
 |5,_,h=>h
 |6,_,h=>h
 |7,_,h=>h
 |8,_,h=>h
 |9,_,h=>h
 |10,_,h=>(by obtain⟨g,h1,h2⟩:=h;exact⟨g,h1,ze h2 hb⟩)
 |11,_,h=>h
 |12,_,h=>h
 |13,_,h=>(by obtain⟨qa,qc,h1,h2⟩:=h;exact⟨qa,qc,h1,ze h2 hb⟩)
 |14,_,h=>h
 |15,_,h=>h
 |16,_,h=>h
 |17,_,h=>h
 |18,_,h=>h
 |19,_,h=>h
 |20,_,h=>h
 |21,_,h=>h
 |22,_,h=>h
 |23,_,h=>(by obtain⟨qa,qc,h1,h2⟩:=h;exact⟨qa,qc,h1,ze h2 hb⟩)
 |24,_,h=>(by obtain⟨g,qa,qc,h1,h3,h2⟩:=h;exact⟨g,qa,qc,h1,(hb.block _ (zw h3)).trans h3,ze h2 hb⟩)
 |_+25,_,_=>trivial
theorem JI (ac sb:Int) (pr:ByteArray) (pa:Option Addr) (pn pc:Nat) (vp:Value) (P:List Pd) (A:List (Int×Int)) (c:Int×Int) (w:World) (hA:yf w (.slice pa pn pc) A) (hp:qG w vp P) (hf:FewP P) (hs:pr.size<=maxLen):
 Calls Tryz.prog 61 #[vp,.agg #[.int .i64 ac,.int .i64 sb,.string pr,.slice pa pn pc],.agg #[.int .i64 c.1,.int .i64 c.2]] w (GsTo (yG P ac (sb,pr) A c) w):=by
 obtain⟨W,hW,r0,r1,hw0,hz0⟩:=yL w (Obj.cells #[.int .i64 ac,.int .i64 sb,.string pr,.slice pa pn pc] 131) (Obj.cells #[.int .i64 c.1,.int .i64 c.2] 25);have HA:=zb (Xi _ A c W (hA.below hw0));have HP:=zb (hp.below hw0);have Hs:=zb hs;have Hzs:=zb (show ∀(s:ByteArray) (t:Int),∀b∈bsOf (atL P s t),b.zs.length<=100 from fun s t b hb=>by
  cases ha:atL P s t with
  |none=>rw[ha]at hb;cases hb
  |some x=>
    rw[ha]at hb;have hx:x∈P:=by unfold atL at ha;exact(List.mem_filter.1 (List.mem_of_getLast? ha)).1
    exact(hf.2 x hx).2 b hb);have Hbl:=zb (XA hf);have Hnone:=zb (show ju A c=none->yG P ac (sb,pr) A c=[] from fun h=>by unfold yG;rw[h]);have Hsome:=zb (show ∀q,ju A c=some q->yG P ac (sb,pr) A c=qg ac (sb,pr) q (bsOf (atL P pr q.1))from fun q h=>by unfold yG;rw[h]);have HW:=zb hW;have Hw0:=zb hw0;have R0:=zb r0;have R1:=zb r1;obtain⟨pav,pcap,rfl,-,-,-⟩:=hp;have a3:=cell_of_row W _ 3 _ _ _ r0;have b0:=cell_of_row W _ 0 _ _ _ r1;have b1:=cell_of_row W _ 1 _ _ _ r1;clear hW r0 r1 hw0 hf hs hA;generalize yG P ac (sb,pr) A c=GG at *;generalize ju A c=fo at *;go_enter Tryz.func61,Tryz.ntmps61;go_upto_region 1 with(fail);rw[<-HW.out];go_wp2_with fail;refine HA.out.mono ?_;rintro e w3 ⟨q,rfl,hq,hb3⟩;have Hq:=zb hq;obtain⟨V,hV⟩:∃V,V=w3.alloc (Obj.cells #[.int .i64 q.1,.int .i64 q.2] 25):=⟨_,rfl⟩;have hbV:Below w3.heap.size w3 V:=by rw[hV];exact(Below.refl _ _).alloc (Nat.le_refl _) _
 have VN:=zb (show V.heap[w3.heap.size]?=some (Obj.cells #[.int .i64 q.1,.int .i64 q.2] 25) by rw[hV];exact heap_alloc_new _ _);have hbV2:=hb3.trans (hbV.mono hb3.size);have HbV:=zb hbV2;have V0:=zb ((hbV2.block _ (by omega)).trans R0.out);have HV:=zb hV;have hVn:w3.heap.size<V.heap.size:=(zw VN.out);clear hV hbV hbV2 hb3 hq a3 b0 b1;cases fo with
 |none=>have HE:=zb (Hnone.out rfl);dsimp only[Option.isSome];go_upto_region 2 with(fail);rw[<-HV.out];go_wp2;go_ret2;exact GsTo.none HE.out (Hw0.out.trans (HbV.out.mono Hw0.out.size))
 |some q'=>
   obtain rfl:q'=q:=by
    rcases Hq.out with h|⟨h,-⟩;· exact Option.some.inj h
    cases h
   have HG:=zb (Hsome.out _ rfl);dsimp only[Option.isSome];go_upto_region 2 with(fail);rw[<-HV.out];have v0:=cell_of_row V _ 0 _ _ _ VN.out;have v2:=cell_of_row V _ 2 _ _ _ V0.out;have HAt:=zb (GY _ P pr q'.1 V (HP.out.below HbV.out));have HzB:=zb (Hzs.out pr q'.1);have HlB:=zb (Hbl.out pr q'.1);go_wp2_with fail;refine HAt.out.mono ?_;intro e w4 hAt;obtain⟨nm,ct,fm,fe,pro,ba,bc,rfl,hbs,hbc1,hbc2,hb4⟩:=atBs hAt;have HSo:=zb (show(atL P pr q'.1).isSome=false->bsOf (atL P pr q'.1)=[] from fun h=>by
    cases ha:atL P pr q'.1 with
    |none=>rfl
    |some x=>rw[ha]at h;cases h);generalize bsOf (atL P pr q'.1)=bs at *;generalize (atL P pr q'.1).isSome=som at *;have hbl:=HlB.out;unfold maxLen at hbc2;obtain⟨T,hT⟩:∃T,T=w4.alloc (Obj.cells #[.string nm,.int .i64 fm,.int .i64 fe,.string ct,.bool pro,.slice ba bs.length bc] 72):=⟨_,rfl⟩;have hbT:Below w4.heap.size w4 T:=by rw[hT];exact(Below.refl _ _).alloc (Nat.le_refl _) _
   have TN:=zb (show T.heap[w4.heap.size]?=some (Obj.cells #[.string nm,.int .i64 fm,.int .i64 fe,.string ct,.bool pro,.slice ba bs.length bc] 72) by rw[hT];exact heap_alloc_new _ _);have hbT2:=hb4.trans (hbT.mono hb4.size);have HBs:=zb (hbs.below hbT);have T0:=zb ((hbT2.block _ (by have:=HbV.out.size;omega)).trans V0.out);have TV:=zb ((hbT2.block _ hVn).trans VN.out);have HbT:=zb (HbV.out.trans (hbT2.mono HbV.out.size));have HT:=zb hT;have htn:w4.heap.size<T.heap.size:=(zw TN.out);clear hT hbT hbT2 hb4 hbs hAt v0 v2;generalize q'=q at *;cases som with
   |false=>have HE:=zb (show GG=[] by rw[HG.out,HSo.out rfl];rfl);go_upto_region 5 with(fail);rw[<-HT.out];go_wp2;go_ret2;exact GsTo.none HE.out (Hw0.out.trans (HbT.out.mono Hw0.out.size))
   |true=>
     go_upto_region 5 with(fail);rw[<-HT.out];go_wp2_with fail;go_loopw [12,13] (fun vo i wr=>∃(k:Nat) (O:List BuX),k<=bs.length/\i=.int .i64 k/\RowKit.Hid (plB O=(qg ac (sb,pr) q (bs.take k)).map (·.1))/\O.length=k/\wr.ownsRow T.heap.size 60 12 vo O.length (O.flatMap zt)/\(∀x∈O,BuO T.heap.size wr x)/\Below T.heap.size T wr) (fun _ i _=>bs.length-(intOf i).toNat);case atStart=>exact⟨0,[],Nat.zero_le _,rfl,zb rfl,rfl,World.ownsRow_nil _ _ _ _,fun x hx=>(by cases hx),Below.refl _ _⟩
     case round=>
      obtain⟨wo,rfl⟩:∃wo:World,wo=wr:=⟨_,rfl⟩;obtain⟨j,O,hj,rfl,HO,hOl,hown,hrd,hb⟩:=hrel;obtain⟨a,cp,rfl,hc1,hc2⟩:=zf hown;unfold maxLen at hc2;have Hown:=zb hown;have Hrd:=zb hrd;have Hbo:=zb hb;have hOl1:O.length<=100:=by omega
      have HOl:=zb hOl;have TNo:=zb ((hb.block _ htn).trans TN.out);have t5:=cell_of_row wo _ 5 _ _ _ TNo.out;clear hOl hrd;by_cases hjt:j<bs.length
      · have hj1:(j:Int)<(bs.length:Int):=by omega
        have hj0:(0:Int)<=(j:Int):=Int.natCast_nonneg _;have HG1:=zb (Yr ac (sb,pr) q bs j hjt);have HZl:=zb (HzB.out _ (List.getElem_mem hjt));obtain⟨a3,c3,e3,-,-,hx⟩:=HBs.out;cases e3;obtain⟨bb2,o2,rfl,hB2,hx⟩:=hx (by rintro rfl;cases hjt);have hbd:=hx j hjt;clear hx;generalize bs[j]=bd at *;obtain⟨za,zc,z0,z1,hzs,z2,z3,z4,z5⟩:=XC hbd;have x0:=(hb.cell (p:=⟨bb2,_,none⟩) hB2).trans z0;have x1:=(hb.cell (p:=⟨bb2,_,none⟩) hB2).trans z1;have x2:=(hb.cell (p:=⟨bb2,_,none⟩) hB2).trans z2;have x3:=(hb.cell (p:=⟨bb2,_,none⟩) hB2).trans z3;have x4:=(hb.cell (p:=⟨bb2,_,none⟩) hB2).trans z4;have x5:=(hb.cell (p:=⟨bb2,_,none⟩) hB2).trans z5;have hB2:bb2<wo.heap.size:=Nat.lt_of_lt_of_le hB2 hb.size;obtain⟨X,hX⟩:∃X,X=wo.alloc (Obj.cells #[.int .i64 bd.kd,.slice za bd.zs.length zc,.int .i64 bd.un,.int .i64 bd.ro,.int .i64 bd.pr,.bool bd.sh] 76):=⟨_,rfl⟩;have HX:=zb hX;have hbX:Below wo.heap.size wo X:=by rw[hX];exact(Below.refl _ _).alloc (Nat.le_refl _) _
        have HbX:=zb hbX;have hbX2:=hb.trans (hbX.mono hb.size);have HbX2:=zb hbX2;have XN:=zb (show X.heap[wo.heap.size]?=some (Obj.cells #[.int .i64 bd.kd,.slice za bd.zs.length zc,.int .i64 bd.un,.int .i64 bd.ro,.int .i64 bd.pr,.bool bd.sh] 76) by rw[hX];exact heap_alloc_new _ _);have HAw:=zb (show ∀Y,Below X.heap.size X Y->(Y.cell? ⟨w.heap.size,0,none⟩=some (.int .i64 ac)/\Y.cell? ⟨w.heap.size,1,none⟩=some (.int .i64 sb)/\Y.cell? ⟨w.heap.size,2,none⟩=some (.string pr))/\(Y.cell? ⟨wo.heap.size,0,none⟩=some (.int .i64 bd.kd)/\Y.cell? ⟨wo.heap.size,1,none⟩=some (.slice za bd.zs.length zc)/\Y.cell? ⟨wo.heap.size,2,none⟩=some (.int .i64 bd.un)/\Y.cell? ⟨wo.heap.size,4,none⟩=some (.int .i64 bd.pr)/\Y.cell? ⟨wo.heap.size,5,none⟩=some (.bool bd.sh))/\(Y.cell? ⟨w3.heap.size,0,none⟩=some (.int .i64 q.1)/\Y.cell? ⟨w3.heap.size,1,none⟩=some (.int .i64 q.2))from fun Y hY=>by
         have hXY:=hbX2.trans (hY.mono hbX2.size);have q0:=(hXY.block w.heap.size (by have:=HbT.out.size;omega)).trans T0.out;have q1:=(hXY.block _ (zw TV.out)).trans TV.out;have q2:=(hY.block _ (zw XN.out)).trans XN.out;exact⟨⟨cell_of_row Y _ 0 _ _ _ q0,cell_of_row Y _ 1 _ _ _ q0,cell_of_row Y _ 2 _ _ _ q0⟩,⟨cell_of_row Y _ 0 _ _ _ q2,cell_of_row Y _ 1 _ _ _ q2,cell_of_row Y _ 2 _ _ _ q2,cell_of_row Y _ 4 _ _ _ q2,cell_of_row Y _ 5 _ _ _ q2⟩,cell_of_row Y _ 0 _ _ _ q1,cell_of_row Y _ 1 _ _ _ q1⟩);have HZr:=zb (show ∀Y,Below X.heap.size X Y->zh zm 1 Y (.slice za bd.zs.length zc) bd.zs from fun Y hY=>qt (hzs.below (hbX2.trans (hY.mono hbX2.size))));have Hzz:=zb (uh hzs);clear hX hbX hbX2 hb z0 z1 z2 z3 z4 z5 hzs hbd;go_upto_region 12 with(fail);rw[<-HX.out];clear x0 x1 x2 x3 x4 x5 t5;refine zN 25 (fun w'=>Below X.heap.size X w') (Nx X (.slice a O.length cp) w.heap.size wo.heap.size ac sb pr (j:Int) bd za zc q) (by kernel_rfl) (by kernel_rfl) (Below.refl _ _).drew ?_ ?_
        · generalize hfr:(fun v:Nat->Value=>_)=fr
          simp only[List.take_succ_cons,List.take_zero,List.map_cons,List.map_nil,zB,List.setIfInBounds_toArray,List.set_cons_succ,List.set_cons_zero,Nat.zero_add,Nat.reduceAdd]at hfr;simp only[List.take_succ_cons,List.take_zero,yN];refine⟨?_,?_,?_,?_,?_,?_,?_,?_,?_,?_,?_,?_,?_,?_,?_,?_,?_,?_,?_,?_,?_,?_,?_,?_,?_,trivial⟩;iterate 2
           · intro v w5 hC hd K hK
             rw[<-hfr]at hK⊢;go_simp;exact hK _ _ hC (zR (Below.refl _ _)) rfl
          · intro v w5 hC hd K hK
            obtain⟨(e1:v 1=_),-⟩:=hd;obtain⟨⟨p0,p1,p2⟩,⟨k0,k1,k2,k4,k5⟩,m0,m1⟩:=HAw.out w5 hC;rw[<-hfr]at hK⊢;simp only[e1]at hK⊢;go_simp;exact hK _ _ hC (zR (Below.refl _ _)) rfl
          · intro v w5 hC hd K hK
            rw[<-hfr]at hK⊢;go_simp;exact hK _ _ hC (zR (Below.refl _ _)) rfl
          · intro v w5 hC hd K hK
            obtain⟨(e3:v 3=_),-⟩:=hd;obtain⟨⟨p0,p1,p2⟩,⟨k0,k1,k2,k4,k5⟩,m0,m1⟩:=HAw.out w5 hC;rw[<-hfr]at hK⊢;simp only[e3]at hK⊢;go_simp;exact hK _ _ hC (zR (Below.refl _ _)) rfl
          · intro v w5 hC hd K hK
            rw[<-hfr]at hK⊢;go_simp;exact hK _ _ hC (zR (Below.refl _ _)) rfl
          · intro v w5 hC hd K hK
            obtain⟨(e5:v 5=_),-⟩:=hd;obtain⟨⟨p0,p1,p2⟩,⟨k0,k1,k2,k4,k5⟩,m0,m1⟩:=HAw.out w5 hC;rw[<-hfr]at hK⊢;simp only[e5]at hK⊢;go_simp;exact hK _ _ hC (zR (Below.refl _ _)) rfl
          iterate 2
           · intro v w5 hC hd K hK
             rw[<-hfr]at hK⊢;go_simp;exact hK _ _ hC (zR (Below.refl _ _)) rfl
          · intro v w5 hC hd K hK
            obtain⟨(e8:v 8=_),-⟩:=hd;obtain⟨⟨p0,p1,p2⟩,⟨k0,k1,k2,k4,k5⟩,m0,m1⟩:=HAw.out w5 hC;rw[<-hfr]at hK⊢;simp only[e8]at hK⊢;go_simp;exact hK _ _ hC (zR (Below.refl _ _)) rfl
          · intro v w5 hC hd K hK
            rw[<-hfr]at hK⊢;go_simp;exact hK _ _ (hC.alloc hC.size _) (zR ((Below.refl _ _).alloc (Nat.le_refl _) _)) ⟨_,rfl,zr (yx _ _) hC.size⟩
          · intro v w5 hC hd K hK
            rw[<-hfr]at hK⊢;go_simp;exact hK _ _ hC (zR (Below.refl _ _)) rfl
          · intro v w5 hC hd K hK
            obtain⟨(e11:v 11=_),-⟩:=hd;obtain⟨⟨p0,p1,p2⟩,⟨k0,k1,k2,k4,k5⟩,m0,m1⟩:=HAw.out w5 hC;rw[<-hfr]at hK⊢;simp only[e11]at hK⊢;go_simp;exact hK _ _ hC (zR (Below.refl _ _)) rfl
          · intro v w5 hC hd K hK
            obtain⟨f10,(e12:v 12=_),-⟩:=hd;obtain⟨g,e10,hg⟩:∃g,v 10=.slice (some ⟨g,0,none⟩) 0 0/\w5.ownsRow X.heap.size 9 1 (.slice (some ⟨g,0,none⟩) 0 0) 0 []:=f10;rw[<-hfr]at hK⊢;simp only[e10,e12]at hK⊢;refine Jm rfl _ _ rfl X.heap.size hC.size _ _ bd.zs rfl rfl hg (HZr.out w5 hC) (by have:=HZl.out;omega) ?_;intro v' w6 own6 hb6;obtain⟨qa,qc,rfl,-,-⟩:=zf own6;exact hK _ _ (hC.trans (hb6.mono hC.size)) (zR hb6) ⟨qa,qc,rfl,own6⟩
          · intro v w5 hC hd K hK
            obtain⟨⟨p0,p1,p2⟩,⟨k0,k1,k2,k4,k5⟩,m0,m1⟩:=HAw.out w5 hC;rw[<-hfr]at hK⊢;go_simp;exact hK _ _ hC (zR (Below.refl _ _)) rfl
          · intro v w5 hC hd K hK
            rw[<-hfr]at hK⊢;go_simp;exact hK _ _ hC (zR (Below.refl _ _)) rfl
          · intro v w5 hC hd K hK
            obtain⟨(e15:v 15=_),-⟩:=hd;obtain⟨⟨p0,p1,p2⟩,⟨k0,k1,k2,k4,k5⟩,m0,m1⟩:=HAw.out w5 hC;rw[<-hfr]at hK⊢;simp only[e15]at hK⊢;go_simp;exact hK _ _ hC (zR (Below.refl _ _)) rfl
          · intro v w5 hC hd K hK
            rw[<-hfr]at hK⊢;go_simp;exact hK _ _ hC (zR (Below.refl _ _)) rfl
          · intro v w5 hC hd K hK
            obtain⟨(e17:v 17=_),-⟩:=hd;obtain⟨⟨p0,p1,p2⟩,⟨k0,k1,k2,k4,k5⟩,m0,m1⟩:=HAw.out w5 hC;rw[<-hfr]at hK⊢;simp only[e17]at hK⊢;go_simp;exact hK _ _ hC (zR (Below.refl _ _)) rfl
          · intro v w5 hC hd K hK
            rw[<-hfr]at hK⊢;go_simp;exact hK _ _ hC (zR (Below.refl _ _)) rfl
          · intro v w5 hC hd K hK
            obtain⟨(e19:v 19=_),-⟩:=hd;obtain⟨⟨p0,p1,p2⟩,⟨k0,k1,k2,k4,k5⟩,m0,m1⟩:=HAw.out w5 hC;rw[<-hfr]at hK⊢;simp only[e19]at hK⊢;go_simp;exact hK _ _ hC (zR (Below.refl _ _)) rfl
          · intro v w5 hC hd K hK
            rw[<-hfr]at hK⊢;go_simp;exact hK _ _ hC (zR (Below.refl _ _)) rfl
          · intro v w5 hC hd K hK
            obtain⟨(e21:v 21=_),-⟩:=hd;obtain⟨⟨p0,p1,p2⟩,⟨k0,k1,k2,k4,k5⟩,m0,m1⟩:=HAw.out w5 hC;rw[<-hfr]at hK⊢;simp only[e21]at hK⊢;go_simp;exact hK _ _ hC (zR (Below.refl _ _)) rfl
          · intro v w5 hC hd K hK
            obtain⟨(e2:v 2=_),(e4:v 4=_),(e6:v 6=_),(e7:v 7=_),(e9:v 9=_),f13,(e14:v 14=_),(e16:v 16=_),(e18:v 18=_),(e20:v 20=_),(e22:v 22=_),-⟩:=hd;obtain⟨qa,qc,e13,hq⟩:∃qa qc,v 13=.slice qa bd.zs.length qc/\w5.ownsRow X.heap.size 9 1 (.slice qa bd.zs.length qc) bd.zs.length (bd.zs.flatMap zm):=f13;rw[<-hfr]at hK⊢;simp only[e2,e4,e6,e7,e9,e13,e14,e16,e18,e20,e22]at hK⊢;go_simp;exact hK _ _ hC (zR (Below.refl _ _)) ⟨qa,qc,rfl,hq⟩
          intro v w5 hC hd K hK;obtain⟨f23,-⟩:=hd;obtain⟨qa,qc,e23,hq⟩:∃qa qc,v 23=.agg (qVal ac sb pr (j:Int) bd q qa qc)/\w5.ownsRow X.heap.size 9 1 (.slice qa bd.zs.length qc) bd.zs.length (bd.zs.flatMap zm):=f23;unfold qVal at e23;rw[<-hfr]at hK⊢;simp only[e23]at hK⊢;go_simp;exact hK _ _ (hC.alloc hC.size _) (zR ((Below.refl _ _).alloc (Nat.le_refl _) _)) ⟨_,qa,qc,rfl,heap_alloc_new _ _,ze hq ((Below.refl _ _).alloc (Nat.le_refl _) _)⟩
        intro v w5 hC hall;obtain⟨g,qa,qc,e24,hg,hq⟩:∃g qa qc,v 24=.slice (some ⟨g,0,none⟩) 1 1/\w5.heap[g]?=some (Obj.cells (qVal ac sb pr (j:Int) bd q qa qc) 60)/\w5.ownsRow X.heap.size 9 1 (.slice qa bd.zs.length qc) bd.zs.length (bd.zs.flatMap zm):=hall.2;have e0:v 0=.slice a O.length cp:=hall.1.1.1.1.1.1.1.1.1.1.1.1.1.1.1.1.1.1.1.1.1.1.1.1.2;have HRX:=zb (Xz hg (⟨buOf ac (sb,pr) q (j:Int) bd,qa,bd.zs.length,qc⟩:BuX) rfl);have HNo:=zb (show BuO X.heap.size w5 ⟨buOf ac (sb,pr) q (j:Int) bd,qa,bd.zs.length,qc⟩ from⟨hq,Hzz.out,Hs.out,by show bd.zs.length*16<=_;have:=HZl.out;omega⟩);have hXW:=HbX.out.trans (hC.mono HbX.out.size);have HownU:=zb (ze Hown.out hXW);have Hrd5:=zb (show ∀x∈O,BuO T.heap.size w5 x from fun x hx=>(Hrd.out x hx).below hXW);have Hb5:=zb (Hbo.out.trans (hXW.mono Hbo.out.size));have hbs:=Hb5.out.size;simp only[List.take_succ_cons,List.take_zero,List.map_cons,List.map_nil,zB,List.setIfInBounds_toArray,List.set_cons_succ,List.set_cons_zero,Nat.zero_add,Nat.reduceAdd,List.drop_succ_cons,List.drop_zero];simp only[e0,e24];generalize v 1=y1,v 2=y2,v 3=y3,v 4=y4,v 5=y5,v 6=y6,v 7=y7,v 8=y8,v 9=y9,v 10=y10,v 11=y11,v 12=y12,v 13=y13,v 14=y14,v 15=y15,v 16=y16,v 17=y17,v 18=y18,v 19=y19,v 20=y20,v 21=y21,v 22=y22,v 23=y23;clear e0 e24 hg hq hall hC v HAw HZr hXW;refine yz rfl _ _ rfl T.heap.size hbs _ _ O [(⟨buOf ac (sb,pr) q (j:Int) bd,qa,bd.zs.length,qc⟩:BuX)] rfl rfl HownU.out HRX.out (by rw[List.length_singleton];omega) ?_;intro R hR v7 w7 own7 hg7;have Hg7:=zb hg7;have HRe:=zb (show plB R=(qg ac (sb,pr) q (bs.take (j+1))).map (·.1) by rw[hR.out,HG1.out,List.map_append,<-HO.out];unfold plB;rw[List.map_append];rfl);have HRl:=zb (show R.length=j+1 by rw[hR.out,List.length_append,HOl.out];rfl);have HR7:=zb (show ∀x∈R,BuO T.heap.size w7 x from fun x hx=>by
         rw[hR.out]at hx;rcases List.mem_append.1 hx with hx|hx;· exact(Hrd5.out x hx).growT HownU.out (by decide) Hg7.out
         rw[List.mem_singleton.1 hx];exact(HNo.out.growT HownU.out (by decide) Hg7.out).down (Nat.le_trans Hbo.out.size HbX.out.size));have Hb7:=zb (Hb5.out.grown Hg7.out hbs (fun g hg=>(zg HownU.out g hg).1));have Own7:=zb own7;clear own7 hg7 hR hbs;go_wp2;exact⟨⟨j+1,R,by omega,by go_num,HRe,HRl.out,Own7.out,HR7.out,Hb7.out⟩,by simp[intOf];omega⟩
      have HE:=zb (show plB O=GG.map (·.1) by rw[HG.out,HO.out,List.take_of_length_le (by omega)]);have HbF:=zb (Hw0.out.trans ((HbT.out.trans (Hbo.out.mono HbT.out.size)).mono Hw0.out.size));have hle:w.heap.size<=T.heap.size:=by have:=HbT.out.size;omega
      have Own5:=zb (zr Hown.out hle);have HRo:=zb (show bs.map (·.ro)=GG.map (·.2) by
       rw[HG.out];unfold qg;apply List.ext_getElem?;intro i;simp only[List.getElem?_map,List.getElem?_mapIdx,Option.map_map]
       rfl);have HB5:=zb (HBs.out.below Hbo.out);clear hown hb HG;go_upto_region 13 with(fail);refine zj (Below.refl wo.heap.size wo) (by kernel_rfl) (by kernel_rfl) ?_;have f5:=fun p:zd wo=>zd.cell (a:=⟨w4.heap.size,5,none⟩) (zw TNo.out) t5 p;repeat (go_big_quiet_step (fail))
      refine wpQuiet_nil ?_;intro wz hw';have hYa:Below wo.heap.size wo wz:=by obtain⟨pq,rfl⟩:=hw';exact pq.h
      clear hw' f5;have hrr:=fun x hx=>(((Hrd.out x hx).below hYa).down hle);go_wp2;go_ret2;exact⟨_,_,O,_,_,bs,rfl,ze Own5.out hYa,HE.out,hrr,HB5.out.below hYa,HRo.out,HbF.out.trans (hYa.mono HbF.out.size)⟩
def Zc (G:List (Bu×Int)) (B:Nat) (w:World) (y:Value):Prop:=∃(a:Option Addr) (c:Nat) (X:List BuX) (ba:Option Addr) (bc:Nat) (bs:List Bd),y=.tuple #[.slice a X.length c,.slice ba bs.length bc]/\w.ownsRow B 60 12 (.slice a X.length c) X.length (X.flatMap zt)/\plB X=G.map (·.1)/\(∀x∈X,BuO B w x)/\qW w (.slice ba bs.length bc) bs/\bs.map (·.ro)=G.map (·.2)
def YH (G:List (Bu×Int)) (B:Nat) (w:World) (y:Value):Prop:=∃(a:Option Addr) (c:Nat) (X:List BuX),y=.slice a X.length c/\w.ownsRow B 60 12 (.slice a X.length c) X.length (X.flatMap zt)/\plB X=G.map (·.1)/\(∀x∈X,BuO B w x)
def YI (G:List (Bu×Int)) (w:World) (y:Value):Prop:=∃(ba:Option Addr) (bc:Nat) (bs:List Bd),y=.slice ba bs.length bc/\qW w (.slice ba bs.length bc) bs/\bs.map (·.ro)=G.map (·.2)
theorem Zc.below {G:List (Bu×Int)} {B:Nat} {w w':World} {y:Value} (h:Zc G B w y) (hb:Below w.heap.size w w'):Zc G B w' y:=by obtain⟨a,c,X,ba,bc,bs,h1,h2,h3,h4,h5,h6⟩:=h;exact⟨a,c,X,ba,bc,bs,h1,ze h2 hb,h3,fun x hx=>(h4 x hx).below hb,h5.below hb,h6⟩
theorem YH.below {G:List (Bu×Int)} {B:Nat} {w w':World} {y:Value} (h:YH G B w y) (hb:Below w.heap.size w w'):YH G B w' y:=by obtain⟨a,c,X,h1,h2,h3,h4⟩:=h;exact⟨a,c,X,h1,ze h2 hb,h3,fun x hx=>(h4 x hx).below hb⟩
theorem YI.below {G:List (Bu×Int)} {w w':World} {y:Value} (h:YI G w y) (hb:Below w.heap.size w w'):YI G w' y:=by obtain⟨ba,bc,bs,h1,h5,h6⟩:=h;exact⟨ba,bc,bs,h1,h5.below hb,h6⟩
theorem GsTo.val {G:List (Bu×Int)} {w w':World} {e:Ending} (h:GsTo G w e w') {B:Nat} (hB:B<=w.heap.size):∃y,e=.returned y/\Zc G B w' y/\Below w.heap.size w w':=by obtain⟨a,c,X,ba,bc,bs,h1,h2,h3,h4,h5,h6,h7⟩:=h;exact⟨_,h1,⟨a,c,X,ba,bc,bs,rfl,zr h2 hB,h3,fun x hx=>(h4 x hx).down hB,h5,h6⟩,h7⟩
def xp (A:List (Int×Int)) (w:World) (y:Value):Prop:=∃(a:Option Addr) (c:Nat),y=.slice a A.length c/\yf w (.slice a A.length c) A
theorem xp.below {A:List (Int×Int)} {w w':World} {y:Value} (h:xp A w y) (hb:Below w.heap.size w w'):xp A w' y:=by obtain⟨a,c,h1,h2⟩:=h;exact⟨a,c,h1,h2.below hb⟩
def xq (ac sb:Int) (pr:ByteArray) (A:List (Int×Int)) (w:World) (y:Value):Prop:=∃(a:Option Addr) (c:Nat),y=.agg #[.int .i64 ac,.int .i64 sb,.string pr,.slice a A.length c]/\yf w (.slice a A.length c) A
theorem xq.below {ac sb:Int} {pr:ByteArray} {A:List (Int×Int)} {w w':World} {y:Value} (h:xq ac sb pr A w y) (hb:Below w.heap.size w w'):xq ac sb pr A w' y:=by obtain⟨a,c,h1,h2⟩:=h;exact⟨a,c,h1,h2.below hb⟩
def idIs (sb:Int) (pr:ByteArray) (ix f:Int) (b:Bu):Bool:=decide (b.sb=sb)&&ye b.pr pr&&decide (b.ix=ix)&&decide (b.f=f)
theorem Wq (L:List Bu) (b:Bu):decide (0<=ixOf (idIs b.sb b.pr b.ix b.f) L)=yi L b:=by
 unfold yi;show decide (0<=ixOf (fun x=>yC x b) L)=L.any (fun x=>yC x b);rcases jE (fun x=>yC x b) L with⟨h1,h2⟩|⟨k,hk,h1,h2,-⟩;· rw[h1,h2];rfl
 rw[h1,Zr (p:=fun x=>yC x b) hk h2];exact decide_eq_true (Int.natCast_nonneg _)
theorem Nk (p:Bu->Bool) (X:List BuX):ixOf p (plB X)=ixOf (fun x:BuX=>p x.b) X:=by unfold plB ixOf;rw[List.any_map,List.findIdx_map];rfl
theorem Zs (b o j:Nat):(⟨b,o,none⟩:Addr).add j=⟨b,o+j,none⟩:=by unfold Addr.add;split<;>simp_all
theorem Wh {α β:Type} (f:α->β) (p:β->Bool):∀l:List α,kT p (l.map f)=kT (fun x=>p (f x)) l
 | []=>rfl
 |x::r=>by
   unfold kT;rw[List.map_cons,List.takeWhile_cons,List.takeWhile_cons];split;· rw[List.length_cons,List.length_cons];exact congrArg (·+1) (Wh f p r)
   rfl
theorem Yh (x:BuX) (X:List BuX):plB (insT (fun y:BuX=>zK y.b x.b) x X)=insB x.b (plB X):=by unfold insB insT plB;rw[Wh];simp only[List.map_append,List.map_take,List.map_drop,List.map_cons,List.map_nil]
theorem K2 (v:Value) (X:List BuX) (sb:Int) (pr:ByteArray) (ix f un:Int) (w:World) (h:zh zt 12 w v X):
 Calls Tryz.prog 26 #[v,.agg #[.int .i64 sb,.string pr,.int .i64 ix,.int .i64 f,.int .i64 un]] w fun e w'=>e=.returned (.int .i64 (ixOf (idIs sb pr ix f) (plB X)))/\Below w.heap.size w w':=by
 rw[Nk];obtain⟨W,hW⟩:∃W,W=w.alloc (Obj.cells #[.int .i64 sb,.string pr,.int .i64 ix,.int .i64 f,.int .i64 un] 63):=⟨_,rfl⟩;have hw0:Below w.heap.size w W:=by rw[hW];exact(Below.refl _ _).alloc (Nat.le_refl _) _
 have R0:=zb (show W.heap[w.heap.size]?=some (Obj.cells #[.int .i64 sb,.string pr,.int .i64 ix,.int .i64 f,.int .i64 un] 63) by rw[hW];exact heap_alloc_new _ _);have hwn:w.heap.size<W.heap.size:=(zw R0.out);have HA:=zb (h.below hw0);have Hw0:=zb hw0;have HW:=zb hW;obtain⟨av,cap,rfl,hlc,hcm⟩:=zu h;unfold maxLen at hcm;clear hW hw0 h;have HI:=zb (show ∀x:BuX,idIs sb pr ix f x.b=(decide (x.b.sb=sb)&&ye x.b.pr pr&&decide (x.b.ix=ix)&&decide (x.b.f=f))from fun x=>rfl);go_enter Tryz.func26,Tryz.ntmps26;go_upto_region 1 with(fail);rw[<-HW.out];go_wp2_with fail;go_loopw [5] (fun i wr=>∃k:Nat,k<=X.length/\i=.int .i64 k/\(X.take k).any (fun x:BuX=>idIs sb pr ix f x.b)=false/\Below W.heap.size W wr) (fun i _=>X.length-(intOf i).toNat);case atStart=>exact⟨0,Nat.zero_le _,rfl,rfl,Below.refl _ _⟩
 case round=>
  obtain⟨wo,rfl⟩:∃wo:World,wo=wr:=⟨_,rfl⟩;obtain⟨k,hk,rfl,hn,hb⟩:=hrel;have Hn:=zb hn;have Hb:=zb hb;by_cases hlt:k<X.length
  · have hk1:(k:Int)<(X.length:Int):=by omega
    have hk0:(0:Int)<=(k:Int):=Int.natCast_nonneg _;obtain⟨a3,c3,e3,-,-,hx⟩:=HA.out.below hb;cases e3;obtain⟨bb,o,rfl,hB,hx⟩:=hx (by rintro rfl;cases hlt);have hx:=hx k hlt;obtain⟨x0,x1,x2,x3,x4,x5,x6,x7,x8,x9,x10,x11⟩:=bu12 hx;have HH:=zb (fun h2=>uO (p:=fun x:BuX=>idIs sb pr ix f x.b) hlt Hn.out h2);have HT:=zb (fun h2=>qF (p:=fun x:BuX=>idIs sb pr ix f x.b) hlt Hn.out h2);clear hx hn;generalize X[k]=x at *;have HIx:=zb (HI.out x);obtain⟨Y,hY⟩:∃Y,Y=wo.alloc (Obj.cells #[.int .i64 x.b.ac,.int .i64 x.b.sb,.string x.b.pr,.int .i64 x.b.ix,.int .i64 x.b.kd,.slice x.za x.zn x.zc,.int .i64 x.b.f,.int .i64 x.b.t,.int .i64 x.b.un,.int .i64 x.b.lf,.int .i64 x.b.pt,.bool x.b.sh] 60):=⟨_,rfl⟩;have YN:=zb (show Y.heap[wo.heap.size]?=some (Obj.cells #[.int .i64 x.b.ac,.int .i64 x.b.sb,.string x.b.pr,.int .i64 x.b.ix,.int .i64 x.b.kd,.slice x.za x.zn x.zc,.int .i64 x.b.f,.int .i64 x.b.t,.int .i64 x.b.un,.int .i64 x.b.lf,.int .i64 x.b.pt,.bool x.b.sh] 60) by rw[hY];exact heap_alloc_new _ _);have hbY:Below W.heap.size W Y:=by rw[hY];exact hb.alloc hb.size _
    have HbY:=zb hbY;have q0:=(hbY.block _ hwn).trans R0.out;have HY:=zb hY;clear hY hb hbY;have tQ:=fun j=>cell_of_row Y _ j _ _ _ q0;have s0:=tQ 0;have s1:=tQ 1;have s2:=tQ 2;have s3:=tQ 3;clear tQ q0;go_upto_region 5 with(fail);rw[<-HY.out];clear x0 x1 x2 x3 x4 x5 x6 x7 x8 x9 x10 x11;have tQ:=fun j=>cell_of_row Y _ j _ _ _ YN.out;have y1:=tQ 1;have y2:=tQ 2;have y3:=tQ 3;have y6:=tQ 6;clear tQ;by_cases h0:x.b.sb=sb
    · have k0:(x.b.sb==sb)=true:=beq_iff_eq.2 h0
      by_cases h1:ye x.b.pr pr=true
      · have k1:(x.b.pr.toList==pr.toList)=true:=h1
        by_cases h2:x.b.ix=ix
        · have k2:(x.b.ix==ix)=true:=beq_iff_eq.2 h2
          by_cases h3:x.b.f=f
          · have k3:(x.b.f==f)=true:=beq_iff_eq.2 h3
            have HE:=zb (HH.out (by rw[HIx.out];simp[h0,h1,h2,h3]));clear HH HT HI HIx h0 h1 h2 h3;go_wp2;go_ret;exact⟨zT HE.out.symm,Hw0.out.trans (HbY.out.mono Hw0.out.size)⟩
          have k3:(x.b.f==f)=false:=beq_eq_false_iff_ne.2 h3;have HE:=zb (HT.out (by rw[HIx.out];simp[h3]));clear HH HT HI HIx h0 h1 h2 h3;go_wp2;exact⟨⟨k+1,by omega,by go_num,HE.out,HbY.out⟩,by simp[intOf];omega⟩
        have k2:(x.b.ix==ix)=false:=beq_eq_false_iff_ne.2 h2;have HE:=zb (HT.out (by rw[HIx.out];simp[h2]));clear HH HT HI HIx h0 h1 h2;go_wp2;exact⟨⟨k+1,by omega,by go_num,HE.out,HbY.out⟩,by simp[intOf];omega⟩
      have h1:ye x.b.pr pr=false:=by simpa using h1
      have k1:(x.b.pr.toList==pr.toList)=false:=h1;have HE:=zb (HT.out (by rw[HIx.out];simp[h1]));clear HH HT HI HIx h0 h1;go_wp2;exact⟨⟨k+1,by omega,by go_num,HE.out,HbY.out⟩,by simp[intOf];omega⟩
    have k0:(x.b.sb==sb)=false:=beq_eq_false_iff_ne.2 h0;have HE:=zb (HT.out (by rw[HIx.out];simp[h0]));clear HH HT HI HIx h0;go_wp2;exact⟨⟨k+1,by omega,by go_num,HE.out,HbY.out⟩,by simp[intOf];omega⟩
  have HE:=zb (Yp (p:=fun x:BuX=>idIs sb pr ix f x.b) (by omega) Hn.out);go_wp2;go_ret;exact⟨zT HE.out.symm,Hw0.out.trans (hb.mono Hw0.out.size)⟩
theorem Yv (v:Value) (X:List BuX) (x:BuX) (w:World) (h:zh zt 12 w v X):
 Calls Tryz.prog 49 #[v,ym x] w fun e w'=>e=.returned (.bool (yi (plB X) x.b))/\Below w.heap.size w w':=by
 obtain⟨W,hW⟩:∃W,W=w.alloc (Obj.cells #[.int .i64 x.b.ac,.int .i64 x.b.sb,.string x.b.pr,.int .i64 x.b.ix,.int .i64 x.b.kd,.slice x.za x.zn x.zc,.int .i64 x.b.f,.int .i64 x.b.t,.int .i64 x.b.un,.int .i64 x.b.lf,.int .i64 x.b.pt,.bool x.b.sh] 60):=⟨_,rfl⟩;have hw0:Below w.heap.size w W:=by rw[hW];exact(Below.refl _ _).alloc (Nat.le_refl _) _
 have r0:W.heap[w.heap.size]?=some (Obj.cells #[.int .i64 x.b.ac,.int .i64 x.b.sb,.string x.b.pr,.int .i64 x.b.ix,.int .i64 x.b.kd,.slice x.za x.zn x.zc,.int .i64 x.b.f,.int .i64 x.b.t,.int .i64 x.b.un,.int .i64 x.b.lf,.int .i64 x.b.pt,.bool x.b.sh] 60):=by rw[hW];exact heap_alloc_new _ _
 have HF:=zb (K2 v X x.b.sb x.b.pr x.b.ix x.b.f 0 W (h.below hw0));have HE:=zb (Wq (plB X) x.b);have Hw0:=zb hw0;have HW:=zb hW;obtain⟨av,cap,rfl,hlc,hcm⟩:=zu h;generalize ixOf (idIs x.b.sb x.b.pr x.b.ix x.b.f) (plB X)=i at *;have tQ:=fun j=>cell_of_row W _ j _ _ _ r0;have x1:=tQ 1;have x2:=tQ 2;have x3:=tQ 3;have x6:=tQ 6;clear tQ;unfold ym;clear hW hw0 h hlc hcm r0;go_enter Tryz.func49,Tryz.ntmps49;go_upto_region 1 with(fail);rw[<-HW.out];go_wp2_with fail;refine HF.out.mono ?_;rintro e w2 ⟨rfl,hb2⟩;have Hb2:=zb (Hw0.out.trans (hb2.mono Hw0.out.size));clear hb2;by_cases hi:0<=i
 · have HE2:=zb (show yi (plB X) x.b=true by rw[<-HE.out];exact decide_eq_true hi)
   go_wp2;go_ret;exact⟨zo (by rw[HE2.out];try simp[hi]),Hb2.out⟩
 have HE2:=zb (show yi (plB X) x.b=false by rw[<-HE.out];exact decide_eq_false hi);go_wp2;go_ret;exact⟨zo (by rw[HE2.out];try simp[hi]),Hb2.out⟩
def WiTo (R:List BuX) (w:World) (e:Ending) (w':World):Prop:=∃(a:Option Addr) (c:Nat),e=.returned (.slice a R.length c)/\w'.ownsRow w.heap.size 60 12 (.slice a R.length c) R.length (R.flatMap zt)/\Below w.heap.size w w'
theorem WiTo.of {R Q:List BuX} {w w':World} {a:Option Addr} {c:Nat} (h:w'.ownsRow w.heap.size 60 12 (.slice a R.length c) R.length (R.flatMap zt)) (hR:R=Q) (hb:Below w.heap.size w w'):WiTo Q w (.returned (.slice a R.length c)) w':=by subst hR;exact⟨a,c,rfl,h,hb⟩
theorem UA (v:Value) (X:List BuX) (x:BuX) (w:World) (h:zh zt 12 w v X) (hl:X.length<=900000):
 Calls Tryz.prog 100 #[v,ym x] w (WiTo (insT (fun y:BuX=>zK y.b x.b) x X) w):=by
 obtain⟨W,hW⟩:∃W,W=w.alloc (Obj.cells #[.int .i64 x.b.ac,.int .i64 x.b.sb,.string x.b.pr,.int .i64 x.b.ix,.int .i64 x.b.kd,.slice x.za x.zn x.zc,.int .i64 x.b.f,.int .i64 x.b.t,.int .i64 x.b.un,.int .i64 x.b.lf,.int .i64 x.b.pt,.bool x.b.sh] 60):=⟨_,rfl⟩;have hw0:Below w.heap.size w W:=by rw[hW];exact(Below.refl _ _).alloc (Nat.le_refl _) _
 have R0:=zb (show W.heap[w.heap.size]?=some (Obj.cells #[.int .i64 x.b.ac,.int .i64 x.b.sb,.string x.b.pr,.int .i64 x.b.ix,.int .i64 x.b.kd,.slice x.za x.zn x.zc,.int .i64 x.b.f,.int .i64 x.b.t,.int .i64 x.b.un,.int .i64 x.b.lf,.int .i64 x.b.pt,.bool x.b.sh] 60) by rw[hW];exact heap_alloc_new _ _);have hwn:w.heap.size<W.heap.size:=(zw R0.out);have HA:=zb (h.below hw0);have Hw0:=zb hw0;have HW:=zb hW;have HEar:=zb (fun(y:BuX) w1=>Vo y x w1);unfold ym at HEar⊢;obtain⟨av,cap,rfl,hlc,hcm⟩:=zu h;unfold maxLen at hcm;clear hW hw0 h;go_enter Tryz.func100,Tryz.ntmps100;go_upto_region 1 with(fail);rw[<-HW.out];go_wp2_with fail;go_loopw [5] (fun i wr=>∃k:Nat,k<=X.length/\i=.int .i64 k/\RowKit.Hid (∀j (hj:j<X.length),j<k->zK (X[j]).b x.b=true)/\Below W.heap.size W wr) (fun i _=>X.length-(intOf i).toNat);case atStart=>exact⟨0,Nat.zero_le _,rfl,zb fun j hj h=>by omega,Below.refl _ _⟩
 case round=>
  obtain⟨wo,rfl⟩:∃wo:World,wo=wr:=⟨_,rfl⟩;obtain⟨k,hk,rfl,Hn,hb⟩:=hrel;have Hb:=zb hb;have hk0:(0:Int)<=(k:Int):=Int.natCast_nonneg _;have hwo:w.heap.size<wo.heap.size:=Nat.lt_of_lt_of_le hwn hb.size;have RO:=zb ((hb.block _ hwn).trans R0.out);have s0:=fun p:zd wo=>zd.cell (a:=⟨w.heap.size,0,none⟩) hwo (cell_of_row wo _ 0 _ _ _ RO.out) p;have s1:=fun p:zd wo=>zd.cell (a:=⟨w.heap.size,1,none⟩) hwo (cell_of_row wo _ 1 _ _ _ RO.out) p;have s2:=fun p:zd wo=>zd.cell (a:=⟨w.heap.size,2,none⟩) hwo (cell_of_row wo _ 2 _ _ _ RO.out) p;have s3:=fun p:zd wo=>zd.cell (a:=⟨w.heap.size,3,none⟩) hwo (cell_of_row wo _ 3 _ _ _ RO.out) p;have s4:=fun p:zd wo=>zd.cell (a:=⟨w.heap.size,4,none⟩) hwo (cell_of_row wo _ 4 _ _ _ RO.out) p;have s5:=fun p:zd wo=>zd.cell (a:=⟨w.heap.size,5,none⟩) hwo (cell_of_row wo _ 5 _ _ _ RO.out) p;have s6:=fun p:zd wo=>zd.cell (a:=⟨w.heap.size,6,none⟩) hwo (cell_of_row wo _ 6 _ _ _ RO.out) p;have s7:=fun p:zd wo=>zd.cell (a:=⟨w.heap.size,7,none⟩) hwo (cell_of_row wo _ 7 _ _ _ RO.out) p;have s8:=fun p:zd wo=>zd.cell (a:=⟨w.heap.size,8,none⟩) hwo (cell_of_row wo _ 8 _ _ _ RO.out) p;have s9:=fun p:zd wo=>zd.cell (a:=⟨w.heap.size,9,none⟩) hwo (cell_of_row wo _ 9 _ _ _ RO.out) p;have s10:=fun p:zd wo=>zd.cell (a:=⟨w.heap.size,10,none⟩) hwo (cell_of_row wo _ 10 _ _ _ RO.out) p;have s11:=fun p:zd wo=>zd.cell (a:=⟨w.heap.size,11,none⟩) hwo (cell_of_row wo _ 11 _ _ _ RO.out) p;by_cases hlt:k<X.length
  · have hk1:(k:Int)<(X.length:Int):=by omega
    obtain⟨a3,c3,e3,-,-,hx⟩:=HA.out.below hb;cases e3;obtain⟨bb,o,rfl,hB,hx⟩:=hx (by rintro rfl;cases hlt);have hx:=hx k hlt;obtain⟨qQ0,qQ1,qQ2,qQ3,qQ4,qQ5,qQ6,qQ7,qQ8,qQ9,qQ10,qQ11⟩:=bu12 hx;have x0:=fun p:zd wo=>zd.cell hB qQ0 p;have x1:=fun p:zd wo=>zd.cell hB qQ1 p;have x2:=fun p:zd wo=>zd.cell hB qQ2 p;have x3:=fun p:zd wo=>zd.cell hB qQ3 p;have x4:=fun p:zd wo=>zd.cell hB qQ4 p;have x5:=fun p:zd wo=>zd.cell hB qQ5 p;have x6:=fun p:zd wo=>zd.cell hB qQ6 p;have x7:=fun p:zd wo=>zd.cell hB qQ7 p;have x8:=fun p:zd wo=>zd.cell hB qQ8 p;have x9:=fun p:zd wo=>zd.cell hB qQ9 p;have x10:=fun p:zd wo=>zd.cell hB qQ10 p;have x11:=fun p:zd wo=>zd.cell hB qQ11 p;clear qQ0 qQ1 qQ2 qQ3 qQ4 qQ5 qQ6 qQ7 qQ8 qQ9 qQ10 qQ11;have HStep:=zb (show zK (X[k]).b x.b=true->∀j (hj:j<X.length),j<k+1->zK (X[j]).b x.b=true from fun h j hj hjk=>by
     rcases Nat.lt_or_ge j k with h1|h1;· exact Hn.out j hj h1
     obtain rfl:j=k:=by omega
     exact h);have HStop:=zb (show zK (X[k]).b x.b=false->kT (fun y:BuX=>zK y.b x.b) X=k from fun h=>Gc hlt (fun j hj=>Hn.out j (by omega) hj) h);clear hx hb;have HEa:=zb (fun w1=>HEar.out X[k] w1);generalize X[k]=y at *;cases he:zK y.b x.b with
    |true=>
      have HE:=zb (HStep.out he);rw[he]at HEa;clear he;go_upto_region 2 with(fail);refine zj (Below.refl wo.heap.size wo) (by kernel_rfl) (by kernel_rfl) ?_;repeat (go_big_quiet_step (first|(go_at_call 48;refine zy (HEa.out _) (fun e w' h=>h))))
      refine wpQuiet_nil ?_;intro wz hw';have hYa:Below wo.heap.size wo wz:=by obtain⟨pq,rfl⟩:=hw';exact pq.h
      have Hbz:=zb (Hb.out.trans (hYa.mono Hb.out.size));clear hw' hYa s0 s1 s2 s3 s4 s5 s6 s7 s8 s9 s10 s11 x0 x1 x2 x3 x4 x5 x6 x7 x8 x9 x10 x11;go_wp2;exact⟨⟨k+1,by omega,by go_num,HE,Hbz.out⟩,by simp[intOf];omega⟩
    |false=>
      have HK:=zb (HStop.out he);rw[he]at HEa;clear he;go_upto_region 2 with(fail);refine zj (Below.refl wo.heap.size wo) (by kernel_rfl) (by kernel_rfl) ?_;repeat (go_big_quiet_step (first|(go_at_call 48;refine zy (HEa.out _) (fun e w' h=>h))))
      refine wpQuiet_nil ?_;intro wz hw';have hYa:Below wo.heap.size wo wz:=by obtain⟨pq,rfl⟩:=hw';exact pq.h
      have Hbz:=zb (Hb.out.trans (hYa.mono Hb.out.size));clear s0 s1 s2 s3 s4 s5 s6 s7 s8 s9 s10 s11 x0 x1 x2 x3 x4 x5 x6 x7 x8 x9 x10 x11 HStep HStop;have BZ:=zb ((Hbz.out.block _ hwn).trans R0.out);have hwz:w.heap.size<wz.heap.size:=(zw BZ.out);have HXz:=zb (zh.below HA.out Hbz.out);clear hYa hw';go_upto_region 4 with(fail);have HTk:=zb (zO HXz.out (k) (Nat.le_of_lt hlt));have HDk:=zb (yg HXz.out (k) (Nat.le_of_lt hlt));obtain⟨TK,hTK⟩:∃TK,TK=X.take (k):=⟨_,rfl⟩;obtain⟨DK,hDK⟩:∃DK,DK=X.drop (k):=⟨_,rfl⟩;have hTl:TK.length<=X.length:=by rw[hTK,List.length_take];omega
      have hTD:TK.length+DK.length=X.length:=by rw[hTK,hDK,<-List.length_append,List.take_append_drop]
      have HRes:=zb (show TK++[x]++DK=X.take (k)++[x]++X.drop (k) by rw[hTK,hDK]);rw[<-hTK]at HTk;rw[<-hDK]at HDk;clear hTK hDK;obtain⟨Y,hY⟩:∃Y,Y=wz.alloc (Obj.cells #[] 60):=⟨_,rfl⟩;have hbY:Below wz.heap.size wz Y:=by rw[hY];exact(Below.refl _ _).alloc (Nat.le_refl _) _
      have HbY:=zb hbY;have Hown0:=zb (show Y.ownsRow wz.heap.size 60 12 (.slice (some ⟨wz.heap.size,0,none⟩) 0 0) 0 [] by rw[hY];exact yx _ _);have HYe:=zb hY;clear hY;have hbs0:=hbY.size;clear hbY;have qb:=((Below.refl _ _).block _ hwz).trans BZ.out;have tQ:=fun j=>cell_of_row wz _ j _ _ _ qb;have u0:=tQ 0;have u1:=tQ 1;have u2:=tQ 2;have u3:=tQ 3;have u4:=tQ 4;have u5:=tQ 5;have u6:=tQ 6;have u7:=tQ 7;have u8:=tQ 8;have u9:=tQ 9;have u10:=tQ 10;have u11:=tQ 11;clear tQ qb;go_wp2_with (at_builtin;rw[<-HYe.out];refine yz rfl _ _ rfl wz.heap.size hbs0 _ _ [] TK rfl rfl Hown0.out (zh.below HTk.out HbY.out) (by rw[List.length_nil,Nat.zero_add];omega) ?_);intro P5 hP5 v5 w5 own5 hg5;obtain rfl:TK=P5:=hP5.out.symm;clear hP5;have hb5:=HbY.out.grown hg5 hbs0 (fun g hg=>(zg Hown0.out g hg).1);have Hb5:=zb hb5;have Own5:=zb own5;have hbs5:=hb5.size;obtain⟨a5,c5,rfl,hc5,hm5⟩:=zf own5;clear own5 hg5 hb5 u0 u1 u2 u3 u4 u5 u6 u7 u8 u9 u10 u11;have qb:=(Hb5.out.block _ hwz).trans BZ.out;have tQ:=fun j=>cell_of_row w5 _ j _ _ _ qb;have u0:=tQ 0;have u1:=tQ 1;have u2:=tQ 2;have u3:=tQ 3;have u4:=tQ 4;have u5:=tQ 5;have u6:=tQ 6;have u7:=tQ 7;have u8:=tQ 8;have u9:=tQ 9;have u10:=tQ 10;have u11:=tQ 11;clear tQ qb;have HX2:=zb (zh.one (c:=zt) (sz:=12) w5 (x) 60 #[.int .i64 x.b.ac,.int .i64 x.b.sb,.string x.b.pr,.int .i64 x.b.ix,.int .i64 x.b.kd,.slice x.za x.zn x.zc,.int .i64 x.b.f,.int .i64 x.b.t,.int .i64 x.b.un,.int .i64 x.b.lf,.int .i64 x.b.pt,.bool x.b.sh] rfl);go_wp2_with (at_builtin;refine yz rfl _ _ rfl wz.heap.size (Nat.le_trans hbs5 (World.le_alloc _ _)) _ _ TK [x] rfl rfl (Own5.out.alloc _) HX2.out (by rw[List.length_singleton];omega) ?_);intro R6 hR6 v6 w6 own6 hg6;have HR6:=zb hR6.out;have hR6l:R6.length=TK.length+1:=by rw[hR6.out,List.length_append];rfl
      have hb6:=(Hb5.out.alloc hbs5 (Obj.cells #[.int .i64 x.b.ac,.int .i64 x.b.sb,.string x.b.pr,.int .i64 x.b.ix,.int .i64 x.b.kd,.slice x.za x.zn x.zc,.int .i64 x.b.f,.int .i64 x.b.t,.int .i64 x.b.un,.int .i64 x.b.lf,.int .i64 x.b.pt,.bool x.b.sh] 60)).grown hg6 (Nat.le_trans hbs5 (World.le_alloc _ _)) (fun g hg=>(zg Own5.out g hg).1);have Hb6:=zb hb6;have hbs6:=hb6.size;obtain⟨a6,c6,rfl,hc6,hm6⟩:=zf own6;have Own6:=zb own6;have HR6l:=zb hR6l;have hR6b:R6.length<=X.length+1:=by omega
      have hR6d:R6.length+DK.length<=X.length+1:=by omega
      clear own6 hg6 hb6 hR6 hR6l u0 u1 u2 u3 u4 u5 u6 u7 u8 u9 u10 u11;by_cases hcc:cap=k;case' pos=>
       have HDk:=zb (show zh zt 12 wz (.slice (some ⟨bb,o,none⟩) (X.length-(k)) 0) DK by
        have h:=HDk.out;rw[if_pos hcc,hcc,Nat.sub_self]at h;exact h)
      case' neg=>
       have HDk:=zb (show zh zt 12 wz (.slice (some ⟨bb,o+(k)*12,none⟩) (X.length-(k)) (cap-(k))) DK by
        have h:=HDk.out;rw[if_neg hcc,Option.map_some,Zs]at h;exact h)
      all_goals
       have qb:=(Hb6.out.block _ hwz).trans BZ.out;have tQ:=fun j=>cell_of_row w6 _ j _ _ _ qb;have u0:=tQ 0;have u1:=tQ 1;have u2:=tQ 2;have u3:=tQ 3;have u4:=tQ 4;have u5:=tQ 5;have u6:=tQ 6;have u7:=tQ 7;have u8:=tQ 8;have u9:=tQ 9;have u10:=tQ 10;have u11:=tQ 11;clear tQ qb;go_wp2_with (at_builtin;refine yz rfl _ _ rfl wz.heap.size hbs6 _ _ R6 DK rfl rfl Own6.out (zh.below HDk.out Hb6.out) (by omega) ?_);intro R hR7 v7 w7 own7 hg7;have Hb7:=zb (Hb6.out.grown hg7 hbs6 (fun g hg=>(zg Own6.out g hg).1));have HR:=zb (show R=X.take (k)++[x]++X.drop (k) by rw[hR7.out,HR6.out,HRes.out]);have hRl:R.length<=X.length+1:=by rw[hR7.out,List.length_append];omega
       have Own7:=zb own7;obtain⟨a7,c7,rfl,hc7,hm7⟩:=zf own7;clear own7 hg7 hR7 u0 u1 u2 u3 u4 u5 u6 u7 u8 u9 u10 u11;have HbF:=zb (Hw0.out.trans ((Hbz.out.trans (Hb7.out.mono Hbz.out.size)).mono Hw0.out.size));have HF:=zb (show R=insT (fun y:BuX=>zK y.b x.b) x X by rw[HR.out];unfold insT;rw[HK.out]);have OwnF:=zb (zr Own7.out (show w.heap.size<=wz.heap.size by have:=Hbz.out.size;have:=Hw0.out.size;omega));go_wp2;go_ret;exact WiTo.of OwnF.out HF.out HbF.out
  have hk1:¬(k:Int)<(X.length:Int):=by omega
  have HK:=zb (show kT (fun y:BuX=>zK y.b x.b) X=k from(KV (fun j hj=>Hn.out j hj (by omega))).trans (by omega));clear hb;go_upto_region 2 with(fail);refine zj (Below.refl wo.heap.size wo) (by kernel_rfl) (by kernel_rfl) ?_;repeat (go_big_quiet_step (fail))
  refine wpQuiet_nil ?_;intro wz hw';have hYa:Below wo.heap.size wo wz:=by obtain⟨pq,rfl⟩:=hw';exact pq.h
  have Hbz:=zb (Hb.out.trans (hYa.mono Hb.out.size));clear s0 s1 s2 s3 s4 s5 s6 s7 s8 s9 s10 s11;cases av with
  |none=>
    have hX0:X.length=0:=by obtain⟨a3,c3,e3,-,hm3,-⟩:=HA.out;cases e3;have:=hm3.2 rfl;omega
    obtain rfl:cap=0:=by obtain⟨a3,c3,e3,-,hm3,-⟩:=HA.out;cases e3;exact hm3.2 rfl
    obtain rfl:k=0:=by omega
    have BZ:=zb ((Hbz.out.block _ hwn).trans R0.out);have hwz:w.heap.size<wz.heap.size:=(zw BZ.out);have HXz:=zb (zh.below HA.out Hbz.out);clear hYa hw';go_upto_region 4 with(fail);have HTk:=zb (zO HXz.out (0) (Nat.zero_le _));have HDk:=zb (yg HXz.out (0) (Nat.zero_le _));obtain⟨TK,hTK⟩:∃TK,TK=X.take (0):=⟨_,rfl⟩;obtain⟨DK,hDK⟩:∃DK,DK=X.drop (0):=⟨_,rfl⟩;have hTl:TK.length<=X.length:=by rw[hTK,List.length_take];omega
    have hTD:TK.length+DK.length=X.length:=by rw[hTK,hDK,<-List.length_append,List.take_append_drop]
    have HRes:=zb (show TK++[x]++DK=X.take (0)++[x]++X.drop (0) by rw[hTK,hDK]);rw[<-hTK]at HTk;rw[<-hDK]at HDk;have HDe:=zb (show ∀(a':Option Addr) (n cp:Nat),n=0->YG a' cp->zh zt 12 wz (.slice a' n cp) DK from fun a' n cp hn hc=>by
     have e:DK=[]:=by rw[hDK];exact List.drop_eq_nil_of_le (by omega)
     rw[e,hn];exact⟨a',cp,rfl,Nat.zero_le _,hc,fun h=>absurd rfl h⟩);clear hTK hDK HDk;obtain⟨Y,hY⟩:∃Y,Y=wz.alloc (Obj.cells #[] 60):=⟨_,rfl⟩;have hbY:Below wz.heap.size wz Y:=by rw[hY];exact(Below.refl _ _).alloc (Nat.le_refl _) _
    have HbY:=zb hbY;have Hown0:=zb (show Y.ownsRow wz.heap.size 60 12 (.slice (some ⟨wz.heap.size,0,none⟩) 0 0) 0 [] by rw[hY];exact yx _ _);have HYe:=zb hY;clear hY;have hbs0:=hbY.size;clear hbY;have qb:=((Below.refl _ _).block _ hwz).trans BZ.out;have tQ:=fun j=>cell_of_row wz _ j _ _ _ qb;have u0:=tQ 0;have u1:=tQ 1;have u2:=tQ 2;have u3:=tQ 3;have u4:=tQ 4;have u5:=tQ 5;have u6:=tQ 6;have u7:=tQ 7;have u8:=tQ 8;have u9:=tQ 9;have u10:=tQ 10;have u11:=tQ 11;clear tQ qb;go_wp2_with (at_builtin;rw[<-HYe.out];refine yz rfl _ _ rfl wz.heap.size hbs0 _ _ [] TK rfl rfl Hown0.out (zh.below HTk.out HbY.out) (by rw[List.length_nil,Nat.zero_add];omega) ?_);intro P5 hP5 v5 w5 own5 hg5;obtain rfl:TK=P5:=hP5.out.symm;clear hP5;have hb5:=HbY.out.grown hg5 hbs0 (fun g hg=>(zg Hown0.out g hg).1);have Hb5:=zb hb5;have Own5:=zb own5;have hbs5:=hb5.size;obtain⟨a5,c5,rfl,hc5,hm5⟩:=zf own5;clear own5 hg5 hb5 u0 u1 u2 u3 u4 u5 u6 u7 u8 u9 u10 u11;have qb:=(Hb5.out.block _ hwz).trans BZ.out;have tQ:=fun j=>cell_of_row w5 _ j _ _ _ qb;have u0:=tQ 0;have u1:=tQ 1;have u2:=tQ 2;have u3:=tQ 3;have u4:=tQ 4;have u5:=tQ 5;have u6:=tQ 6;have u7:=tQ 7;have u8:=tQ 8;have u9:=tQ 9;have u10:=tQ 10;have u11:=tQ 11;clear tQ qb;have HX2:=zb (zh.one (c:=zt) (sz:=12) w5 (x) 60 #[.int .i64 x.b.ac,.int .i64 x.b.sb,.string x.b.pr,.int .i64 x.b.ix,.int .i64 x.b.kd,.slice x.za x.zn x.zc,.int .i64 x.b.f,.int .i64 x.b.t,.int .i64 x.b.un,.int .i64 x.b.lf,.int .i64 x.b.pt,.bool x.b.sh] rfl);go_wp2_with (at_builtin;refine yz rfl _ _ rfl wz.heap.size (Nat.le_trans hbs5 (World.le_alloc _ _)) _ _ TK [x] rfl rfl (Own5.out.alloc _) HX2.out (by rw[List.length_singleton];omega) ?_);intro R6 hR6 v6 w6 own6 hg6;have HR6:=zb hR6.out;have hR6l:R6.length=TK.length+1:=by rw[hR6.out,List.length_append];rfl
    have hb6:=(Hb5.out.alloc hbs5 (Obj.cells #[.int .i64 x.b.ac,.int .i64 x.b.sb,.string x.b.pr,.int .i64 x.b.ix,.int .i64 x.b.kd,.slice x.za x.zn x.zc,.int .i64 x.b.f,.int .i64 x.b.t,.int .i64 x.b.un,.int .i64 x.b.lf,.int .i64 x.b.pt,.bool x.b.sh] 60)).grown hg6 (Nat.le_trans hbs5 (World.le_alloc _ _)) (fun g hg=>(zg Own5.out g hg).1);have Hb6:=zb hb6;have hbs6:=hb6.size;obtain⟨a6,c6,rfl,hc6,hm6⟩:=zf own6;have Own6:=zb own6;have HR6l:=zb hR6l;have hR6b:R6.length<=X.length+1:=by omega
    have hR6d:R6.length+DK.length<=X.length+1:=by omega
    clear own6 hg6 hb6 hR6 hR6l u0 u1 u2 u3 u4 u5 u6 u7 u8 u9 u10 u11;have qb:=(Hb6.out.block _ hwz).trans BZ.out;have tQ:=fun j=>cell_of_row w6 _ j _ _ _ qb;have u0:=tQ 0;have u1:=tQ 1;have u2:=tQ 2;have u3:=tQ 3;have u4:=tQ 4;have u5:=tQ 5;have u6:=tQ 6;have u7:=tQ 7;have u8:=tQ 8;have u9:=tQ 9;have u10:=tQ 10;have u11:=tQ 11;clear tQ qb;go_wp2_with (at_builtin;refine yz rfl _ _ rfl wz.heap.size hbs6 _ _ R6 DK rfl rfl Own6.out (zh.below (HDe.out _ _ _ (by first|omega|simp|(simp;omega)) ⟨by unfold maxLen;omega,fun h=>by first|rfl|(cases h)⟩) Hb6.out) (by omega) ?_);intro R hR7 v7 w7 own7 hg7;have Hb7:=zb (Hb6.out.grown hg7 hbs6 (fun g hg=>(zg Own6.out g hg).1));have HR:=zb (show R=X.take (0)++[x]++X.drop (0) by rw[hR7.out,HR6.out,HRes.out]);have hRl:R.length<=X.length+1:=by rw[hR7.out,List.length_append];omega
    have Own7:=zb own7;obtain⟨a7,c7,rfl,hc7,hm7⟩:=zf own7;clear own7 hg7 hR7 u0 u1 u2 u3 u4 u5 u6 u7 u8 u9 u10 u11;have HbF:=zb (Hw0.out.trans ((Hbz.out.trans (Hb7.out.mono Hbz.out.size)).mono Hw0.out.size));have HF:=zb (show R=insT (fun y:BuX=>zK y.b x.b) x X by rw[HR.out];unfold insT;rw[HK.out]);have OwnF:=zb (zr Own7.out (show w.heap.size<=wz.heap.size by have:=Hbz.out.size;have:=Hw0.out.size;omega));go_wp2;go_ret;exact WiTo.of OwnF.out HF.out HbF.out
  |some ad=>
    have BZ:=zb ((Hbz.out.block _ hwn).trans R0.out);have hwz:w.heap.size<wz.heap.size:=(zw BZ.out);have HXz:=zb (zh.below HA.out Hbz.out);clear hYa hw';go_upto_region 4 with(fail);have HTk:=zb (zO HXz.out (k) hk);have HDk:=zb (yg HXz.out (k) hk);obtain⟨TK,hTK⟩:∃TK,TK=X.take (k):=⟨_,rfl⟩;obtain⟨DK,hDK⟩:∃DK,DK=X.drop (k):=⟨_,rfl⟩;have hTl:TK.length<=X.length:=by rw[hTK,List.length_take];omega
    have hTD:TK.length+DK.length=X.length:=by rw[hTK,hDK,<-List.length_append,List.take_append_drop]
    have HRes:=zb (show TK++[x]++DK=X.take (k)++[x]++X.drop (k) by rw[hTK,hDK]);rw[<-hTK]at HTk;rw[<-hDK]at HDk;have HDe:=zb (show ∀(a':Option Addr) (n cp:Nat),n=0->YG a' cp->zh zt 12 wz (.slice a' n cp) DK from fun a' n cp hn hc=>by
     have e:DK=[]:=by rw[hDK];exact List.drop_eq_nil_of_le (by omega)
     rw[e,hn];exact⟨a',cp,rfl,Nat.zero_le _,hc,fun h=>absurd rfl h⟩);clear hTK hDK HDk;obtain⟨Y,hY⟩:∃Y,Y=wz.alloc (Obj.cells #[] 60):=⟨_,rfl⟩;have hbY:Below wz.heap.size wz Y:=by rw[hY];exact(Below.refl _ _).alloc (Nat.le_refl _) _
    have HbY:=zb hbY;have Hown0:=zb (show Y.ownsRow wz.heap.size 60 12 (.slice (some ⟨wz.heap.size,0,none⟩) 0 0) 0 [] by rw[hY];exact yx _ _);have HYe:=zb hY;clear hY;have hbs0:=hbY.size;clear hbY;have qb:=((Below.refl _ _).block _ hwz).trans BZ.out;have tQ:=fun j=>cell_of_row wz _ j _ _ _ qb;have u0:=tQ 0;have u1:=tQ 1;have u2:=tQ 2;have u3:=tQ 3;have u4:=tQ 4;have u5:=tQ 5;have u6:=tQ 6;have u7:=tQ 7;have u8:=tQ 8;have u9:=tQ 9;have u10:=tQ 10;have u11:=tQ 11;clear tQ qb;go_wp2_with (at_builtin;rw[<-HYe.out];refine yz rfl _ _ rfl wz.heap.size hbs0 _ _ [] TK rfl rfl Hown0.out (zh.below HTk.out HbY.out) (by rw[List.length_nil,Nat.zero_add];omega) ?_);intro P5 hP5 v5 w5 own5 hg5;obtain rfl:TK=P5:=hP5.out.symm;clear hP5;have hb5:=HbY.out.grown hg5 hbs0 (fun g hg=>(zg Hown0.out g hg).1);have Hb5:=zb hb5;have Own5:=zb own5;have hbs5:=hb5.size;obtain⟨a5,c5,rfl,hc5,hm5⟩:=zf own5;clear own5 hg5 hb5 u0 u1 u2 u3 u4 u5 u6 u7 u8 u9 u10 u11;have qb:=(Hb5.out.block _ hwz).trans BZ.out;have tQ:=fun j=>cell_of_row w5 _ j _ _ _ qb;have u0:=tQ 0;have u1:=tQ 1;have u2:=tQ 2;have u3:=tQ 3;have u4:=tQ 4;have u5:=tQ 5;have u6:=tQ 6;have u7:=tQ 7;have u8:=tQ 8;have u9:=tQ 9;have u10:=tQ 10;have u11:=tQ 11;clear tQ qb;have HX2:=zb (zh.one (c:=zt) (sz:=12) w5 (x) 60 #[.int .i64 x.b.ac,.int .i64 x.b.sb,.string x.b.pr,.int .i64 x.b.ix,.int .i64 x.b.kd,.slice x.za x.zn x.zc,.int .i64 x.b.f,.int .i64 x.b.t,.int .i64 x.b.un,.int .i64 x.b.lf,.int .i64 x.b.pt,.bool x.b.sh] rfl);go_wp2_with (at_builtin;refine yz rfl _ _ rfl wz.heap.size (Nat.le_trans hbs5 (World.le_alloc _ _)) _ _ TK [x] rfl rfl (Own5.out.alloc _) HX2.out (by rw[List.length_singleton];omega) ?_);intro R6 hR6 v6 w6 own6 hg6;have HR6:=zb hR6.out;have hR6l:R6.length=TK.length+1:=by rw[hR6.out,List.length_append];rfl
    have hb6:=(Hb5.out.alloc hbs5 (Obj.cells #[.int .i64 x.b.ac,.int .i64 x.b.sb,.string x.b.pr,.int .i64 x.b.ix,.int .i64 x.b.kd,.slice x.za x.zn x.zc,.int .i64 x.b.f,.int .i64 x.b.t,.int .i64 x.b.un,.int .i64 x.b.lf,.int .i64 x.b.pt,.bool x.b.sh] 60)).grown hg6 (Nat.le_trans hbs5 (World.le_alloc _ _)) (fun g hg=>(zg Own5.out g hg).1);have Hb6:=zb hb6;have hbs6:=hb6.size;obtain⟨a6,c6,rfl,hc6,hm6⟩:=zf own6;have Own6:=zb own6;have HR6l:=zb hR6l;have hR6b:R6.length<=X.length+1:=by omega
    have hR6d:R6.length+DK.length<=X.length+1:=by omega
    clear own6 hg6 hb6 hR6 hR6l u0 u1 u2 u3 u4 u5 u6 u7 u8 u9 u10 u11;by_cases hcc:cap=k;all_goals
     have qb:=(Hb6.out.block _ hwz).trans BZ.out;have tQ:=fun j=>cell_of_row w6 _ j _ _ _ qb;have u0:=tQ 0;have u1:=tQ 1;have u2:=tQ 2;have u3:=tQ 3;have u4:=tQ 4;have u5:=tQ 5;have u6:=tQ 6;have u7:=tQ 7;have u8:=tQ 8;have u9:=tQ 9;have u10:=tQ 10;have u11:=tQ 11;clear tQ qb;go_wp2_with (at_builtin;refine yz rfl _ _ rfl wz.heap.size hbs6 _ _ R6 DK rfl rfl Own6.out (zh.below (HDe.out _ _ _ (by first|omega|simp|(simp;omega)) ⟨by unfold maxLen;omega,fun h=>by first|rfl|(cases h)⟩) Hb6.out) (by omega) ?_);intro R hR7 v7 w7 own7 hg7;have Hb7:=zb (Hb6.out.grown hg7 hbs6 (fun g hg=>(zg Own6.out g hg).1));have HR:=zb (show R=X.take (k)++[x]++X.drop (k) by rw[hR7.out,HR6.out,HRes.out]);have hRl:R.length<=X.length+1:=by rw[hR7.out,List.length_append];omega
     have Own7:=zb own7;obtain⟨a7,c7,rfl,hc7,hm7⟩:=zf own7;clear own7 hg7 hR7 u0 u1 u2 u3 u4 u5 u6 u7 u8 u9 u10 u11;have HbF:=zb (Hw0.out.trans ((Hbz.out.trans (Hb7.out.mono Hbz.out.size)).mono Hw0.out.size));have HF:=zb (show R=insT (fun y:BuX=>zK y.b x.b) x X by rw[HR.out];unfold insT;rw[HK.out]);have OwnF:=zb (zr Own7.out (show w.heap.size<=wz.heap.size by have:=Hbz.out.size;have:=Hw0.out.size;omega));go_wp2;go_ret;exact WiTo.of OwnF.out HF.out HbF.out
def ZD (base:Nat) (Q:List Bu) (w:World) (y:Value):Prop:=∃(a:Option Addr) (c:Nat) (R:List BuX),y=.slice a R.length c/\w.ownsRow base 60 12 (.slice a R.length c) R.length (R.flatMap zt)/\plB R=Q/\∀x∈R,BuO base w x
theorem ZD.below {base:Nat} {Q:List Bu} {w w':World} {y:Value} (h:ZD base Q w y) (hb:Below w.heap.size w w'):ZD base Q w' y:=by obtain⟨a,c,R,h1,h2,h3,h4⟩:=h;exact⟨a,c,R,h1,ze h2 hb,h3,fun x hx=>(h4 x hx).below hb⟩
def CrTo (base:Nat) (Q:List Bu) (w:World) (e:Ending) (w':World):Prop:=∃y,e=.returned y/\ZD base Q w' y/\Below w.heap.size w w'
def Kx (base:Nat) (b:Bu) (w:World) (y:Value):Prop:=∃z:BuX,y=ym z/\z.b=b/\BuO base w z
theorem Kx.below {base:Nat} {b:Bu} {w w':World} {y:Value} (h:Kx base b w y) (hb:Below w.heap.size w w'):Kx base b w' y:=by obtain⟨z,h1,h2,h3⟩:=h;exact⟨z,h1,h2,h3.below hb⟩
theorem WiTo.cr {base:Nat} {X:List BuX} {z:BuX} {w w':World} {e:Ending} (h:WiTo (insT (fun y:BuX=>zK y.b z.b) z X) w e w') (hbs:base<=w.heap.size) (hX:∀y∈X,BuO base w y) (hz:BuO base w z):CrTo base (insB z.b (plB X)) w e w':=by
 obtain⟨a,c,rfl,h1,h2⟩:=h;refine⟨_,rfl,⟨a,c,_,rfl,zr h1 hbs,Yh z X,fun y hy=>?_⟩,h2⟩;rcases jQ.1 hy with hy|rfl;· exact(hX y hy).below h2
 exact hz.below h2
theorem Yu (p:Bu->Bool) (X:List BuX):(plB X).find? p=(X.find? (fun x:BuX=>p x.b)).map (·.b):=by unfold plB;rw[List.find?_map];rfl
def NO (vo:Value) (k:Int) (bb bo base:Nat) (y x:BuX) (r:Int) (b:Bu) (Q:List Bu):Nat->Value->World->Prop
 |0,v,_=>v=vo
 |1,v,_=>v=vo
 |2,v,_=>v=.int .i64 k
 |3,v,_=>v=.pointer (some ⟨bb,bo,none⟩)
 |4,v,_=>v=ym y
 |5,v,_=>v=ym x
 |6,v,_=>v=.int .i64 r
 |7,v,w=>Kx base b w v
 |8,v,w=>ZD base Q w v
 |_,_,_=>True
theorem qR {vo:Value} {k:Int} {bb bo base:Nat} {y x:BuX} {r:Int} {b:Bu} {Q:List Bu} {w1 w2:World} (hb:Below w1.heap.size w1 w2):∀kQ yQ,NO vo k bb bo base y x r b Q kQ yQ w1->NO vo k bb bo base y x r b Q kQ yQ w2
 |0,_,h=>h
 |1,_,h=>h
 |2,_,h=>h
 |3,_,h=>h
 |4,_,h=>h
 |5,_,h=>h
 |6,_,h=>h
 |7,_,h=>Kx.below h hb
 |8,_,h=>ZD.below h hb
 |_+9,_,_=>trivial
theorem K7 (base:Nat) (v:Value) (X:List BuX) (x:BuX) (r:Int) (w:World) (hbs:base<=w.heap.size) (hown:w.ownsRow base 60 12 v X.length (X.flatMap zt)) (hX:∀y∈X,BuO base w y) (hx:BuO base w x) (hl:X.length<=900000):
 Calls Tryz.prog 62 #[v,ym x,.int .i64 r] w (CrTo base (zI (plB X) (x.b,r)) w):=by
 obtain⟨W,hW⟩:∃W,W=w.alloc (Obj.cells #[.int .i64 x.b.ac,.int .i64 x.b.sb,.string x.b.pr,.int .i64 x.b.ix,.int .i64 x.b.kd,.slice x.za x.zn x.zc,.int .i64 x.b.f,.int .i64 x.b.t,.int .i64 x.b.un,.int .i64 x.b.lf,.int .i64 x.b.pt,.bool x.b.sh] 60):=⟨_,rfl⟩;have hw0:Below w.heap.size w W:=by rw[hW];exact(Below.refl _ _).alloc (Nat.le_refl _) _
 have R0:=zb (show W.heap[w.heap.size]?=some (Obj.cells #[.int .i64 x.b.ac,.int .i64 x.b.sb,.string x.b.pr,.int .i64 x.b.ix,.int .i64 x.b.kd,.slice x.za x.zn x.zc,.int .i64 x.b.f,.int .i64 x.b.t,.int .i64 x.b.un,.int .i64 x.b.lf,.int .i64 x.b.pt,.bool x.b.sh] 60) by rw[hW];exact heap_alloc_new _ _);have hwn:w.heap.size<W.heap.size:=(zw R0.out);have HA:=zb (show zh zt 12 W v X from zh.own (fun _=>rfl) (ze hown hw0));have HOwn:=zb (ze hown hw0);have HXo:=zb (show ∀y∈X,BuO base W y from fun y hy=>(hX y hy).below hw0);have Hxo:=zb (hx.below hw0);have Hw0:=zb hw0;have HW:=zb hW;have HEx:=zb (Yv v X x W HA.out);have Hbs:=zb (Nat.le_trans hbs hw0.size);have HWi:=zb (fun(z:BuX) w1 (hb:Below W.heap.size W w1)=>UA v X z w1 (HA.out.below hb) hl);have HPr:=zb (fun(y:BuX) w1=>Vk y x w1);have HCa:=zb (fun(y:BuX) w1 (hb:Below W.heap.size W w1)=>KL y x r w1 (Hxo.out.below hb).rd);have HC:=zb (show zI (plB X) (x.b,r)=if yi (plB X) x.b=true then plB X else insB (qw (plB X) (x.b,r)) (plB X)from rfl);have HBn:=zb (show X.find? (fun y:BuX=>zQ y.b x.b)=none->qw (plB X) (x.b,r)=x.b from fun h=>by unfold qw;rw[Yu,h];rfl);have HBs:=zb (show ∀y,X.find? (fun y:BuX=>zQ y.b x.b)=some y->qw (plB X) (x.b,r)=jv y.b x.b r from fun y h=>by unfold qw;rw[Yu,h];rfl);obtain⟨av,cap,rfl,hlc,hcm⟩:=zf hown;unfold maxLen at hcm;have tQ:=fun j=>cell_of_row W _ j _ _ _ R0.out;have x0:=tQ 0;have x1:=tQ 1;have x2:=tQ 2;have x3:=tQ 3;have x4:=tQ 4;have x5:=tQ 5;have x6:=tQ 6;have x7:=tQ 7;have x8:=tQ 8;have x9:=tQ 9;have x10:=tQ 10;have x11:=tQ 11;clear tQ hW hw0 hown hX hx hbs;unfold ym at HPr HEx⊢;generalize qw (plB X) (x.b,r)=bn at *;generalize zI (plB X) (x.b,r)=cr at *;cases hex:yi (plB X) x.b with
 |true=>have HE:=zb (HC.out.trans (if_pos hex));rw[hex]at HEx;clear hex;go_enter Tryz.func62,Tryz.ntmps62;go_upto_region 1 with(fail);rw[<-HW.out];go_wp2_with fail;refine HEx.out.mono ?_;rintro e w2 ⟨rfl,hb2⟩;have Hb2:=zb hb2;clear hb2 x0 x1 x2 x3 x4 x5 x6 x7 x8 x9 x10 x11;go_wp2;go_ret;exact⟨_,rfl,⟨av,cap,X,rfl,ze HOwn.out Hb2.out,HE.out.symm,fun y hy=>(HXo.out y hy).below Hb2.out⟩,Hw0.out.trans (Hb2.out.mono Hw0.out.size)⟩
 |false=>
   have HE:=zb (HC.out.trans (if_neg (by rw[hex];decide)));rw[hex]at HEx;clear hex;go_enter Tryz.func62,Tryz.ntmps62;go_upto_region 1 with(fail);rw[<-HW.out];go_wp2_with fail;refine HEx.out.mono ?_;rintro e w2 ⟨rfl,hb2⟩;have Hb2:=zb hb2;have hw2:w.heap.size<w2.heap.size:=Nat.lt_of_lt_of_le hwn hb2.size;clear hb2 x0 x1 x2 x3 x4 x5 x6 x7 x8 x9 x10 x11;go_wp2_with fail;go_loopw [7] (fun i wr=>∃k:Nat,k<=X.length/\i=.int .i64 k/\(X.take k).any (fun y:BuX=>zQ y.b x.b)=false/\Below W.heap.size W wr) (fun i _=>X.length-(intOf i).toNat);case atStart=>exact⟨0,Nat.zero_le _,rfl,rfl,Hb2.out⟩
   case round=>
    obtain⟨wo,rfl⟩:∃wo:World,wo=wr:=⟨_,rfl⟩;obtain⟨k,hk,rfl,hn,hb⟩:=hrel;have Hn:=zb hn;have Hb:=zb hb;have hk0:(0:Int)<=(k:Int):=Int.natCast_nonneg _;have hwo:w.heap.size<wo.heap.size:=Nat.lt_of_lt_of_le hwn hb.size;have RO:=zb ((hb.block _ hwn).trans R0.out);by_cases hlt:k<X.length
    · have hk1:(k:Int)<(X.length:Int):=by omega
      obtain⟨a3,c3,e3,-,-,hx⟩:=HA.out.below hb;cases e3;obtain⟨bb,o,rfl,hB,hx⟩:=hx (by rintro rfl;cases hlt);have hx:=hx k hlt;obtain⟨qQ0,qQ1,qQ2,qQ3,qQ4,qQ5,qQ6,qQ7,qQ8,qQ9,qQ10,qQ11⟩:=bu12 hx;have x0:=fun p:zd wo=>zd.cell hB qQ0 p;have x1:=fun p:zd wo=>zd.cell hB qQ1 p;have x2:=fun p:zd wo=>zd.cell hB qQ2 p;have x3:=fun p:zd wo=>zd.cell hB qQ3 p;have x4:=fun p:zd wo=>zd.cell hB qQ4 p;have x5:=fun p:zd wo=>zd.cell hB qQ5 p;have x6:=fun p:zd wo=>zd.cell hB qQ6 p;have x7:=fun p:zd wo=>zd.cell hB qQ7 p;have x8:=fun p:zd wo=>zd.cell hB qQ8 p;have x9:=fun p:zd wo=>zd.cell hB qQ9 p;have x10:=fun p:zd wo=>zd.cell hB qQ10 p;have x11:=fun p:zd wo=>zd.cell hB qQ11 p;clear qQ0 qQ1 qQ2 qQ3 qQ4 qQ5 qQ6 qQ7 qQ8 qQ9 qQ10 qQ11;have s0:=fun p:zd wo=>zd.cell (a:=⟨w.heap.size,0,none⟩) hwo (cell_of_row wo _ 0 _ _ _ RO.out) p;have s1:=fun p:zd wo=>zd.cell (a:=⟨w.heap.size,1,none⟩) hwo (cell_of_row wo _ 1 _ _ _ RO.out) p;have s2:=fun p:zd wo=>zd.cell (a:=⟨w.heap.size,2,none⟩) hwo (cell_of_row wo _ 2 _ _ _ RO.out) p;have s3:=fun p:zd wo=>zd.cell (a:=⟨w.heap.size,3,none⟩) hwo (cell_of_row wo _ 3 _ _ _ RO.out) p;have s4:=fun p:zd wo=>zd.cell (a:=⟨w.heap.size,4,none⟩) hwo (cell_of_row wo _ 4 _ _ _ RO.out) p;have s5:=fun p:zd wo=>zd.cell (a:=⟨w.heap.size,5,none⟩) hwo (cell_of_row wo _ 5 _ _ _ RO.out) p;have s6:=fun p:zd wo=>zd.cell (a:=⟨w.heap.size,6,none⟩) hwo (cell_of_row wo _ 6 _ _ _ RO.out) p;have s7:=fun p:zd wo=>zd.cell (a:=⟨w.heap.size,7,none⟩) hwo (cell_of_row wo _ 7 _ _ _ RO.out) p;have s8:=fun p:zd wo=>zd.cell (a:=⟨w.heap.size,8,none⟩) hwo (cell_of_row wo _ 8 _ _ _ RO.out) p;have s9:=fun p:zd wo=>zd.cell (a:=⟨w.heap.size,9,none⟩) hwo (cell_of_row wo _ 9 _ _ _ RO.out) p;have s10:=fun p:zd wo=>zd.cell (a:=⟨w.heap.size,10,none⟩) hwo (cell_of_row wo _ 10 _ _ _ RO.out) p;have s11:=fun p:zd wo=>zd.cell (a:=⟨w.heap.size,11,none⟩) hwo (cell_of_row wo _ 11 _ _ _ RO.out) p;have HH:=zb (fun h2=>QJ (p:=fun y:BuX=>zQ y.b x.b) hlt Hn.out h2);have HT:=zb (fun h2=>qF (p:=fun y:BuX=>zQ y.b x.b) hlt Hn.out h2);clear hx hn hb;have HPk:=zb (fun w1=>HPr.out X[k] w1);generalize X[k]=y at *;cases hp:zQ y.b x.b with
      |false=>
        have HE2:=zb (HT.out hp);rw[hp]at HPk;clear hp;go_upto_region 6 with(fail);refine zj (Below.refl wo.heap.size wo) (by kernel_rfl) (by kernel_rfl) ?_;repeat (go_big_quiet_step (first|(go_at_call 99;refine zy (HPk.out _) (fun e w' h=>h))))
        refine wpQuiet_nil ?_;intro wz hw';have hYa:Below wo.heap.size wo wz:=by obtain⟨pq,rfl⟩:=hw';exact pq.h
        have Hbz:=zb (Hb.out.trans (hYa.mono Hb.out.size));clear hw' hYa s0 s1 s2 s3 s4 s5 s6 s7 s8 s9 s10 s11 x0 x1 x2 x3 x4 x5 x6 x7 x8 x9 x10 x11;go_wp2;exact⟨⟨k+1,by omega,by go_num,HE2.out,Hbz.out⟩,by simp[intOf];omega⟩
      |true=>
        have HBe:=zb (HBs.out _ (HH.out hp));rw[hp]at HPk;clear hp;go_upto_region 6 with(fail);refine zj (Below.refl wo.heap.size wo) (by kernel_rfl) (by kernel_rfl) ?_;repeat (go_big_quiet_step (first|(go_at_call 99;refine zy (HPk.out _) (fun e w' h=>h))))
        refine wpQuiet_nil ?_;intro wz hw';have hYa:Below wo.heap.size wo wz:=by obtain⟨pq,rfl⟩:=hw';exact pq.h
        have Hbz:=zb (Hb.out.trans (hYa.mono Hb.out.size));have hBz:bb<wz.heap.size:=Nat.lt_of_lt_of_le hB hYa.size;have hwz:w.heap.size<wz.heap.size:=Nat.lt_of_lt_of_le hwo hYa.size;have HAw:=zb (show ∀Y,Below wz.heap.size wz Y->(Y.cell? ⟨bb,o+k*12,none⟩=some (.int .i64 y.b.ac)/\Y.cell? ⟨bb,o+k*12+1,none⟩=some (.int .i64 y.b.sb)/\Y.cell? ⟨bb,o+k*12+2,none⟩=some (.string y.b.pr)/\Y.cell? ⟨bb,o+k*12+3,none⟩=some (.int .i64 y.b.ix)/\Y.cell? ⟨bb,o+k*12+4,none⟩=some (.int .i64 y.b.kd)/\Y.cell? ⟨bb,o+k*12+5,none⟩=some (.slice y.za y.zn y.zc)/\Y.cell? ⟨bb,o+k*12+6,none⟩=some (.int .i64 y.b.f)/\Y.cell? ⟨bb,o+k*12+7,none⟩=some (.int .i64 y.b.t)/\Y.cell? ⟨bb,o+k*12+8,none⟩=some (.int .i64 y.b.un)/\Y.cell? ⟨bb,o+k*12+9,none⟩=some (.int .i64 y.b.lf)/\Y.cell? ⟨bb,o+k*12+10,none⟩=some (.int .i64 y.b.pt)/\Y.cell? ⟨bb,o+k*12+11,none⟩=some (.bool y.b.sh))/\(Y.cell? ⟨w.heap.size,0,none⟩=some (.int .i64 x.b.ac)/\Y.cell? ⟨w.heap.size,1,none⟩=some (.int .i64 x.b.sb)/\Y.cell? ⟨w.heap.size,2,none⟩=some (.string x.b.pr)/\Y.cell? ⟨w.heap.size,3,none⟩=some (.int .i64 x.b.ix)/\Y.cell? ⟨w.heap.size,4,none⟩=some (.int .i64 x.b.kd)/\Y.cell? ⟨w.heap.size,5,none⟩=some (.slice x.za x.zn x.zc)/\Y.cell? ⟨w.heap.size,6,none⟩=some (.int .i64 x.b.f)/\Y.cell? ⟨w.heap.size,7,none⟩=some (.int .i64 x.b.t)/\Y.cell? ⟨w.heap.size,8,none⟩=some (.int .i64 x.b.un)/\Y.cell? ⟨w.heap.size,9,none⟩=some (.int .i64 x.b.lf)/\Y.cell? ⟨w.heap.size,10,none⟩=some (.int .i64 x.b.pt)/\Y.cell? ⟨w.heap.size,11,none⟩=some (.bool x.b.sh))from fun Y hY=>by
         have hYY:=hYa.trans (hY.mono hYa.size);exact⟨⟨x0 ⟨Y,hYY⟩,x1 ⟨Y,hYY⟩,x2 ⟨Y,hYY⟩,x3 ⟨Y,hYY⟩,x4 ⟨Y,hYY⟩,x5 ⟨Y,hYY⟩,x6 ⟨Y,hYY⟩,x7 ⟨Y,hYY⟩,x8 ⟨Y,hYY⟩,x9 ⟨Y,hYY⟩,x10 ⟨Y,hYY⟩,x11 ⟨Y,hYY⟩⟩,⟨s0 ⟨Y,hYY⟩,s1 ⟨Y,hYY⟩,s2 ⟨Y,hYY⟩,s3 ⟨Y,hYY⟩,s4 ⟨Y,hYY⟩,s5 ⟨Y,hYY⟩,s6 ⟨Y,hYY⟩,s7 ⟨Y,hYY⟩,s8 ⟨Y,hYY⟩,s9 ⟨Y,hYY⟩,s10 ⟨Y,hYY⟩,s11 ⟨Y,hYY⟩⟩⟩);clear hw' hYa s0 s1 s2 s3 s4 s5 s6 s7 s8 s9 s10 s11 x0 x1 x2 x3 x4 x5 x6 x7 x8 x9 x10 x11;go_upto_region 7 with(fail);refine zN 9 (fun w'=>Below wz.heap.size wz w') (NO (.slice (some ⟨bb,o,none⟩) X.length cap) (k:Int) bb (o+k*12) base y x r (jv y.b x.b r) (insB (jv y.b x.b r) (plB X))) (by kernel_rfl) (by kernel_rfl) (Below.refl _ _).drew ?_ ?_
        · generalize hfr:(fun v:Nat->Value=>_)=fr
          simp only[List.take_succ_cons,List.take_zero,List.map_cons,List.map_nil,zB,List.setIfInBounds_toArray,List.set_cons_succ,List.set_cons_zero,Nat.zero_add,Nat.reduceAdd]at hfr;simp only[List.take_succ_cons,List.take_zero,yN];refine⟨?_,?_,?_,?_,?_,?_,?_,?_,?_,trivial⟩;iterate 3
           · intro v w5 hC hd K hK
             rw[<-hfr]at hK⊢;go_simp;exact hK _ _ hC (qR (Below.refl _ _)) rfl
          · intro v w5 hC hd K hK
            obtain⟨(e1:v 1=_),(e2:v 2=_),-⟩:=hd;rw[<-hfr]at hK⊢;simp only[e1,e2]at hK⊢;go_simp;exact hK _ _ hC (qR (Below.refl _ _)) rfl
          · intro v w5 hC hd K hK
            obtain⟨(e3:v 3=_),-⟩:=hd;obtain⟨⟨x0,x1,x2,x3,x4,x5,x6,x7,x8,x9,x10,x11⟩,⟨s0,s1,s2,s3,s4,s5,s6,s7,s8,s9,s10,s11⟩⟩:=HAw.out w5 hC;rw[<-hfr]at hK⊢;simp only[e3]at hK⊢;go_simp;exact hK _ _ hC (qR (Below.refl _ _)) rfl
          · intro v w5 hC hd K hK
            obtain⟨⟨x0,x1,x2,x3,x4,x5,x6,x7,x8,x9,x10,x11⟩,⟨s0,s1,s2,s3,s4,s5,s6,s7,s8,s9,s10,s11⟩⟩:=HAw.out w5 hC;rw[<-hfr]at hK⊢;go_simp;exact hK _ _ hC (qR (Below.refl _ _)) rfl
          · intro v w5 hC hd K hK
            rw[<-hfr]at hK⊢;go_simp;exact hK _ _ hC (qR (Below.refl _ _)) rfl
          · intro v w5 hC hd K hK
            obtain⟨(e4:v 4=_),(e5:v 5=_),(e6:v 6=_),-⟩:=hd;have HG:=HCa.out y w5 (Hbz.out.trans (hC.mono Hbz.out.size));rw[<-hfr]at hK⊢;simp only[e4,e5,e6]at hK⊢;go_simp;refine HG.mono ?_;rintro e w6 ⟨z,rfl,hz,hzo,hb4⟩;exact hK _ _ (hC.trans (hb4.mono hC.size)) (qR hb4) ⟨z,rfl,hz,hzo.down (by have:=Hbs.out;have:=Hbz.out.size;have:=hC.size;omega)⟩
          intro v w5 hC hd K hK;obtain⟨(e0:v 0=_),f7,-⟩:=hd;obtain⟨z,e7,hz,hzo⟩:Kx base (jv y.b x.b r) w5 (v 7):=f7;have HG:=HWi.out z w5 (Hbz.out.trans (hC.mono Hbz.out.size));rw[<-hfr]at hK⊢;simp only[e0,e7]at hK⊢;go_simp;refine HG.mono ?_;intro e w6 hw;have hXW:=Hbz.out.trans (hC.mono Hbz.out.size);obtain⟨yy,rfl,hy,hb4⟩:CrTo base (insB z.b (plB X)) w5 e w6:=hw.cr (Nat.le_trans Hbs.out hXW.size) (fun u hu=>(HXo.out u hu).below hXW) hzo;rw[hz]at hy;exact hK _ _ (hC.trans (hb4.mono hC.size)) (qR hb4) hy
        intro v w5 hC hall;obtain⟨y2,e8,hy⟩:∃y2,v 8=y2/\ZD base (insB (jv y.b x.b r) (plB X)) w5 y2:=⟨_,rfl,hall.2⟩;have Hy:=zb hy;have HbF:=zb (Hw0.out.trans ((Hbz.out.trans (hC.mono Hbz.out.size)).mono Hw0.out.size));simp only[List.take_succ_cons,List.take_zero,List.map_cons,List.map_nil,zB,List.setIfInBounds_toArray,List.set_cons_succ,List.set_cons_zero,Nat.zero_add,Nat.reduceAdd,List.drop_succ_cons,List.drop_zero];simp only[e8];generalize v 0=y0,v 1=y1,v 2=y2,v 3=y3,v 4=y4,v 5=y5,v 6=y6,v 7=y7;clear e8 hy hall hC v HAw;go_wp2;go_ret;exact⟨_,rfl,by rw[HE.out,HBe.out];exact Hy.out,HbF.out⟩
    have HE2:=zb (HBn.out (QK (by omega) Hn.out));have tQ:=fun j=>cell_of_row wo _ j _ _ _ RO.out;have s0:=tQ 0;have s1:=tQ 1;have s2:=tQ 2;have s3:=tQ 3;have s4:=tQ 4;have s5:=tQ 5;have s6:=tQ 6;have s7:=tQ 7;have s8:=tQ 8;have s9:=tQ 9;have s10:=tQ 10;have s11:=tQ 11;clear tQ;have HWo:=zb (HWi.out x wo hb);have HFi:=zb (Hw0.out.trans (hb.mono Hw0.out.size));unfold ym at HWo;clear hb hn;go_wp2_with fail;refine HWo.out.mono ?_;intro e w3 hw;obtain⟨y,rfl,hy,hb3⟩:CrTo base (insB x.b (plB X)) wo e w3:=hw.cr (Nat.le_trans Hbs.out Hb.out.size) (fun y hy=>(HXo.out y hy).below Hb.out) (Hxo.out.below Hb.out);have Hy:=zb hy;have Hb3:=zb (HFi.out.trans (hb3.mono HFi.out.size));clear hw hy hb3 s0 s1 s2 s3 s4 s5 s6 s7 s8 s9 s10 s11;go_wp2;go_ret;exact⟨_,rfl,by rw[HE.out,HE2.out];exact Hy.out,Hb3.out⟩
structure HoX where
 h:Had
 pa:Option Addr
 pn:Nat
 pc:Nat
def yj (ac:Int) (x:HoX):List Value:=[.int .i64 ac,.int .i64 x.h.1,.string x.h.2,.slice x.pa x.pn x.pc]
theorem Nr (ac:Int) (x:HoX):∀u∈yj ac x,u.oneCell'=true:=by intro u hu;unfold yj at hu;simp only[List.mem_cons,List.not_mem_nil,or_false]at hu;rcases hu with rfl|rfl|rfl|rfl<;>rfl
def HoRd (l:List Ev) (w:World) (x:HoX):Prop:=yf w (.slice x.pa x.pn x.pc) (actL x.h.1 x.h.2 l)/\x.h.2.size<=maxLen
theorem HoRd.below {l:List Ev} {w w':World} {x:HoX} (h:HoRd l w x) (hb:Below w.heap.size w w'):HoRd l w' x:=⟨h.1.below hb,h.2⟩
def HoO (l:List Ev) (base:Nat) (w:World) (x:HoX):Prop:=w.ownsRow base 25 2 (.slice x.pa x.pn x.pc) (actL x.h.1 x.h.2 l).length ((actL x.h.1 x.h.2 l).flatMap zl)/\x.h.2.size<=maxLen
theorem HoO.below {l:List Ev} {base:Nat} {w w':World} {x:HoX} (h:HoO l base w x) (hb:Below w.heap.size w w'):HoO l base w' x:=⟨ze h.1 hb,h.2⟩
theorem HoO.rd {l:List Ev} {base:Nat} {w:World} {x:HoX} (h:HoO l base w x):HoRd l w x:=⟨yf.own h.1,h.2⟩
theorem HoO.growT {l:List Ev} {base base':Nat} {w w':World} {x:HoX} (h:HoO l base w x) {v:Value} {e:TypeId} {sz n:Nat} {xs:List Value} (ho:w.ownsRow base' e sz v n xs) (he:e≠25) (hg:w.grownBy w' v.ownBlock):HoO l base w' x:=
 ⟨yX h.1 hg (yo h.1 ho he),h.2⟩
def gU (l:List Ev) (ac:Int) (w:World) (e:Ending) (w':World):Prop:=∃(a:Option Addr) (c:Nat) (X:List HoX),e=.returned (.slice a X.length c)/\zh (yj ac) 4 w' (.slice a X.length c) X/\jw l ac (X.map (·.h))/\(∀x∈X,HoRd l w' x)/\X.length<=10000/\Below w.heap.size w w'
noncomputable def hldO (l:List Ev) (O:List Int) (k:Nat):List Had:=(O.take k).flatMap fun s=>(ZJ l s).map fun n=>(s,n)
theorem Kc (l:List Ev) (O:List Int) (k:Nat) (h:k<O.length):hldO l O (k+1)=hldO l O k++(ZJ l O[k]).map fun n=>(O[k],n):=by unfold hldO;rw[List.take_succ_eq_append_getElem h,List.flatMap_append,List.flatMap_singleton]
theorem Xb (l:List Ev) (O:List Int):∀k,k<=O.length->(hldO l O k).length<=k*l.length
 |0,_=>by simp[hldO]
 |k+1,h=>by
   have h1:=Xb l O k (by omega);have h2:=X8 l O[k];rw[Kc l O k h,List.length_append,List.length_map,Nat.succ_mul];omega
theorem Nu {l:List Ev} {a:Int} {O:List Int} (h:qr l a O):jw l a (hldO l O O.length):=by unfold hldO;rw[List.take_length];exact Nw h
theorem Tryz.rhoInfo:(Tryz.prog.info? 131).map (fun i=>(i.zero,i.size,i.bytes))=some (some (.agg #[.int .i64 0,.int .i64 0,.string ⟨#[]⟩,.slice none 0 0]),4,56):=by kernel_rfl
theorem WE (ac:Int) {w:World} {ops:Array Oper} {rest:List Oper} {o:Oper} {a:Act} {Q:Exit->Act->World->Prop} (hgd:o.guard=none) (s x:Operand)
 (ho:o.op=.call { callee:=.builtin .append,args:=#[s,x],argTypes:=#[125,125] })
 (base:Nat) (hbase:base<=w.heap.size) (v vx:Value) (L X:List HoX) (hs:a.eval s=v) (hx:a.eval x=vx) (hown:w.ownsRow base 131 4 v L.length (L.flatMap (yj ac))) (hX:zh (yj ac) 4 w vx X) (hlen:L.length+X.length<=1000000)
 (h:∀R:List HoX,RowKit.Hid (R=L++X)->∀v' w',w'.ownsRow base 131 4 v' R.length (R.flatMap (yj ac))->w.grownBy w' v.ownBlock->wpList Tryz.prog ops Q rest (a.put o.dst v') w'):wpList Tryz.prog ops Q (o::rest) a w:=
 yu (c:=yj ac) (sz:=4) (fun _=>rfl) (Nr ac) 131 125 _ 56 Tryz.underlying125 Tryz.rhoInfo rfl (by decide) hgd s x ho base hbase v vx L X hs hx hown hX (by unfold maxLen;omega) (by omega) h
theorem EZ {l:List Ev} {s:Int} {N:List ByteArray} (h:yT l s N):N=ZJ l s:=h.one (Zi l s)
def Y8 (ac:Int) (l:List Ev) (h:Had) (B:Nat) (w:World) (y:Value):Prop:=∃x:HoX,y=.agg #[.int .i64 ac,.int .i64 h.1,.string h.2,.slice x.pa x.pn x.pc]/\x.h=h/\HoO l B w x
theorem Y8.below {ac:Int} {l:List Ev} {h:Had} {B:Nat} {w w':World} {y:Value} (q:Y8 ac l h B w y) (hb:Below w.heap.size w w'):Y8 ac l h B w' y:=by obtain⟨x,h1,h2,h3⟩:=q;exact⟨x,h1,h2,h3.below hb⟩
def Y9 (ac:Int) (l:List Ev) (h:Had) (B:Nat) (w:World) (y:Value):Prop:=∃(g:Nat) (x:HoX),y=.slice (some ⟨g,0,none⟩) 1 1/\w.heap[g]?=some (Obj.cells #[.int .i64 ac,.int .i64 h.1,.string h.2,.slice x.pa x.pn x.pc] 131)/\x.h=h/\HoO l B w x
theorem Y9.below {ac:Int} {l:List Ev} {h:Had} {B:Nat} {w w':World} {y:Value} (q:Y9 ac l h B w y) (hb:Below w.heap.size w w'):Y9 ac l h B w' y:=by obtain⟨g,x,h1,h4,h2,h3⟩:=q;exact⟨g,x,h1,(hb.block _ (zw h4)).trans h4,h2,h3.below hb⟩
def Nt (vo ve vO vN:Value) (ac:Int) (i j:Nat) (b1 o1 b2 o2 B:Nat) (l:List Ev) (h:Had):Nat->Value->World->Prop
 |0,v,_=>v=vo
 |1,v,_=>v=.int .i64 ac
 |2,v,_=>v=vO
 |3,v,_=>v=.int .i64 i
 |4,v,_=>v=.pointer (some ⟨b1,o1,none⟩)
 |5,v,_=>v=.int .i64 h.1
 |6,v,_=>v=vN
 |7,v,_=>v=.int .i64 j
 |8,v,_=>v=.pointer (some ⟨b2,o2,none⟩)
 |9,v,_=>v=.string h.2
 |10,v,_=>v=ve
 |11,v,_=>v=vO
 |12,v,_=>v=.int .i64 i
 |13,v,_=>v=.pointer (some ⟨b1,o1,none⟩)
 |14,v,_=>v=.int .i64 h.1
 |15,v,_=>v=vN
 |16,v,_=>v=.int .i64 j
 |17,v,_=>v=.pointer (some ⟨b2,o2,none⟩)
 |18,v,_=>v=.string h.2
 |19,v,w=>∃x:HoX,v=.slice x.pa x.pn x.pc/\x.h=h/\HoO l B w x
 |20,v,w=>Y8 ac l h B w v
 |21,v,w=>Y9 ac l h B w v
 |_,_,_=>True
theorem yI {vo ve vO vN:Value} {ac:Int} {i j:Nat} {b1 o1 b2 o2 B:Nat} {l:List Ev} {h:Had} {w1 w2:World} (hb:Below w1.heap.size w1 w2):∀kQ yQ,Nt vo ve vO vN ac i j b1 o1 b2 o2 B l h kQ yQ w1->Nt vo ve vO vN ac i j b1 o1 b2 o2 B l h kQ yQ w2
 |0,_,h=>h
 |1,_,h=>h
 |2,_,h=>h
 |3,_,h=>h
 |4,_,h=>h
 |5,_,h=>h
 |6,_,h=>h
 |7,_,h=>h
 |8,_,h=>h
 |9,_,h=>h
 |10,_,h=>h
 |11,_,h=>h
 |12,_,h=>h
 |13,_,h=>h
 |14,_,h=>h
 |15,_,h=>h
 |16,_,h=>h
 |17,_,h=>h
 |18,_,h=>h
 |19,_,h=>(by obtain⟨x,h1,h2,h3⟩:=h;exact⟨x,h1,h2,h3.below hb⟩)
 |20,_,h=>Y8.below h hb
 |21,_,h=>Y9.below h hb
 |_+22,_,_=>trivial
theorem VG (v:Value) (l:List Ev) (ac:Int) (w:World) (h:vQ w v l) (hr:yB l) (hl:l.length<=100):
 Calls Tryz.prog 59 #[v,.int .i64 ac] w (gU l ac w):=by
 have HSu:=zb (KB v l ac w h hr (by omega));have HPr:=zb (fun s w1 (hb:Below w.heap.size w w1)=>JD v l s w1 (h.below hb) (by omega));have HAc:=zb (fun n s w1 (hb:Below w.heap.size w w1)=>JA v l n s w1 (h.below hb) (by omega) hr);have HSz:=zb (show ∀e∈l,e.nm.size<=maxLen from fun e he=>(h.2 e he).2);have Hl:=zb hl;obtain⟨av,cap,rfl,hlc,hcm⟩:=zu h.1;clear h hlc hcm hr hl;go_enter Tryz.func59,Tryz.ntmps59;go_wp2_with fail;refine HSu.out.mono ?_;rintro e w2 ⟨vO,O,rfl,hso,ownO,hOl,hb2⟩;have HOk:=zb hso;have HOa:=zb (Nu hso);obtain⟨aO,cO,rfl,hc1,hc2⟩:=zf ownO;unfold maxLen at hc2;have HO:=zb (show zh yh 1 w2 (.slice aO O.length cO) O from zh.own (fun _=>rfl) ownO);have Hb2:=zb hb2;have hOl2:O.length<=100:=Nat.le_trans hOl Hl.out;have Hlen:=zb (show ∀k,k<=O.length->(hldO l O k).length<=10000 from fun k hk=>by
  have h1:=Xb l O k hk;have h2:=Nat.mul_le_mul (show k<=100 by omega) Hl.out
  omega);clear hso ownO hOl hb2;go_wp2_with fail;go_loopw [5,7] (fun vo i wr=>∃(k:Nat) (X:List HoX),k<=O.length/\i=.int .i64 k/\RowKit.Hid (X.map (·.h)=hldO l O k)/\wr.ownsRow w2.heap.size 131 4 vo X.length (X.flatMap (yj ac))/\(∀x∈X,HoO l w2.heap.size wr x)/\Below w2.heap.size w2 wr) (fun _ i _=>O.length-(intOf i).toNat);case atStart=>exact⟨0,[],Nat.zero_le _,rfl,zb rfl,World.ownsRow_nil _ _ _ _,fun x hx=>(by cases hx),Below.refl _ _⟩
 case round=>
  obtain⟨wo,rfl⟩:∃wo:World,wo=wr:=⟨_,rfl⟩;obtain⟨k,X0,hk,rfl,HX0,hown,hrd,hb⟩:=hrel;obtain⟨a,cp,rfl,hc3,hc4⟩:=zf hown;unfold maxLen at hc4;have Hown:=zb hown;have Hrd:=zb hrd;have Hb:=zb hb;have hk0:(0:Int)<=(k:Int):=Int.natCast_nonneg _;by_cases hlt:k<O.length
  · have hk1:(k:Int)<(O.length:Int):=by omega
    obtain⟨a3,c3,e3,-,-,hx⟩:=HO.out;cases e3;obtain⟨b1,o1,rfl,HB12,hx⟩:=hx (by rintro rfl;cases hlt);have hB1:b1<wo.heap.size:=Nat.lt_of_lt_of_le HB12 hb.size;have x02:w2.cell? ⟨b1,o1+k,none⟩=some (.int .i64 O[k]):=by have:=hx k hlt 0 (by decide);rwa[Nat.mul_one,Nat.add_zero]at this
    have x0:wo.cell? ⟨b1,o1+k,none⟩=some (.int .i64 O[k]):=(hb.cell (p:=⟨b1,_,none⟩) HB12).trans x02;have HSucc:=zb (Kc l O k hlt);have HLen1:=zb (Hlen.out (k+1) (by omega));clear hx hown hrd;generalize O[k]=s at *;have HPs:=zb (HPr.out s wo (Hb2.out.trans (hb.mono Hb2.out.size)));clear hb;go_wp2_with fail;refine HPs.out.mono ?_;rintro e w3 ⟨vN,N,rfl,hN,ownN,hNl,hb3⟩;have HNok:=zb hN;obtain rfl:=EZ hN;generalize ZJ l s=N at *;obtain⟨aN,cN,rfl,hc5,hc6⟩:=zf ownN;unfold maxLen at hc6;have HN:=zb (zr ownN (show w2.heap.size<=wo.heap.size from Hb.out.size));have Hb3:=zb (Hb.out.trans (hb3.mono Hb.out.size));have Hown3:=zb (ze Hown.out hb3);have Hrd3:=zb (show ∀x∈X0,HoO l w2.heap.size w3 x from fun x hx=>(Hrd.out x hx).below hb3);have HB1:=zb HB12;have X0c:=zb x02;have HNs:=zb (show ∀n∈N,n.size<=maxLen from fun n hn=>by
     obtain⟨e,he,-,-,rfl⟩:=(HNok.out.mem n).1 hn;exact HSz.out e he);have hNl2:N.length<=100:=Nat.le_trans hNl Hl.out;have HRel:=zb (show ∀(X:List HoX) (vo:Value) (wx:World),X.map (·.h)=hldO l O k++N.map (fun n=>(s,n))->wx.ownsRow w2.heap.size 131 4 vo X.length (X.flatMap (yj ac))->(∀x∈X,HoO l w2.heap.size wx x)->Below w2.heap.size w2 wx->∃(k':Nat) (X:List HoX),k'<=O.length/\Value.int .i64 ((k:Int)+1)=.int .i64 k'/\RowKit.Hid (X.map (·.h)=hldO l O k')/\wx.ownsRow w2.heap.size 131 4 vo X.length (X.flatMap (yj ac))/\(∀x∈X,HoO l w2.heap.size wx x)/\Below w2.heap.size w2 wx from fun X vo wx h1 h2 h3 h4=>⟨k+1,X,hlt,by go_num,zb (by rw[HSucc.out];exact h1),h2,h3,h4⟩);clear hN ownN hNl hb3 x0 x02;go_wp2_with fail;go_loopw [5,9] (fun vo i wr=>∃(j:Nat) (X:List HoX),j<=N.length/\i=.int .i64 j/\RowKit.Hid (X.map (·.h)=hldO l O k++(N.take j).map (fun n=>(s,n)))/\wr.ownsRow w2.heap.size 131 4 vo X.length (X.flatMap (yj ac))/\(∀x∈X,HoO l w2.heap.size wr x)/\wr.ownsRow w2.heap.size 9 1 (.slice aN N.length cN) N.length (N.flatMap zm)/\Below w2.heap.size w2 wr) (fun _ i _=>N.length-(intOf i).toNat);case atStart=>exact⟨0,X0,Nat.zero_le _,rfl,zb (by rw[HX0.out];simp),Hown3.out,Hrd3.out,HN.out,Hb3.out⟩
    case round=>
     clear hc3 hc4;obtain⟨wi,rfl⟩:∃wi:World,wi=wr:=⟨_,rfl⟩;obtain⟨j,X,hj,rfl,HX,hown,hrd,hownN,hb⟩:=hrel;obtain⟨ai,cpi,rfl,hc3,hc4⟩:=zf hown;unfold maxLen at hc4;have HownI:=zb hown;have HrdI:=zb hrd;have HNI:=zb hownN;have HbI:=zb hb;have hj0:(0:Int)<=(j:Int):=Int.natCast_nonneg _;have hXl:X.length<=10000:=by have h1:=congrArg List.length HX.out;have h2:=HLen1.out;rw[HSucc.out,List.length_append,List.length_map]at h2;rw[List.length_map,List.length_append,List.length_map,List.length_take]at h1;omega
     by_cases hjt:j<N.length
     · have hj1:(j:Int)<(N.length:Int):=by omega
       have y0:wi.cell? ⟨b1,o1+k,none⟩=some (.int .i64 s):=(HbI.out.cell (p:=⟨b1,_,none⟩) HB1.out).trans X0c.out;obtain⟨a4,c4,e4,-,-,hx⟩:=(zh.own (c:=zm) (sz:=1) (fun _=>rfl) hownN:zh zm 1 wi _ N);cases e4;obtain⟨b2,o2,rfl,hB2,hx⟩:=hx (by rintro rfl;cases hjt);have z0:wi.cell? ⟨b2,o2+j,none⟩=some (.string N[j]):=by have:=hx j hjt 0 (by decide);rwa[Nat.mul_one,Nat.add_zero]at this
       have HTk:=zb (show(N.take (j+1)).map (fun n=>(s,n))=(N.take j).map (fun n=>(s,n))++[(s,N[j])] by rw[List.take_succ_eq_append_getElem hjt,List.map_append];rfl);have HSs:=zb (HNs.out _ (List.getElem_mem hjt));clear hx hown hrd hownN;generalize N[j]=nm at *;have hb1w:b1<wi.heap.size:=Nat.lt_of_lt_of_le HB1.out hb.size;have HAw:=zb (show ∀Y,Below wi.heap.size wi Y->Y.cell? ⟨b1,o1+k,none⟩=some (.int .i64 s)/\Y.cell? ⟨b2,o2+j,none⟩=some (.string nm)from fun Y hY=>⟨(hY.cell (p:=⟨b1,_,none⟩) hb1w).trans y0,(hY.cell (p:=⟨b2,_,none⟩) hB2).trans z0⟩);have HAa:=zb (show ∀Y,Below wi.heap.size wi Y->_ from fun Y hY=>HAc.out s nm Y (Hb2.out.trans ((HbI.out.trans (hY.mono HbI.out.size)).mono Hb2.out.size)));clear hb y0 z0;go_upto_region 10 with(fail);refine zN 22 (fun w'=>Below wi.heap.size wi w') (Nt (.slice ai X.length cpi) (.slice av l.length cap) (.slice (some ⟨b1,o1,none⟩) O.length cO) (.slice (some ⟨b2,o2,none⟩) N.length cN) ac k j b1 (o1+k) b2 (o2+j) w2.heap.size l (s,nm)) (by kernel_rfl) (by kernel_rfl) (Below.refl _ _).drew ?_ ?_
       · generalize hfr:(fun v:Nat->Value=>_)=fr
         simp only[List.take_succ_cons,List.take_zero,List.map_cons,List.map_nil,zB,List.setIfInBounds_toArray,List.set_cons_succ,List.set_cons_zero,Nat.zero_add,Nat.reduceAdd]at hfr;simp only[List.take_succ_cons,List.take_zero,yN];refine⟨?_,?_,?_,?_,?_,?_,?_,?_,?_,?_,?_,?_,?_,?_,?_,?_,?_,?_,?_,?_,?_,?_,trivial⟩;iterate 4
          · intro v w5 hC hd K hK
            rw[<-hfr]at hK⊢;go_simp;exact hK _ _ hC (yI (Below.refl _ _)) rfl
         · intro v w5 hC hd K hK
           obtain⟨(e2:v 2=_),(e3:v 3=_),-⟩:=hd;rw[<-hfr]at hK⊢;simp only[e2,e3]at hK⊢;go_simp;exact hK _ _ hC (yI (Below.refl _ _)) rfl
         · intro v w5 hC hd K hK
           obtain⟨(e4:v 4=_),-⟩:=hd;obtain⟨p0,p1⟩:=HAw.out w5 hC;rw[<-hfr]at hK⊢;simp only[e4]at hK⊢;go_simp;exact hK _ _ hC (yI (Below.refl _ _)) rfl
         iterate 2
          · intro v w5 hC hd K hK
            rw[<-hfr]at hK⊢;go_simp;exact hK _ _ hC (yI (Below.refl _ _)) rfl
         · intro v w5 hC hd K hK
           obtain⟨(e6:v 6=_),(e7:v 7=_),-⟩:=hd;rw[<-hfr]at hK⊢;simp only[e6,e7]at hK⊢;go_simp;exact hK _ _ hC (yI (Below.refl _ _)) rfl
         · intro v w5 hC hd K hK
           obtain⟨(e8:v 8=_),-⟩:=hd;obtain⟨p0,p1⟩:=HAw.out w5 hC;rw[<-hfr]at hK⊢;simp only[e8]at hK⊢;go_simp;exact hK _ _ hC (yI (Below.refl _ _)) rfl
         iterate 3
          · intro v w5 hC hd K hK
            rw[<-hfr]at hK⊢;go_simp;exact hK _ _ hC (yI (Below.refl _ _)) rfl
         · intro v w5 hC hd K hK
           obtain⟨(e11:v 11=_),(e12:v 12=_),-⟩:=hd;rw[<-hfr]at hK⊢;simp only[e11,e12]at hK⊢;go_simp;exact hK _ _ hC (yI (Below.refl _ _)) rfl
         · intro v w5 hC hd K hK
           obtain⟨(e13:v 13=_),-⟩:=hd;obtain⟨p0,p1⟩:=HAw.out w5 hC;rw[<-hfr]at hK⊢;simp only[e13]at hK⊢;go_simp;exact hK _ _ hC (yI (Below.refl _ _)) rfl
         iterate 2
          · intro v w5 hC hd K hK
            rw[<-hfr]at hK⊢;go_simp;exact hK _ _ hC (yI (Below.refl _ _)) rfl
         · intro v w5 hC hd K hK
           obtain⟨(e15:v 15=_),(e16:v 16=_),-⟩:=hd;rw[<-hfr]at hK⊢;simp only[e15,e16]at hK⊢;go_simp;exact hK _ _ hC (yI (Below.refl _ _)) rfl
         · intro v w5 hC hd K hK
           obtain⟨(e17:v 17=_),-⟩:=hd;obtain⟨p0,p1⟩:=HAw.out w5 hC;rw[<-hfr]at hK⊢;simp only[e17]at hK⊢;go_simp;exact hK _ _ hC (yI (Below.refl _ _)) rfl
         · intro v w5 hC hd K hK
           obtain⟨(e10:v 10=_),(e14:v 14=_),(e18:v 18=_),-⟩:=hd;rw[<-hfr]at hK⊢;simp only[e10,e14,e18]at hK⊢;go_simp;refine(HAa.out w5 hC).mono ?_;rintro e w6 ⟨qa,qc,rfl,own4,hb4⟩;exact hK _ _ (hC.trans (hb4.mono hC.size)) (yI hb4) ⟨⟨(s,nm),qa,_,qc⟩,rfl,rfl,zr own4 (by have:=HbI.out.size;have:=hC.size;omega),HSs.out⟩
         · intro v w5 hC hd K hK
           obtain⟨(e1:v 1=_),(e5:v 5=_),(e9:v 9=_),f19,-⟩:=hd;obtain⟨x,e19,hx1,hx2⟩:∃x:HoX,v 19=.slice x.pa x.pn x.pc/\x.h=(s,nm)/\HoO l w2.heap.size w5 x:=f19;rw[<-hfr]at hK⊢;simp only[e1,e5,e9,e19]at hK⊢;go_simp;exact hK _ _ hC (yI (Below.refl _ _)) ⟨x,rfl,hx1,hx2⟩
         intro v w5 hC hd K hK;obtain⟨f20,-⟩:=hd;obtain⟨x,e20,hx1,hx2⟩:Y8 ac l (s,nm) w2.heap.size w5 (v 20):=f20;rw[<-hfr]at hK⊢;simp only[e20]at hK⊢;go_simp;exact hK _ _ (hC.alloc hC.size _) (yI ((Below.refl _ _).alloc (Nat.le_refl _) _)) ⟨_,x,rfl,heap_alloc_new _ _,hx1,hx2.below ((Below.refl _ _).alloc (Nat.le_refl _) _)⟩
       intro v w5 hC hall;obtain⟨g,x,e21,hg,hx1,hx2⟩:Y9 ac l (s,nm) w2.heap.size w5 (v 21):=hall.2;have e0:v 0=.slice ai X.length cpi:=hall.1.1.1.1.1.1.1.1.1.1.1.1.1.1.1.1.1.1.1.1.1.2;have HRX:=zb (Zh (c:=yj ac) (sz:=4) hg x (by show _=(yj ac x).toArray;unfold yj;rw[hx1]));have HNo:=zb hx2;have Hx1:=zb hx1;have HownU:=zb (ze HownI.out hC);have Hrd5:=zb (show ∀x∈X,HoO l w2.heap.size w5 x from fun x hx=>(HrdI.out x hx).below hC);have HN5:=zb (ze HNI.out hC);have Hb5:=zb (HbI.out.trans (hC.mono HbI.out.size));have hbs:=Hb5.out.size;simp only[List.take_succ_cons,List.take_zero,List.map_cons,List.map_nil,zB,List.setIfInBounds_toArray,List.set_cons_succ,List.set_cons_zero,Nat.zero_add,Nat.reduceAdd,List.drop_succ_cons,List.drop_zero];simp only[e0,e21];generalize v 1=y1,v 2=y2,v 3=y3,v 4=y4,v 5=y5,v 6=y6,v 7=y7,v 8=y8,v 9=y9,v 10=y10,v 11=y11,v 12=y12,v 13=y13,v 14=y14,v 15=y15,v 16=y16,v 17=y17,v 18=y18,v 19=y19,v 20=y20;clear e0 e21 hg hx1 hx2 hall hC v HAw HAa;refine WE ac rfl _ _ rfl w2.heap.size hbs _ _ X [x] rfl rfl HownU.out HRX.out (by rw[List.length_singleton];omega) ?_;intro R hR v7 w7 own7 hg7;have Hg7:=zb hg7;have HRe:=zb (show R.map (·.h)=hldO l O k++(N.take (j+1)).map (fun n=>(s,n)) by rw[hR.out,HTk.out,List.map_append,HX.out,List.append_assoc];show _++(_++[x.h])=_;rw[Hx1.out]);have HR7:=zb (show ∀x∈R,HoO l w2.heap.size w7 x from fun y hy=>by
        rw[hR.out]at hy;rcases List.mem_append.1 hy with hy|hy;· exact(Hrd5.out y hy).growT HownU.out (by decide) Hg7.out
        rw[List.mem_singleton.1 hy];exact HNo.out.growT HownU.out (by decide) Hg7.out);have HN7:=zb (yX HN5.out Hg7.out (yo HN5.out HownU.out (by decide)));have Hb7:=zb (Hb5.out.grown Hg7.out hbs (fun g hg=>(zg HownU.out g hg).1));have Own7:=zb own7;clear own7 hg7 hR hbs;go_wp2;exact⟨⟨j+1,R,by omega,by go_num,HRe,Own7.out,HR7.out,HN7.out,Hb7.out⟩,by simp[intOf];omega⟩
     have HE:=zb (show X.map (·.h)=hldO l O k++N.map (fun n=>(s,n)) by rw[HX.out,List.take_of_length_le (by omega)]);have HF:=zb (HRel.out X _ wi HE.out hown hrd hb);clear hown hrd hownN hb;go_wp2;exact⟨HF.out,by simp[intOf];omega⟩
  have HE:=zb (show jw l ac (X0.map (·.h)) by
   have h:=HOa.out;rwa[show O.length=k by omega,<-HX0.out]at h);have HXl:=zb (show X0.length<=10000 by
   have h1:=congrArg List.length HX0.out;rw[List.length_map]at h1;rw[h1];exact Hlen.out k hk);have HbF:=zb (Hb2.out.trans (hb.mono Hb2.out.size));clear hown hrd hb;go_wp2;go_ret;exact⟨_,_,X0,rfl,zh.own (fun _=>rfl) Hown.out,HE.out,fun x hx=>(Hrd.out x hx).rd,HXl.out,HbF.out⟩
theorem xO:OrdB []:=⟨List.Pairwise.nil,List.Pairwise.nil⟩
theorem G2 {L:List Bu} (h:0<L.length):OrdB (L.take 1):=by rw[List.take_succ_eq_append_getElem h,List.take_zero,List.nil_append];exact⟨List.pairwise_singleton _ _,List.pairwise_singleton _ _⟩
theorem E8 {L:List Bu} {k:Nat} (hk:k<L.length) (hk0:0<k) (h:OrdB (L.take k)) (he:zK (L[k-1]) L[k]=true) (hn:yi (L.take k) L[k]=false):OrdB (L.take (k+1)):=by
 have hone:∀x∈L.take k,yC x L[k]=false:=fun x hx=>by
  have:=List.any_eq_false.1 hn x hx;simpa using this
 rw[List.take_succ_eq_append_getElem hk];refine⟨?_,?_⟩
 · have hp:(L.take k++[L[k]]).Pairwise Earl:=List.pairwise_append.2 ⟨h.earl,List.pairwise_singleton _ _,fun a ha c hc=>?_⟩
   · exact hp.imp fun h=>ke.2 h
   obtain rfl:=List.mem_singleton.1 hc;obtain⟨j,hj,rfl⟩:=List.mem_take_iff_getElem.1 ha;have hlast:Earl (L[k-1]) L[k]:=ke.1 he;by_cases hjk:j=k-1;· subst hjk;exact hlast
   have h1:=List.pairwise_iff_getElem.1 h.earl j (k-1) (by rw[List.length_take];omega) (by rw[List.length_take];omega) (by omega);rw[List.getElem_take,List.getElem_take]at h1;exact Earl.trans _ _ _ h1 hlast
 exact List.pairwise_append.2 ⟨h.one,List.pairwise_singleton _ _,fun a ha c hc=>by
  obtain rfl:=List.mem_singleton.1 hc;exact hone a ha⟩
theorem Na {L:List Bu} (h:OrdB L) {k:Nat} (hk:k<L.length) (hk0:0<k):zK (L[k-1]) L[k]=true:=List.pairwise_iff_getElem.1 h.srt (k-1) k (by omega) hk (by omega)
theorem E9 {L:List Bu} (h:OrdB L) {k:Nat} (hk:k<L.length):yi (L.take k) L[k]=false:=by refine List.any_eq_false.2 fun x hx=>?_;obtain⟨j,hj,rfl⟩:=List.mem_take_iff_getElem.1 hx;rw[List.pairwise_iff_getElem.1 h.one j k (by omega) hk (by omega)];decide
theorem JE (v:Value) (X:List BuX) (w:World) (h:zh zt 12 w v X):
 Calls Tryz.prog 19 #[v] w fun e w'=>(∃b,e=.returned (.bool b)/\(b=true↔OrdB (plB X)))/\Below w.heap.size w w':=by
 have HX:=zb h;obtain⟨av,cap,rfl,hlc,hcm⟩:=zu h;unfold maxLen at hcm;clear h;have HLen:=zb (qf X);have HSt:=zb (show OrdB ((plB X).take 1)from by
  by_cases h0:0<(plB X).length;· exact G2 h0
  rw[List.length_eq_zero_iff.1 (show(plB X).length=0 by omega)];exact xO);go_enter Tryz.func19,Tryz.ntmps19;go_wp2_with fail;go_loopw [3] (fun i wr=>∃j:Nat,i=.int .i64 ((j:Int)+1)/\OrdB ((plB X).take (j+1))/\j<=X.length/\Below w.heap.size w wr) (fun i _=>X.length+1-(intOf i).toNat);case atStart=>exact⟨0,rfl,HSt.out,Nat.zero_le _,Below.refl _ _⟩
 case round=>
  obtain⟨wo,rfl⟩:∃wo:World,wo=wr:=⟨_,rfl⟩;obtain⟨j,rfl,ho,hjl,hb⟩:=hrel;have HO:=zb ho;have Hb:=zb hb;have hj1:(0:Int)<=(j:Int):=Int.natCast_nonneg _;have hj4:(0:Int)<=(j:Int)+1:=by omega
  by_cases hlt:j+1<X.length
  · have hj2:(j:Int)<(X.length:Int):=by omega
    have hj3:(j:Int)+1<(X.length:Int):=by omega
    have hj5:IntKind.i64.wrap ((j:Int)+1-1)=(j:Int):=by rw[Int.add_sub_cancel];exact IntWalk.i64_in _ (by omega)
    have hj6:((j:Int)+1).toNat=j+1:=by omega
    have hj7:IntKind.i64.wrap (j:Int)=(j:Int):=IntWalk.i64_in _ (by omega);have hj8:j+1<=cap:=by omega
    have hj9:(j:Int)+1<=(cap:Int):=by omega
    have HTk0:=zb (fun w1 (hb1:Below wo.heap.size wo w1)=>zO (HX.out.below (hb.trans (hb1.mono hb.size))) (j+1) (Nat.le_of_lt hlt));obtain⟨a3,c3,e3,-,-,hx⟩:=HX.out.below hb;cases e3;obtain⟨bb,o,rfl,hB,hx⟩:=hx (by rintro rfl;exact absurd hlt (by simp));have hy:=hx (j+1) hlt;have hx:=hx j (by omega);obtain⟨qQ0,qQ1,qQ2,qQ3,qQ4,qQ5,qQ6,qQ7,qQ8,qQ9,qQ10,qQ11⟩:=bu12 hx;have x0:=fun p:zd wo=>zd.cell hB qQ0 p;have x1:=fun p:zd wo=>zd.cell hB qQ1 p;have x2:=fun p:zd wo=>zd.cell hB qQ2 p;have x3:=fun p:zd wo=>zd.cell hB qQ3 p;have x4:=fun p:zd wo=>zd.cell hB qQ4 p;have x5:=fun p:zd wo=>zd.cell hB qQ5 p;have x6:=fun p:zd wo=>zd.cell hB qQ6 p;have x7:=fun p:zd wo=>zd.cell hB qQ7 p;have x8:=fun p:zd wo=>zd.cell hB qQ8 p;have x9:=fun p:zd wo=>zd.cell hB qQ9 p;have x10:=fun p:zd wo=>zd.cell hB qQ10 p;have x11:=fun p:zd wo=>zd.cell hB qQ11 p;clear qQ0 qQ1 qQ2 qQ3 qQ4 qQ5 qQ6 qQ7 qQ8 qQ9 qQ10 qQ11;obtain⟨qQ0,qQ1,qQ2,qQ3,qQ4,qQ5,qQ6,qQ7,qQ8,qQ9,qQ10,qQ11⟩:=bu12 hy;have y0:=fun p:zd wo=>zd.cell hB qQ0 p;have y1:=fun p:zd wo=>zd.cell hB qQ1 p;have y2:=fun p:zd wo=>zd.cell hB qQ2 p;have y3:=fun p:zd wo=>zd.cell hB qQ3 p;have y4:=fun p:zd wo=>zd.cell hB qQ4 p;have y5:=fun p:zd wo=>zd.cell hB qQ5 p;have y6:=fun p:zd wo=>zd.cell hB qQ6 p;have y7:=fun p:zd wo=>zd.cell hB qQ7 p;have y8:=fun p:zd wo=>zd.cell hB qQ8 p;have y9:=fun p:zd wo=>zd.cell hB qQ9 p;have y10:=fun p:zd wo=>zd.cell hB qQ10 p;have y11:=fun p:zd wo=>zd.cell hB qQ11 p;clear qQ0 qQ1 qQ2 qQ3 qQ4 qQ5 qQ6 qQ7 qQ8 qQ9 qQ10 qQ11;have HEarl:=zb (fun h:OrdB (plB X)=>Na h (k:=j+1) (by rw[HLen.out];exact hlt) (by omega));have HNone:=zb (fun h:OrdB (plB X)=>E9 h (k:=j+1) (by rw[HLen.out];exact hlt));have HSnoc:=zb (E8 (L:=plB X) (k:=j+1) (by rw[HLen.out];exact hlt) (by omega) HO.out);have HEx:=zb (fun w1 (hb1:Below wo.heap.size wo w1) (y:BuX)=>Yv _ (X.take (j+1)) y w1 (HTk0.out w1 hb1));have eX:(plB X)[j+1-1]'(by rw[HLen.out];omega)=(X[j]).b:=by simp[plB]
    have eY:(plB X)[j+1]'(by rw[HLen.out];exact hlt)=(X[j+1]).b:=by simp[plB]
    have eT:plB (X.take (j+1))=(plB X).take (j+1):=by unfold plB;rw[List.map_take]
    rw[eX,eY]at HEarl HSnoc;rw[eY]at HNone;rw[eT]at HEx;clear hx hy hb ho eX eY eT HTk0;generalize X[j+1]=y at *;generalize X[j]=x at *;have HEa:=zb (fun w1=>Vo x y w1);have HEx2:=zb (fun w1 hb1=>HEx.out w1 hb1 y);unfold ym at HEa HEx2;cases hq:zK x.b y.b with
    |false=>
      rw[hq]at HEa;have HNo:=zb (show ¬OrdB (plB X)from fun h=>by have:=HEarl.out h;rw[hq]at this;cases this);clear hq HEarl HSnoc HNone HEx HEx2;go_upto_region 4 with(fail);refine zj (Below.refl wo.heap.size wo) (by kernel_rfl) (by kernel_rfl) ?_;repeat (go_big_quiet_step (first|(go_at_call 48;refine zy (HEa.out _) (fun e w' h=>h))))
      refine wpQuiet_nil ?_;intro wz hw';have hYa:Below wo.heap.size wo wz:=by obtain⟨pq,rfl⟩:=hw';exact pq.h
      have Hbz:=zb (Hb.out.trans (hYa.mono Hb.out.size));clear hw' hYa x0 x1 x2 x3 x4 x5 x6 x7 x8 x9 x10 x11 y0 y1 y2 y3 y4 y5 y6 y7 y8 y9 y10 y11 hj5 hj6 hj7 hj8 hj9 hB;go_wp2;go_ret;exact⟨⟨false,rfl,fun h=>absurd h (by decide),fun h=>absurd h HNo.out⟩,Hbz.out⟩
    |true=>
      rw[hq]at HEa;cases hn:yi ((plB X).take (j+1)) y.b with
      |true=>
        rw[hn]at HEx2;have HNo:=zb (show ¬OrdB (plB X)from fun h=>by have:=HNone.out h;rw[hn]at this;cases this);clear hq hn HEarl HSnoc HNone HEx;go_upto_region 4 with(fail);refine zj (Below.refl wo.heap.size wo) (by kernel_rfl) (by kernel_rfl) ?_;repeat (go_big_quiet_step (first|(go_at_call 48;refine zy (HEa.out _) (fun e w' h=>h))|(go_at_call 49;refine zy (HEx2.out _ (by first|assumption|exact zd.h (by assumption))) (fun e w' h=>h))))
        refine wpQuiet_nil ?_;intro wz hw';have hYa:Below wo.heap.size wo wz:=by obtain⟨pq,rfl⟩:=hw';exact pq.h
        have Hbz:=zb (Hb.out.trans (hYa.mono Hb.out.size));clear hw' hYa x0 x1 x2 x3 x4 x5 x6 x7 x8 x9 x10 x11 y0 y1 y2 y3 y4 y5 y6 y7 y8 y9 y10 y11 hj5 hj6 hj7 hj8 hj9 hB;go_wp2;go_ret;exact⟨⟨false,rfl,fun h=>absurd h (by decide),fun h=>absurd h HNo.out⟩,Hbz.out⟩
      |false=>
        rw[hn]at HEx2;have HSn:=zb (HSnoc.out hq hn);clear hq hn HEarl HSnoc HNone HEx;go_upto_region 4 with(fail);refine zj (Below.refl wo.heap.size wo) (by kernel_rfl) (by kernel_rfl) ?_;repeat (go_big_quiet_step (first|(go_at_call 48;refine zy (HEa.out _) (fun e w' h=>h))|(go_at_call 49;refine zy (HEx2.out _ (by first|assumption|exact zd.h (by assumption))) (fun e w' h=>h))))
        refine wpQuiet_nil ?_;intro wz hw';have hYa:Below wo.heap.size wo wz:=by obtain⟨pq,rfl⟩:=hw';exact pq.h
        have Hbz:=zb (Hb.out.trans (hYa.mono Hb.out.size));clear hw' hYa x0 x1 x2 x3 x4 x5 x6 x7 x8 x9 x10 x11 y0 y1 y2 y3 y4 y5 y6 y7 y8 y9 y10 y11 hj5 hj6 hj7 hj8 hj9 hB;go_wp2;exact⟨⟨j+1,by go_num,HSn.out,by omega,Hbz.out⟩,by simp[intOf];omega⟩
  have HYes:=zb (show OrdB (plB X) by rw[List.take_of_length_le (by rw[HLen.out];omega)]at ho;exact ho);clear ho hb;go_wp2;go_ret;exact⟨⟨true,rfl,fun _=>HYes.out,fun _=>rfl⟩,Hb.out⟩
def fewB (l:List Ev) (P:List Pd) (b w c:Nat) (t:Int):Bool:=
 decide (l.length<=40)&&decide (P.length<=8)&&decide (b<=60)&&decide (w<=40)&&decide (c<=40)&&(P.all fun p=>decide (p.bs.length<=4))&&(decide (l.length=0)||decide (t<69120000)||decide (t-69120000<(l.getD 0 default).tm))
theorem VR {l:List Ev} {P:List Pd} {b w c:Nat} {t:Int} (h:fewB l P b w c t=true):l.length<=40/\P.length<=8/\b<=60/\w<=40/\c<=40/\(∀p∈P,p.bs.length<=4)/\(l.length=0\/t<69120000\/t-69120000<(l.getD 0 default).tm):=by unfold fewB at h;simp only[Bool.and_eq_true,Bool.or_eq_true,decide_eq_true_eq,List.all_eq_true]at h;obtain⟨⟨⟨⟨⟨⟨h1,h2⟩,h3⟩,h4⟩,h5⟩,h6⟩,h7⟩:=h;exact⟨h1,h2,h3,h4,h5,h6,or_assoc.1 h7⟩
end Go.Proofs.YtngippiilgdnoaaGreat
