/-
  The walk of the program's cycles, and of the function that it calls for each period.
-/
import Derived.Test.YtngippiilgdnoaaGreatMhbf
import Derived.Test.YtngippiilgdnoaaGreatMhbm
import Derived.Test.YtngippiilgdnoaaGreatMhbh
import Derived.Test.YtngippiilgdnoaaGreatMhbi
set_option maxRecDepth 100000
set_option maxHeartbeats 25600000
namespace Go.Proofs.YtngippiilgdnoaaGreat
open Go.RowKit
theorem WZ (v:Value) (l:List Pd) (s:ByteArray) (t:Int) (w:World) (h:qu w v l) (hf:FewP l):
 Calls Tryz.prog 77 #[v,.string s,.int .i64 t] w fun e w'=>E9 w (atL l s t) e w':=by
 cases ha:atL l s t with
 |none=>exact at_no v l s t w h hf ha
 |some p=>exact gi v l s t p w h hf ha
theorem kR {w:World} {v:Value} {l:List (Int×Int)} (h:yd w v l):∃a c,v=.slice a l.length c/\l.length<=c/\c<=maxLen:=by obtain⟨a,c,rfl,h1,h2,-⟩:=h;exact⟨a,c,rfl,h1,h2.1⟩
def buOf (ac:Int) (h:Had) (q:Int×Int) (i:Int) (b:Bd):Bu:=⟨ac,h.1,h.2,i,b.kd,b.zs,q.1,q.2,b.un,b.un,b.pr,b.sh⟩
def vQ (ac:Int) (h:Had) (q:Int×Int) (bs:List Bd):List (Bu×Int):=bs.mapIdx fun i b=>(buOf ac h q (i:Int) b,b.ro)
theorem Z8 (ac:Int) (h:Had) (q:Int×Int) (bs:List Bd) (k:Nat) (hk:k<bs.length):vQ ac h q (bs.take (k+1))=vQ ac h q (bs.take k)++[(buOf ac h q (k:Int) bs[k],(bs[k]).ro)]:=by unfold vQ;rw[List.take_succ_eq_append_getElem hk,List.mapIdx_concat,List.length_take,Nat.min_eq_left (Nat.le_of_lt hk)]
theorem Y9 (ac:Int) (h:Had) (q:Int×Int) (bs:List Bd):(vQ ac h q bs).length=bs.length:=by unfold vQ;rw[List.length_mapIdx]
def jc (A:List (Int×Int)) (c:Int×Int):Option (Int×Int):=match A.find? (fun p=>yO p.1 p.2 c.1 c.2)with
 |some p=>some (max p.1 c.1,min p.2 c.2)
 |none=>none
def bsOf:Option Pd->List Bd
 |none=>[]
 |some x=>x.bs
def yr (P:List Pd) (ac:Int) (h:Had) (A:List (Int×Int)) (c:Int×Int):List (Bu×Int):=match jc A c with
 |none=>[]
 |some q=>vQ ac h q (bsOf (atL P h.2 q.1))
theorem Un {α:Type} {p:α->Bool} {l:List α} {k:Nat} (hk:k<l.length) (h:(l.take k).any p=false) (hp:p l[k]=true):l.find? p=some l[k]:=by
 have e:l=l.take k++(l[k]::l.drop (k+1)):=by rw[<-List.drop_eq_getElem_cons hk,List.take_append_drop]
 have h1:(l.take k).find? p=none:=List.find?_eq_none.2 (fun x hx=>by
  have:=List.any_eq_false.1 h x hx;simpa using this);have h2:l.find? p=(l.take k++(l[k]::l.drop (k+1))).find? p:=congrArg _ e;rw[h2,List.find?_append,h1,Option.none_or,List.find?_cons_of_pos hp]
theorem Uo {α:Type} {p:α->Bool} {l:List α} {k:Nat} (hk:l.length<=k) (h:(l.take k).any p=false):l.find? p=none:=by
 rw[List.take_of_length_le hk]at h;exact List.find?_eq_none.2 (fun x hx=>by
  have:=List.any_eq_false.1 h x hx;simpa using this)
theorem Qm {A:List (Int×Int)} {c:Int×Int} {k:Nat} (hk:k<A.length) (h:(A.take k).any (fun p=>yO p.1 p.2 c.1 c.2)=false) (hp:yO (A[k]).1 (A[k]).2 c.1 c.2=true):jc A c=some (max (A[k]).1 c.1,min (A[k]).2 c.2):=by unfold jc;rw[Un (p:=fun p:Int×Int=>yO p.1 p.2 c.1 c.2) hk h hp]
theorem Qn {A:List (Int×Int)} {c:Int×Int} {k:Nat} (hk:A.length<=k) (h:(A.take k).any (fun p=>yO p.1 p.2 c.1 c.2)=false):jc A c=none:=by unfold jc;rw[Uo (p:=fun p:Int×Int=>yO p.1 p.2 c.1 c.2) hk h]
def qK (g:BuX×Int):List Value:=[.int .i64 g.1.b.ac,.int .i64 g.1.b.sb,.string g.1.b.pr,.int .i64 g.1.b.ix,.int .i64 g.1.b.kd,.slice g.1.za g.1.zn g.1.zc,.int .i64 g.1.b.f,.int .i64 g.1.b.t,.int .i64 g.1.b.un,.int .i64 g.1.b.lf,.int .i64 g.1.b.pt,.bool g.1.b.sh,.int .i64 g.2]
theorem xO (a:BuX×Int):∀u∈qK a,u.oneCell'=true:=by intro u hu;unfold qK at hu;simp only[List.mem_cons,List.not_mem_nil,or_false]at hu;rcases hu with rfl|rfl|rfl|rfl|rfl|rfl|rfl|rfl|rfl|rfl|rfl|rfl|rfl<;>rfl
theorem Tryz.grInfo:(Tryz.prog.info? 122).map (fun i=>(i.zero,i.size,i.bytes))=some (some (.agg #[.int .i64 0,.int .i64 0,.string ⟨#[]⟩,.int .i64 0,.int .i64 0,.slice none 0 0,.int .i64 0,.int .i64 0,.int .i64 0,.int .i64 0,.int .i64 0,.bool false,.int .i64 0]),13,128):=by kernel_rfl
def plG (X:List (BuX×Int)):List (Bu×Int):=X.map fun g=>(g.1.b,g.2)
theorem Ny (X:List (BuX×Int)):(plG X).length=X.length:=List.length_map ..
def GrTo (G:List (Bu×Int)) (w:World) (e:Ending) (w':World):Prop:=∃(a:Option Addr) (c:Nat) (X:List (BuX×Int)),e=.returned (.slice a X.length c)/\w'.ownsRow w.heap.size 122 13 (.slice a X.length c) X.length (X.flatMap qK)/\plG X=G/\(∀x∈X,BuRd w' x.1)/\Below w.heap.size w w'
theorem GC {w:World} {ops:Array Oper} {rest:List Oper} {o:Oper} {a:Act} {Q:Exit->Act->World->Prop} (hgd:o.guard=none) (s x:Operand)
 (ho:o.op=.call { callee:=.builtin .append,args:=#[s,x],argTypes:=#[119,119] })
 (base:Nat) (hbase:base<=w.heap.size) (v vx:Value) (L X:List (BuX×Int)) (hs:a.eval s=v) (hx:a.eval x=vx) (hown:w.ownsRow base 122 13 v L.length (L.flatMap qK)) (hX:zi qK 13 w vx X) (hlen:L.length+X.length<=1000000)
 (h:∀R:List (BuX×Int),RowKit.Hid (R=L++X)->∀v' w',w'.ownsRow base 122 13 v' R.length (R.flatMap qK)->w.grownBy w' v.ownBlock->wpList Tryz.prog ops Q rest (a.put o.dst v') w'):wpList Tryz.prog ops Q (o::rest) a w:=
 zX (c:=qK) (sz:=13) (fun _=>rfl) xO 122 119 _ 128 Tryz.underlying119 Tryz.grInfo rfl (by decide) hgd s x ho base hbase v vx L X hs hx hown hX (by unfold maxLen;omega) (by omega) h
theorem World.le_alloc (w:World) (o:Obj):w.heap.size<=(w.alloc o).heap.size:=by simp
theorem Gx {w:World} {v:Value} {l:List Bd} (h:qR w v l):∃a c,v=.slice a l.length c/\l.length<=c/\c<=maxLen:=by obtain⟨a,c,rfl,h1,h2,-⟩:=h;exact⟨a,c,rfl,h1,h2.1⟩
theorem Ww (w:World):qR w (.slice none 0 0) []:=⟨none,0,rfl,Nat.le_refl _,⟨by unfold maxLen;omega,fun _=>rfl⟩,fun h=>absurd rfl h⟩
theorem atBs {w w':World} {o:Option Pd} {e:Ending} (h:E9 w o e w'):∃(nm ct:ByteArray) (fm fe:Int) (pro:Bool) (ba:Option Addr) (bc:Nat),e=.returned (.tuple #[.agg #[.string nm,.int .i64 fm,.int .i64 fe,.string ct,.bool pro,.slice ba (bsOf o).length bc],.bool o.isSome])/\qR w' (.slice ba (bsOf o).length bc) (bsOf o)/\(bsOf o).length<=bc/\bc<=maxLen/\Below w.heap.size w w':=by
 cases o with
 |none=>exact⟨_,_,_,_,_,none,0,h.1,Ww _,Nat.le_refl _,by unfold maxLen;omega,h.2⟩
 |some p=>obtain⟨bv,rfl,hb,hbl⟩:=h;obtain⟨a,c,rfl,h1,h2⟩:=Gx hb;exact⟨_,_,_,_,_,a,c,rfl,hb,h1,h2,hbl⟩
theorem UH {w:World} {b o:Nat} {x:Bd} (h:BdR w b o x):∃(za:Option Addr) (zc:Nat),w.cell? ⟨b,o,none⟩=some (.int .i64 x.kd)/\w.cell? ⟨b,o+1,none⟩=some (.slice za x.zs.length zc)/\zR w (.slice za x.zs.length zc) x.zs/\w.cell? ⟨b,o+2,none⟩=some (.int .i64 x.un)/\w.cell? ⟨b,o+3,none⟩=some (.int .i64 x.ro)/\w.cell? ⟨b,o+4,none⟩=some (.int .i64 x.pr)/\w.cell? ⟨b,o+5,none⟩=some (.bool x.sh):=by obtain⟨h0,⟨zv,h1,hz⟩,h2,h3,h4,h5⟩:=h;have hz2:=hz;obtain⟨za,zc,rfl,-,-,-⟩:=hz2;exact⟨za,zc,h0,h1,hz,h2,h3,h4,h5⟩
theorem Va (ac sb:Int) (pr:ByteArray) (pa:Option Addr) (pn pc:Nat) (vp:Value) (P:List Pd) (A:List (Int×Int)) (c:Int×Int) (w:World) (hA:yd w (.slice pa pn pc) A) (hp:qu w vp P) (hf:FewP P) (hs:pr.size<=maxLen):
 Calls Tryz.prog 56 #[.agg #[.int .i64 ac,.int .i64 sb,.string pr,.slice pa pn pc],vp,.agg #[.int .i64 c.1,.int .i64 c.2]] w (GrTo (yr P ac (sb,pr) A c) w):=by
 obtain⟨W,hW,r0,r1,hw0,hz0⟩:=vd w (Obj.cells #[.int .i64 ac,.int .i64 sb,.string pr,.slice pa pn pc] 118) (Obj.cells #[.int .i64 c.1,.int .i64 c.2] 25);have HA:=zb (hA.below hw0);have HP:=zb (hp.below hw0);have Hf:=zb hf;have Hs:=zb hs;have Hzs:=zb (show ∀(s:ByteArray) (t:Int),∀b∈bsOf (atL P s t),b.zs.length<=100 from fun s t b hb=>by
  cases ha:atL P s t with
  |none=>rw[ha]at hb;cases hb
  |some x=>
    rw[ha]at hb;have hx:x∈P:=by unfold atL at ha;exact(List.mem_filter.1 (List.mem_of_getLast? ha)).1
    exact(hf.2 x hx).2 b hb);have Hbl:=zb (show ∀(s:ByteArray) (t:Int),(bsOf (atL P s t)).length<=100 from fun s t=>by
  cases ha:atL P s t with
  |none=>exact Nat.zero_le _
  |some x=>
    have hx:x∈P:=by unfold atL at ha;exact(List.mem_filter.1 (List.mem_of_getLast? ha)).1
    exact(hf.2 x hx).1);have Hnone:=zb (show jc A c=none->yr P ac (sb,pr) A c=[] from fun h=>by unfold yr;rw[h]);have Hsome:=zb (show ∀q,jc A c=some q->yr P ac (sb,pr) A c=vQ ac (sb,pr) q (bsOf (atL P pr q.1))from fun q h=>by unfold yr;rw[h]);have HW:=zb hW;have Hw0:=zb hw0;have R0:=zb r0;have R1:=zb r1;obtain⟨av,cap,e,hlc,hm,-⟩:=hA;cases e;have hm:=hm.1;unfold maxLen at hm;obtain⟨pav,pcap,rfl,-,-,-⟩:=hp;have a3:=cell_of_row W _ 3 _ _ _ r0;clear hW r0 r1 hw0 hf hs;generalize yr P ac (sb,pr) A c=GG at *;go_enter Tryz.func56,Tryz.ntmps56;go_upto_region 1 with(fail);rw[<-HW.out];go_wp2_with fail;go_loopw [20] (fun i wr=>∃k:Nat,k<=A.length/\i=.int .i64 k/\(A.take k).any (fun p=>yO p.1 p.2 c.1 c.2)=false/\Below W.heap.size W wr) (fun i _=>A.length-(intOf i).toNat);case atStart=>exact⟨0,Nat.zero_le _,rfl,rfl,Below.refl _ _⟩
 case round=>
  obtain⟨wo,rfl⟩:∃wo:World,wo=wr:=⟨_,rfl⟩;obtain⟨k,hk,rfl,hn,hb⟩:=hrel;have Hn:=zb hn;have Hb:=zb hb;by_cases hlt:k<A.length
  · have hk1:(k:Int)<(A.length:Int):=by omega
    have hk0:(0:Int)<=(k:Int):=Int.natCast_nonneg _;obtain⟨a3,c3,e3,-,-,hx⟩:=HA.out.below hb;cases e3;obtain⟨bb,o,rfl,hB,hx⟩:=hx (by rintro rfl;cases hlt);obtain⟨x0,x1⟩:=hx k hlt;have HH:=zb (fun h2=>Qm (c:=c) hlt Hn.out h2);have HT:=zb (fun h2=>qC (p:=fun p:Int×Int=>yO p.1 p.2 c.1 c.2) hlt Hn.out h2);clear hx hn;generalize A[k]=p at *;obtain⟨Y,hY⟩:∃Y,Y=wo.alloc (Obj.cells #[.int .i64 p.1,.int .i64 p.2] 25):=⟨_,rfl⟩;have hbY:Below wo.heap.size wo Y:=by rw[hY];exact(Below.refl _ _).alloc (Nat.le_refl _) _
    have YN:=zb (show Y.heap[wo.heap.size]?=some (Obj.cells #[.int .i64 p.1,.int .i64 p.2] 25) by rw[hY];exact heap_alloc_new _ _);have hbW:=hb.trans (hbY.mono hb.size);have HbW:=zb hbW;have Y1:=zb ((hbW.block _ hz0).trans R1.out);have HY:=zb hY;clear hY hbY hb;have y0:=cell_of_row Y _ 0 _ _ _ YN.out;have y1:=cell_of_row Y _ 1 _ _ _ YN.out;have z0:=cell_of_row Y _ 0 _ _ _ Y1.out;have z1:=cell_of_row Y _ 1 _ _ _ Y1.out;have HI:=zb (uf p.1 p.2 c.1 c.2 Y);cases hme:yO p.1 p.2 c.1 c.2 with
    |false=>have HE:=zb (HT.out hme);unfold jW at HI;rw[hme,if_neg (by decide)]at HI;clear hme;go_upto_region 4 with(fail);rw[<-HY.out];go_wp2_with fail;refine HI.out.mono ?_;rintro e w3 ⟨rfl,hb3⟩;have Hb3:=zb (HbW.out.trans ((hb3.alloc hb3.size (Obj.cells #[.int .i64 0,.int .i64 0] 25)).mono HbW.out.size));clear hb3 y0 y1 z0 z1;go_wp2;exact⟨⟨k+1,by omega,by go_num,HE.out,Hb3.out⟩,by simp[intOf];omega⟩
    |true=>
      have HF:=zb (HH.out hme);unfold jW at HI;rw[hme,if_pos rfl]at HI;clear hme;go_upto_region 4 with(fail);rw[<-HY.out];go_wp2_with fail;refine HI.out.mono ?_;rintro e w3 ⟨rfl,hb3⟩;obtain⟨q,hq⟩:∃q:Int×Int,q=(max p.1 c.1,min p.2 c.2):=⟨_,rfl⟩;have hq1:max p.1 c.1=q.1:=by rw[hq]
      have hq2:min p.2 c.2=q.2:=by rw[hq]
      have HG:=zb (Hsome.out q (by rw[hq];exact HF.out));rw[hq1,hq2];clear hq hq1 hq2 HF HI HH HT y0 y1 z0 z1 x0 x1;obtain⟨V,hV⟩:∃V,V=w3.alloc (Obj.cells #[.int .i64 q.1,.int .i64 q.2] 25):=⟨_,rfl⟩;have hbV:Below w3.heap.size w3 V:=by rw[hV];exact(Below.refl _ _).alloc (Nat.le_refl _) _
      have VN:=zb (show V.heap[w3.heap.size]?=some (Obj.cells #[.int .i64 q.1,.int .i64 q.2] 25) by rw[hV];exact heap_alloc_new _ _);have hbV2:=HbW.out.trans ((hb3.trans (hbV.mono hb3.size)).mono HbW.out.size);have HbV:=zb hbV2;have V0:=zb ((hbV2.block _ (by omega)).trans R0.out);have HV:=zb hV;clear hV hbV hbV2 hb3;have v0:=cell_of_row V _ 0 _ _ _ VN.out;have v2:=cell_of_row V _ 2 _ _ _ V0.out;have HAt:=zb (WZ _ P pr q.1 V (HP.out.below HbV.out) Hf.out);have HzB:=zb (Hzs.out pr q.1);have HlB:=zb (Hbl.out pr q.1);have hVn:w3.heap.size<V.heap.size:=(zu VN.out);go_upto_region 6 with(fail);rw[<-HV.out];go_wp2_with fail;refine HAt.out.mono ?_;intro e w4 hAt;obtain⟨nm,ct,fm,fe,pro,ba,bc,rfl,hbs,hbc1,hbc2,hb4⟩:=atBs hAt;generalize bsOf (atL P pr q.1)=bs at *;generalize (atL P pr q.1).isSome=som at *;have hbl:=HlB.out;unfold maxLen at hbc2;obtain⟨T,hT⟩:∃T,T=w4.alloc (Obj.cells #[.string nm,.int .i64 fm,.int .i64 fe,.string ct,.bool pro,.slice ba bs.length bc] 72):=⟨_,rfl⟩;have hbT:Below w4.heap.size w4 T:=by rw[hT];exact(Below.refl _ _).alloc (Nat.le_refl _) _
      have TN:=zb (show T.heap[w4.heap.size]?=some (Obj.cells #[.string nm,.int .i64 fm,.int .i64 fe,.string ct,.bool pro,.slice ba bs.length bc] 72) by rw[hT];exact heap_alloc_new _ _);have hbT2:=hb4.trans (hbT.mono hb4.size);have HBs:=zb (hbs.below hbT);have T0:=zb ((hbT2.block _ (by have:=HbV.out.size;omega)).trans V0.out);have TV:=zb ((hbT2.block _ hVn).trans VN.out);have HbT:=zb (HbV.out.trans (hbT2.mono HbV.out.size));have HT:=zb hT;have t5:=cell_of_row T _ 5 _ _ _ TN.out;clear hT hbT hbT2 hb4 hbs hAt v0 v2;go_upto_region 8 with(fail);rw[<-HT.out];go_wp2_with fail;clear t5;go_loopw [13,44] (fun vo i wr=>∃(j:Nat) (O:List (BuX×Int)),j<=bs.length/\i=.int .i64 j/\RowKit.Hid (plG O=vQ ac (sb,pr) q (bs.take j))/\O.length=j/\wr.ownsRow T.heap.size 122 13 vo O.length (O.flatMap qK)/\(∀x∈O,BuRd T x.1)/\Below T.heap.size T wr) (fun _ i _=>bs.length-(intOf i).toNat);case atStart=>exact⟨0,[],Nat.zero_le _,rfl,zb rfl,rfl,World.ownsRow_nil _ _ _ _,fun x hx=>(by cases hx),Below.refl _ _⟩
      case round=>
       obtain⟨wo2,rfl⟩:∃wo2:World,wo2=wr:=⟨_,rfl⟩;obtain⟨j,O,hj,rfl,HO,hOl,hown,hrd,hb⟩:=hrel;obtain⟨a,cp,rfl,hc1,hc2⟩:=zf hown;unfold maxLen at hc2;have Hown:=zb hown;have Hrd:=zb hrd;have Hbo:=zb hb;have hOl1:O.length<=100:=by omega
       have HOl:=zb hOl;clear hOl hrd;by_cases hjt:j<bs.length
       · have hj1:(j:Int)<(bs.length:Int):=by omega
         have hj0:(0:Int)<=(j:Int):=Int.natCast_nonneg _;have HG1:=zb (Z8 ac (sb,pr) q bs j hjt);have HZl:=zb (HzB.out _ (List.getElem_mem hjt));obtain⟨a3,c3,e3,-,-,hx⟩:=HBs.out;cases e3;obtain⟨bb2,o2,rfl,hB2,hx⟩:=hx (by rintro rfl;cases hjt);have hbd:=hx j hjt;clear hx;generalize bs[j]=bd at *;obtain⟨za,zc,z0,z1,hzs,z2,z3,z4,z5⟩:=UH hbd;have Hz:=zb hzs;have x0:=(hb.cell (p:=⟨bb2,_,none⟩) hB2).trans z0;have x1:=(hb.cell (p:=⟨bb2,_,none⟩) hB2).trans z1;have x2:=(hb.cell (p:=⟨bb2,_,none⟩) hB2).trans z2;have x3:=(hb.cell (p:=⟨bb2,_,none⟩) hB2).trans z3;have x4:=(hb.cell (p:=⟨bb2,_,none⟩) hB2).trans z4;have x5:=(hb.cell (p:=⟨bb2,_,none⟩) hB2).trans z5;have hB2:bb2<wo2.heap.size:=Nat.lt_of_lt_of_le hB2 hb.size;clear z0 z1 z2 z3 z4 z5 hzs hbd;obtain⟨X,hX⟩:∃X,X=wo2.alloc (Obj.cells #[.int .i64 bd.kd,.slice za bd.zs.length zc,.int .i64 bd.un,.int .i64 bd.ro,.int .i64 bd.pr,.bool bd.sh] 76):=⟨_,rfl⟩;have HX:=zb hX;have hbX:Below wo2.heap.size wo2 X:=by rw[hX];exact(Below.refl _ _).alloc (Nat.le_refl _) _
         have hbX2:=hb.trans (hbX.mono hb.size);have XN:=zb (show X.heap[wo2.heap.size]?=some (Obj.cells #[.int .i64 bd.kd,.slice za bd.zs.length zc,.int .i64 bd.un,.int .i64 bd.ro,.int .i64 bd.pr,.bool bd.sh] 76) by rw[hX];exact heap_alloc_new _ _);have X0:=zb ((hbX2.block _ (by have:=HbT.out.size;omega)).trans T0.out);have XV:=zb ((hbX2.block _ (zu TV.out)).trans TV.out);obtain⟨U,hU⟩:∃U,U=X.alloc (Obj.cells #[.int .i64 ac,.int .i64 sb,.string pr,.int .i64 (j:Int),.int .i64 bd.kd,.slice za bd.zs.length zc,.int .i64 q.1,.int .i64 q.2,.int .i64 bd.un,.int .i64 bd.un,.int .i64 bd.pr,.bool bd.sh] 60):=⟨_,rfl⟩;have hbXU:Below X.heap.size X U:=by rw[hU];exact(Below.refl _ _).alloc (Nat.le_refl _) _
         have U1:=zb (show U.heap[X.heap.size]?=some (Obj.cells #[.int .i64 ac,.int .i64 sb,.string pr,.int .i64 (j:Int),.int .i64 bd.kd,.slice za bd.zs.length zc,.int .i64 q.1,.int .i64 q.2,.int .i64 bd.un,.int .i64 bd.un,.int .i64 bd.pr,.bool bd.sh] 60) by rw[hU];exact heap_alloc_new _ _);have U0:=zb ((hbXU.block _ (zu XN.out)).trans XN.out);have hbU:=hbX.trans (hbXU.mono hbX.size);have HbU:=zb hbU;have hbU2:=hb.trans (hbU.mono hb.size);have HbU2:=zb hbU2;have HU:=zb hU;clear hU hX hbU hbU2 hbX hbX2 hbXU hb;go_upto_region 11 with(fail);rw[<-HX.out];clear x0 x1 x2 x3 x4 x5;have h0:=cell_of_row X _ 0 _ _ _ X0.out;have h1:=cell_of_row X _ 1 _ _ _ X0.out;have h2:=cell_of_row X _ 2 _ _ _ X0.out;have v0:=cell_of_row X _ 0 _ _ _ XV.out;have v1:=cell_of_row X _ 1 _ _ _ XV.out;have tQ:=fun j=>cell_of_row X _ j _ _ _ XN.out;have b0:=tQ 0;have b1:=tQ 1;have b2:=tQ 2;have b3:=tQ 3;have b4:=tQ 4;have b5:=tQ 5;clear tQ;go_upto_region 12 with(fail);rw[<-HU.out];clear h0 h1 h2 v0 v1 b0 b1 b2 b3 b4 b5;have tQ:=fun j=>cell_of_row U _ j _ _ _ U1.out;have m0:=tQ 0;have m1:=tQ 1;have m2:=tQ 2;have m3:=tQ 3;have m4:=tQ 4;have m5:=tQ 5;have m6:=tQ 6;have m7:=tQ 7;have m8:=tQ 8;have m9:=tQ 9;have m10:=tQ 10;have m11:=tQ 11;clear tQ;have n3:=cell_of_row U _ 3 _ _ _ U0.out;have HRX:=zb (zi.one (c:=qK) (sz:=13) U ((⟨buOf ac (sb,pr) q (j:Int) bd,za,bd.zs.length,zc⟩:BuX),bd.ro) 122 #[.int .i64 ac,.int .i64 sb,.string pr,.int .i64 (j:Int),.int .i64 bd.kd,.slice za bd.zs.length zc,.int .i64 q.1,.int .i64 q.2,.int .i64 bd.un,.int .i64 bd.un,.int .i64 bd.pr,.bool bd.sh,.int .i64 bd.ro] rfl);have HownU:=zb (zd Hown.out HbU.out);have hbs:=HbU2.out.size;go_wp2_with (at_builtin;refine GC rfl _ _ rfl T.heap.size (Nat.le_trans hbs (World.le_alloc _ _)) _ _ O [((⟨buOf ac (sb,pr) q (j:Int) bd,za,bd.zs.length,zc⟩:BuX),bd.ro)] rfl rfl (HownU.out.alloc _) HRX.out (by rw[List.length_singleton];omega) ?_);intro R hR v5 w5 own5 hg5;have Hg5:=zb hg5;have HRe:=zb (show plG R=vQ ac (sb,pr) q (bs.take (j+1)) by rw[hR.out,HG1.out,<-HO.out];unfold plG;rw[List.map_append];rfl);have HRl:=zb (show R.length=j+1 by rw[hR.out,List.length_append,HOl.out];rfl);have HR5:=zb (show ∀x∈R,BuRd T x.1 from fun x hx=>by
          rw[hR.out]at hx;rcases List.mem_append.1 hx with hx|hx;· exact Hrd.out x hx
          rw[List.mem_singleton.1 hx];exact⟨Hz.out,Hs.out,by show bd.zs.length*16<=_;have:=HZl.out;omega⟩);have Hb5:=zb ((HbU2.out.alloc hbs (Obj.cells #[.int .i64 ac,.int .i64 sb,.string pr,.int .i64 (j:Int),.int .i64 bd.kd,.slice za bd.zs.length zc,.int .i64 q.1,.int .i64 q.2,.int .i64 bd.un,.int .i64 bd.un,.int .i64 bd.pr,.bool bd.sh,.int .i64 bd.ro] 122)).grown Hg5.out (Nat.le_trans hbs (World.le_alloc _ _)) (fun g hg=>(zg HownU.out g hg).1));have Own5:=zb own5;clear own5 hg5 hR hbs m0;go_wp2;exact⟨⟨j+1,R,by omega,by go_num,HRe,HRl.out,Own5.out,HR5.out,Hb5.out⟩,by simp[intOf];omega⟩
       have HE:=zb (show plG O=GG by rw[HG.out,HO.out,List.take_of_length_le (by omega)]);have HbF:=zb (Hw0.out.trans ((HbT.out.trans (Hbo.out.mono HbT.out.size)).mono Hw0.out.size));have Own5:=zb (zx Hown.out (show w.heap.size<=T.heap.size by have:=HbT.out.size;omega));clear hown hb HG;go_wp2;go_ret;exact⟨_,_,O,rfl,Own5.out,HE.out,fun x hx=>(Hrd.out x hx).below Hbo.out,HbF.out⟩
  have HE:=zb (Hnone.out (Qn (by omega) Hn.out));have HbF:=zb (Hw0.out.trans (hb.mono Hw0.out.size));clear hb hn;go_wp2;go_ret;exact⟨none,0,[],rfl,World.ownsRow_nil _ _ _ _,HE.out.symm,fun x hx=>(by cases hx),HbF.out⟩
def jy (n:Int) (e:Ev):Bool:=decide (e.kd=3)&&decide (e.sb=n)
theorem Gb {n:Int} {e:Ev}:jy n e=true↔e.kd=3/\e.sb=n:=by unfold jy;rw[Bool.and_eq_true,decide_eq_true_eq,decide_eq_true_eq]
def qN (l:List Ev) (n:Int):Option Ev:=l.find? (jy n)
def yw (l:List Ev) (n:Int):Int:=match km l n with
 |some e=>e.vl
 |none=>0
def accL (o:Option Ev):Int:=match o with
 |some e=>e.ac
 |none=>0
theorem Yj (v:Value) (l:List Ev) (n:Int) (w:World) (h:vE w v l):
 Calls Tryz.prog 53 #[v,.int .i64 n] w fun e w'=>e=.returned (.int .i64 (yw l n))/\Below w.heap.size w w':=by
 have HE:=zb h.1;obtain⟨av,cap,rfl,hlc,hcm⟩:=zq h.1;unfold maxLen at hcm;clear h;go_enter Tryz.func53,Tryz.ntmps53;go_wp2_with fail;go_loopw [9] (fun i wr=>∃k:Nat,k<=l.length/\i=.int .i64 k/\(l.take k).any (qA n)=false/\Below w.heap.size w wr) (fun i _=>l.length-(intOf i).toNat);case atStart=>exact⟨0,Nat.zero_le _,rfl,rfl,Below.refl _ _⟩
 case round=>
  obtain⟨wo,rfl⟩:∃wo:World,wo=wr:=⟨_,rfl⟩;obtain⟨k,hk,rfl,hno,hb⟩:=hrel;have Hno:=zb hno;have Hb:=zb hb;clear hno;by_cases hlt:k<l.length
  · have hk1:(k:Int)<(l.length:Int):=by omega
    have hk0:(0:Int)<=(k:Int):=Int.natCast_nonneg _;obtain⟨a2,n2,e2,-,-,hx⟩:=HE.out.below hb;cases e2;obtain⟨bb,o,rfl,hB,hx⟩:=hx (by rintro rfl;cases hlt);have x0:wo.cell? ⟨bb,o+k*7,none⟩=some (.int .i64 (l[k]).tm):=hx k hlt 0 (by decide);have x1:wo.cell? ⟨bb,o+k*7+1,none⟩=some (.int .i64 (l[k]).kd):=hx k hlt 1 (by decide);have x2:wo.cell? ⟨bb,o+k*7+2,none⟩=some (.int .i64 (l[k]).ac):=hx k hlt 2 (by decide);have x3:wo.cell? ⟨bb,o+k*7+3,none⟩=some (.int .i64 (l[k]).sb):=hx k hlt 3 (by decide);have x4:wo.cell? ⟨bb,o+k*7+4,none⟩=some (.string (l[k]).nu):=hx k hlt 4 (by decide);have x5:wo.cell? ⟨bb,o+k*7+5,none⟩=some (.string (l[k]).nm):=hx k hlt 5 (by decide);have x6:wo.cell? ⟨bb,o+k*7+6,none⟩=some (.int .i64 (l[k]).vl):=hx k hlt 6 (by decide);have HH:=zb (fun hp=>uU (p:=qA n) hlt Hno.out hp);have HT:=zb (fun hp=>qC (p:=qA n) hlt Hno.out hp);clear hx hb;generalize l[k]=ev at *;obtain⟨Y,hY⟩:∃Y,Y=wo.alloc (Obj.cells #[.int .i64 ev.tm,.int .i64 ev.kd,.int .i64 ev.ac,.int .i64 ev.sb,.string ev.nu,.string ev.nm,.int .i64 ev.vl] 55):=⟨_,rfl⟩;have YN:=zb (show Y.heap[wo.heap.size]?=some (Obj.cells #[.int .i64 ev.tm,.int .i64 ev.kd,.int .i64 ev.ac,.int .i64 ev.sb,.string ev.nu,.string ev.nm,.int .i64 ev.vl] 55) by rw[hY];exact heap_alloc_new _ _);have HbY:=zb (show Below w.heap.size w Y by rw[hY];exact Hb.out.alloc Hb.out.size _);have HY:=zb hY;clear hY;go_upto_region 4 with(fail);rw[<-HY.out];clear x0 x1 x2 x3 x4 x5 x6;have tQ:=fun j=>cell_of_row Y _ j _ _ _ YN.out;have x0:=tQ 0;have x1:=tQ 1;have x2:=tQ 2;have x3:=tQ 3;have x4:=tQ 4;have x5:=tQ 5;have x6:=tQ 6;clear tQ;obtain⟨tm,kd,ac,sb,nu,nm,vl⟩:=ev;dsimp only at x0 x1 x2 x3 x4 x5 x6;cases hq1:(kd==1)with
    |false=>have HE2:=zb (HT.out (by unfold qA;rw[show decide (kd=1)=false from decide_eq_false (beq_eq_false_iff_ne.1 hq1)];rfl));clear HH HT;go_wp2;exact⟨⟨k+1,by omega,by go_num,HE2.out,HbY.out⟩,by simp[intOf];omega⟩
    |true=>
      cases hq2:(ac==n)with
      |false=>have HE2:=zb (HT.out (by unfold qA;rw[show decide (ac=n)=false from decide_eq_false (beq_eq_false_iff_ne.1 hq2),Bool.and_false]));clear HH HT;go_wp2;exact⟨⟨k+1,by omega,by go_num,HE2.out,HbY.out⟩,by simp[intOf];omega⟩
      |true=>have HE2:=zb (HH.out (by unfold qA;rw[show decide (kd=1)=true from decide_eq_true (beq_iff_eq.1 hq1),show decide (ac=n)=true from decide_eq_true (beq_iff_eq.1 hq2)];rfl));clear HH HT;go_wp2;go_ret;exact⟨zO (by unfold yw km;rw[HE2.out]),HbY.out⟩
  have HE2:=zb (Ya (p:=qA n) (by omega) Hno.out);go_wp2;go_ret;exact⟨zO (by unfold yw km;rw[HE2.out]),hb⟩
theorem UM (v:Value) (l:List Ev) (n:Int) (w:World) (h:vE w v l):
 Calls Tryz.prog 66 #[v,.int .i64 n] w fun e w'=>e=.returned (.tuple #[.int .i64 (accL (qN l n)),.bool (qN l n).isSome])/\Below w.heap.size w w':=by
 have HE:=zb h.1;obtain⟨av,cap,rfl,hlc,hcm⟩:=zq h.1;unfold maxLen at hcm;clear h;go_enter Tryz.func66,Tryz.ntmps66;go_wp2_with fail;go_loopw [10] (fun i wr=>∃k:Nat,k<=l.length/\i=.int .i64 k/\(l.take k).any (jy n)=false/\Below w.heap.size w wr) (fun i _=>l.length-(intOf i).toNat);case atStart=>exact⟨0,Nat.zero_le _,rfl,rfl,Below.refl _ _⟩
 case round=>
  obtain⟨wo,rfl⟩:∃wo:World,wo=wr:=⟨_,rfl⟩;obtain⟨k,hk,rfl,hno,hb⟩:=hrel;have Hno:=zb hno;have Hb:=zb hb;clear hno;by_cases hlt:k<l.length
  · have hk1:(k:Int)<(l.length:Int):=by omega
    have hk0:(0:Int)<=(k:Int):=Int.natCast_nonneg _;obtain⟨a2,n2,e2,-,-,hx⟩:=HE.out.below hb;cases e2;obtain⟨bb,o,rfl,hB,hx⟩:=hx (by rintro rfl;cases hlt);have x0:wo.cell? ⟨bb,o+k*7,none⟩=some (.int .i64 (l[k]).tm):=hx k hlt 0 (by decide);have x1:wo.cell? ⟨bb,o+k*7+1,none⟩=some (.int .i64 (l[k]).kd):=hx k hlt 1 (by decide);have x2:wo.cell? ⟨bb,o+k*7+2,none⟩=some (.int .i64 (l[k]).ac):=hx k hlt 2 (by decide);have x3:wo.cell? ⟨bb,o+k*7+3,none⟩=some (.int .i64 (l[k]).sb):=hx k hlt 3 (by decide);have x4:wo.cell? ⟨bb,o+k*7+4,none⟩=some (.string (l[k]).nu):=hx k hlt 4 (by decide);have x5:wo.cell? ⟨bb,o+k*7+5,none⟩=some (.string (l[k]).nm):=hx k hlt 5 (by decide);have x6:wo.cell? ⟨bb,o+k*7+6,none⟩=some (.int .i64 (l[k]).vl):=hx k hlt 6 (by decide);have HH:=zb (fun hp=>uU (p:=jy n) hlt Hno.out hp);have HT:=zb (fun hp=>qC (p:=jy n) hlt Hno.out hp);clear hx hb;generalize l[k]=ev at *;obtain⟨Y,hY⟩:∃Y,Y=wo.alloc (Obj.cells #[.int .i64 ev.tm,.int .i64 ev.kd,.int .i64 ev.ac,.int .i64 ev.sb,.string ev.nu,.string ev.nm,.int .i64 ev.vl] 55):=⟨_,rfl⟩;have YN:=zb (show Y.heap[wo.heap.size]?=some (Obj.cells #[.int .i64 ev.tm,.int .i64 ev.kd,.int .i64 ev.ac,.int .i64 ev.sb,.string ev.nu,.string ev.nm,.int .i64 ev.vl] 55) by rw[hY];exact heap_alloc_new _ _);have HbY:=zb (show Below w.heap.size w Y by rw[hY];exact Hb.out.alloc Hb.out.size _);have HY:=zb hY;clear hY;go_upto_region 4 with(fail);rw[<-HY.out];clear x0 x1 x2 x3 x4 x5 x6;have tQ:=fun j=>cell_of_row Y _ j _ _ _ YN.out;have x0:=tQ 0;have x1:=tQ 1;have x2:=tQ 2;have x3:=tQ 3;have x4:=tQ 4;have x5:=tQ 5;have x6:=tQ 6;clear tQ;obtain⟨tm,kd,ac,sb,nu,nm,vl⟩:=ev;dsimp only at x0 x1 x2 x3 x4 x5 x6;cases hq1:(kd==3)with
    |false=>have HE2:=zb (HT.out (by unfold jy;rw[show decide (kd=3)=false from decide_eq_false (beq_eq_false_iff_ne.1 hq1)];rfl));clear HH HT;go_wp2;exact⟨⟨k+1,by omega,by go_num,HE2.out,HbY.out⟩,by simp[intOf];omega⟩
    |true=>
      cases hq2:(sb==n)with
      |false=>have HE2:=zb (HT.out (by unfold jy;rw[show decide (sb=n)=false from decide_eq_false (beq_eq_false_iff_ne.1 hq2),Bool.and_false]));clear HH HT;go_wp2;exact⟨⟨k+1,by omega,by go_num,HE2.out,HbY.out⟩,by simp[intOf];omega⟩
      |true=>have HE2:=zb (HH.out (by unfold jy;rw[show decide (kd=3)=true from decide_eq_true (beq_iff_eq.1 hq1),show decide (sb=n)=true from decide_eq_true (beq_iff_eq.1 hq2)];rfl));clear HH HT;go_wp2;go_ret2;exact⟨by unfold qN;rw[HE2.out];rfl,HbY.out⟩
  have HE2:=zb (Ya (p:=jy n) (by omega) Hno.out);go_wp2;go_ret2;exact⟨by unfold qN;rw[HE2.out];rfl,hb⟩
theorem K1 (v:Value) (l:List Ev) (n:Int) (w:World) (h:vE w v l):
 Calls Tryz.prog 69 #[v,.int .i64 n] w fun e w'=>e=.returned (.tuple #[.int .i64 (accL (qN l n)),.bool (qN l n).isSome])/\Below w.heap.size w w':=by
 have HE:=zb h.1;obtain⟨av,cap,rfl,hlc,hcm⟩:=zq h.1;unfold maxLen at hcm;clear h;go_enter Tryz.func69,Tryz.ntmps69;go_wp2_with fail;go_loop [6] (fun i=>∃k:Nat,k<=l.length/\i=.int .i64 k/\(l.take k).any (jy n)=false) (fun i=>l.length-(intOf i).toNat);case atStart=>exact⟨0,Nat.zero_le _,rfl,rfl⟩
 case round=>
  obtain⟨k,hk,rfl,hno⟩:=hrel;have Hno:=zb hno;clear hno;by_cases hlt:k<l.length
  · have hk1:(k:Int)<(l.length:Int):=by omega
    have hk0:(0:Int)<=(k:Int):=Int.natCast_nonneg _;obtain⟨a2,n2,e2,-,-,hx⟩:=HE.out;cases e2;obtain⟨bb,o,rfl,hB,hx⟩:=hx (by rintro rfl;cases hlt);have x0:w.cell? ⟨bb,o+k*7,none⟩=some (.int .i64 (l[k]).tm):=hx k hlt 0 (by decide);have x1:w.cell? ⟨bb,o+k*7+1,none⟩=some (.int .i64 (l[k]).kd):=hx k hlt 1 (by decide);have x2:w.cell? ⟨bb,o+k*7+2,none⟩=some (.int .i64 (l[k]).ac):=hx k hlt 2 (by decide);have x3:w.cell? ⟨bb,o+k*7+3,none⟩=some (.int .i64 (l[k]).sb):=hx k hlt 3 (by decide);have x4:w.cell? ⟨bb,o+k*7+4,none⟩=some (.string (l[k]).nu):=hx k hlt 4 (by decide);have x5:w.cell? ⟨bb,o+k*7+5,none⟩=some (.string (l[k]).nm):=hx k hlt 5 (by decide);have x6:w.cell? ⟨bb,o+k*7+6,none⟩=some (.int .i64 (l[k]).vl):=hx k hlt 6 (by decide);have HH:=zb (fun hp=>uU (p:=jy n) hlt Hno.out hp);have HT:=zb (fun hp=>qC (p:=jy n) hlt Hno.out hp);clear hx;generalize l[k]=ev at *;obtain⟨tm,kd,ac,sb,nu,nm,vl⟩:=ev;dsimp only at x0 x1 x2 x3 x4 x5 x6;cases hq1:(kd==3)with
    |false=>have HE2:=zb (HT.out (by unfold jy;rw[show decide (kd=3)=false from decide_eq_false (beq_eq_false_iff_ne.1 hq1)];rfl));clear HH HT;go_wp2;exact⟨⟨k+1,by omega,by go_num,HE2.out⟩,by simp[intOf];omega⟩
    |true=>
      cases hq2:(sb==n)with
      |false=>have HE2:=zb (HT.out (by unfold jy;rw[show decide (sb=n)=false from decide_eq_false (beq_eq_false_iff_ne.1 hq2),Bool.and_false]));clear HH HT;go_wp2;exact⟨⟨k+1,by omega,by go_num,HE2.out⟩,by simp[intOf];omega⟩
      |true=>have HE2:=zb (HH.out (by unfold jy;rw[show decide (kd=3)=true from decide_eq_true (beq_iff_eq.1 hq1),show decide (sb=n)=true from decide_eq_true (beq_iff_eq.1 hq2)];rfl));clear HH HT;go_wp2;go_ret2;exact⟨by unfold qN;rw[HE2.out];rfl,Below.refl _ _⟩
  have HE2:=zb (Ya (p:=jy n) (by omega) Hno.out);go_wp2;go_ret2;exact⟨by unfold qN;rw[HE2.out];rfl,Below.refl _ _⟩
theorem N9 (b:Bk) (e:Ev):∀a∈(zM b e).accs,(∃a'∈b.accs,a'.id=a.id)\/(e.kd=1/\e.ac=a.id):=by
 intro a ha;by_cases h1:e.kd=1
 · rw[kJ h1]at ha
   rcases List.mem_append.1 ha with h|h;· exact Or.inl ⟨a,h,rfl⟩
   rw[List.mem_singleton]at h;subst h;exact Or.inr ⟨h1,rfl⟩
 by_cases h2:e.kd=2
 · rw[ud h2]at ha
   rcases kY ha with h|⟨y,hy,rfl⟩;· exact Or.inl ⟨a,h,rfl⟩
   exact Or.inl ⟨y,hy,rfl⟩
 rw[YI h1 h2]at ha;exact Or.inl ⟨a,ha,rfl⟩
theorem UO (l:List Ev):∀k,k<=l.length->∀a∈(zQ (l.take k)).accs,∃e∈l,e.kd=1/\e.ac=a.id
 |0,_=>fun a ha=>by rw[List.take_zero]at ha;cases ha
 |k+1,hk=>fun a ha=>by
   rw[vM l k (by omega)]at ha;rcases N9 _ _ a ha with⟨a',ha',e⟩|⟨h1,h2⟩;· rw[<-e];exact UO l k (by omega) a' ha'
   exact⟨l[k],List.getElem_mem _,h1,h2⟩
theorem Jx {l:List Ev} (hr:yp l) {e:Ev} (he:e∈l) (h1:vB e.kd=true):∃o,km l e.ac=some o/\1<=o.vl/\o.vl<=28:=by
 have hc:=xp hr;have hex:∃f∈l,f.kd=1/\f.ac=e.ac:=by
  obtain⟨i,hi,rfl⟩:=List.mem_iff_getElem.1 he;by_cases hk:(l[i]).kd=1;· exact⟨l[i],he,hk,rfl⟩
  obtain⟨k,hk,e1,-⟩:=(hr i hi).acc h1 hk;have hid:(((zQ (l.take i)).accs)[k]).id=(l[i]).ac:=by
   unfold qm at e1;rcases jk (fun a:Ac=>decide (a.id=(l[i]).ac)) (zQ (l.take i)).accs with⟨h,-⟩|⟨k',hk',e2,h,-⟩;· omega
   have:k=k':=by omega
   subst this;exact of_decide_eq_true h
  obtain⟨f,hf,f1,f2⟩:=UO l i (by omega) _ (List.getElem_mem hk);exact⟨f,hf,f1,f2.trans hid⟩
 obtain⟨f,hf,f1,f2⟩:=hex;have h:=W4 hc hf f1;have hb:=Wa hc hf f1;exact⟨f,by rw[<-f2];exact h,hb.2.2.1,hb.2.2.2⟩
theorem kl {l:List Ev} {n:Int} {e:Ev} (h:qN l n=some e):e∈l/\e.kd=3/\e.sb=n:=⟨List.mem_of_find?_eq_some h,Gb.1 (List.find?_some h)⟩
theorem GE {l:List Ev} (hr:yp l) {n:Int} (h:¬1<=n):yw l n=0:=by
 unfold yw;cases ho:km l n with
 |none=>rfl
 |some o=>obtain⟨h1,h2,h3⟩:=Zr ho;obtain⟨i,hi,rfl⟩:=List.mem_iff_getElem.1 h1;have:=((hr i hi).a1 (by rw[h2];rfl)).1;omega
noncomputable def YB (l:List Ev) (P:List Pd) (n:Int) (s:ByteArray) (t:Int):List (Bu×Int):=match qN l n with
 |none=>[]
 |some e=>if 0<=t/\t<12622780800 then yr P e.ac (n,s) (actL n s l) (cyc (yw l e.ac) (moOf (yw l e.ac) t)) else []
theorem UE {P:List Pd} (hf:FewP P) (s:ByteArray) (t:Int):(bsOf (atL P s t)).length<=100:=by
 cases ha:atL P s t with
 |none=>exact Nat.zero_le _
 |some x=>
   have hx:x∈P:=by unfold atL at ha;exact(List.mem_filter.1 (List.mem_of_getLast? ha)).1
   exact(hf.2 x hx).1
theorem Xn {P:List Pd} (hf:FewP P) (ac:Int) (h:Had) (A:List (Int×Int)) (c:Int×Int):(yr P ac h A c).length<=100:=by
 unfold yr;split;· exact Nat.zero_le _
 rw[Y9];exact UE hf _ _
theorem Wu (a t:Int) (w:World) (h:¬(1<=a/\a<=28/\0<=t/\t<12622780800)):
 Calls Tryz.prog 67 #[.int .i64 a,.int .i64 t] w fun e w'=>e=.returned (.agg #[.int .i64 0,.int .i64 0])/\Below w.heap.size w w':=by
 obtain⟨W,hW⟩:∃W,W=w.alloc (Obj.cells #[.int .i64 0,.int .i64 0] 25):=⟨_,rfl⟩;have HrW:=zb (show W.heap[w.heap.size]?=some (Obj.cells #[.int .i64 0,.int .i64 0] 25) by rw[hW];exact heap_alloc_new _ _);have hw0:Below w.heap.size w W:=by rw[hW];go_grown
 have HbF:=zb (zj hw0 (Nat.le_refl _) #[.int .i64 0,.int .i64 0]);have HW:=zb hW;clear hW hw0;have fin:True:=trivial;by_cases h1:a<1
 · clear h
   go_enter Tryz.func67,Tryz.ntmps67;go_upto_region 1 with(fail);rw[<-HW.out];go_upto_region 2 with(fail);have t0:=cell_setRow_same W w.heap.size 0 _ #[.int .i64 0,.int .i64 0] _ _ HrW.out;have t1:=cell_setRow_same W w.heap.size 1 _ #[.int .i64 0,.int .i64 0] _ _ HrW.out;repeat (first|refine wpList_store_row rfl _ _ _ rfl w.heap.size #[.int .i64 0,.int .i64 0] rfl rfl 25 _ HrW.out (by kernel_rfl) rfl (by simp[Value.oneCell']) ?_|go_step)
   refine bodyPost_ret (v:=.agg #[.int .i64 0,.int .i64 0]) (by simp[results,Tryz.results67,go_sem,t0,t1]) rfl ?_;exact⟨rfl,HbF.out⟩
 by_cases h2:28<a
 · clear h
   go_enter Tryz.func67,Tryz.ntmps67;go_upto_region 1 with(fail);rw[<-HW.out];go_upto_region 2 with(fail);have t0:=cell_setRow_same W w.heap.size 0 _ #[.int .i64 0,.int .i64 0] _ _ HrW.out;have t1:=cell_setRow_same W w.heap.size 1 _ #[.int .i64 0,.int .i64 0] _ _ HrW.out;repeat (first|refine wpList_store_row rfl _ _ _ rfl w.heap.size #[.int .i64 0,.int .i64 0] rfl rfl 25 _ HrW.out (by kernel_rfl) rfl (by simp[Value.oneCell']) ?_|go_step)
   refine bodyPost_ret (v:=.agg #[.int .i64 0,.int .i64 0]) (by simp[results,Tryz.results67,go_sem,t0,t1]) rfl ?_;exact⟨rfl,HbF.out⟩
 by_cases h3:t<0
 · clear h
   go_enter Tryz.func67,Tryz.ntmps67;go_upto_region 1 with(fail);rw[<-HW.out];go_upto_region 2 with(fail);have t0:=cell_setRow_same W w.heap.size 0 _ #[.int .i64 0,.int .i64 0] _ _ HrW.out;have t1:=cell_setRow_same W w.heap.size 1 _ #[.int .i64 0,.int .i64 0] _ _ HrW.out;repeat (first|refine wpList_store_row rfl _ _ _ rfl w.heap.size #[.int .i64 0,.int .i64 0] rfl rfl 25 _ HrW.out (by kernel_rfl) rfl (by simp[Value.oneCell']) ?_|go_step)
   refine bodyPost_ret (v:=.agg #[.int .i64 0,.int .i64 0]) (by simp[results,Tryz.results67,go_sem,t0,t1]) rfl ?_;exact⟨rfl,HbF.out⟩
 have h4:(12622780800:Int)<=t:=by omega
 clear h;go_enter Tryz.func67,Tryz.ntmps67;go_upto_region 1 with(fail);rw[<-HW.out];go_upto_region 2 with(fail);have t0:=cell_setRow_same W w.heap.size 0 _ #[.int .i64 0,.int .i64 0] _ _ HrW.out;have t1:=cell_setRow_same W w.heap.size 1 _ #[.int .i64 0,.int .i64 0] _ _ HrW.out;repeat (first|refine wpList_store_row rfl _ _ _ rfl w.heap.size #[.int .i64 0,.int .i64 0] rfl rfl 25 _ HrW.out (by kernel_rfl) rfl (by simp[Value.oneCell']) ?_|go_step)
 refine bodyPost_ret (v:=.agg #[.int .i64 0,.int .i64 0]) (by simp[results,Tryz.results67,go_sem,t0,t1]) rfl ?_;exact⟨rfl,HbF.out⟩
theorem EP (a:BuX):∀u∈zr a,u.oneCell'=true:=by intro u hu;unfold zr at hu;simp only[List.mem_cons,List.not_mem_nil,or_false]at hu;rcases hu with rfl|rfl|rfl|rfl|rfl|rfl|rfl|rfl|rfl|rfl|rfl|rfl<;>rfl
theorem Tryz.buInfo:(Tryz.prog.info? 60).map (fun i=>(i.zero,i.size,i.bytes))=some (some (.agg #[.int .i64 0,.int .i64 0,.string ⟨#[]⟩,.int .i64 0,.int .i64 0,.slice none 0 0,.int .i64 0,.int .i64 0,.int .i64 0,.int .i64 0,.int .i64 0,.bool false]),12,120):=by kernel_rfl
theorem vj {w:World} {ops:Array Oper} {rest:List Oper} {o:Oper} {a:Act} {Q:Exit->Act->World->Prop} (hgd:o.guard=none) (s x:Operand)
 (ho:o.op=.call { callee:=.builtin .append,args:=#[s,x],argTypes:=#[41,41] })
 (base:Nat) (hbase:base<=w.heap.size) (v vx:Value) (L X:List BuX) (hs:a.eval s=v) (hx:a.eval x=vx) (hown:w.ownsRow base 60 12 v L.length (L.flatMap zr)) (hX:zi zr 12 w vx X) (hlen:L.length+X.length<=1000000)
 (h:∀R:List BuX,RowKit.Hid (R=L++X)->∀v' w',w'.ownsRow base 60 12 v' R.length (R.flatMap zr)->w.grownBy w' v.ownBlock->wpList Tryz.prog ops Q rest (a.put o.dst v') w'):wpList Tryz.prog ops Q (o::rest) a w:=
 zX (c:=zr) (sz:=12) (fun _=>rfl) EP 60 41 _ 120 Tryz.underlying41 Tryz.buInfo rfl (by decide) hgd s x ho base hbase v vx L X hs hx hown hX (by unfold maxLen;omega) (by omega) h
def Vk (L:List Bu) (w:World) (e:Ending) (w':World):Prop:=∃(a:Option Addr) (c:Nat) (X:List BuX),e=.returned (.slice a X.length c)/\w'.ownsRow w.heap.size 60 12 (.slice a X.length c) X.length (X.flatMap zr)/\plB X=L/\(∀x∈X,BuRd w' x)/\Below w.heap.size w w'
theorem Vk.none {L:List Bu} {w w':World} (h:L=[]) (hb:Below w.heap.size w w'):Vk L w (.returned (.slice none 0 0)) w':=⟨_,_,[],rfl,World.ownsRow_nil _ _ _ _,h.symm,fun x hx=>(by cases hx),hb⟩
theorem Nz (X:List (BuX×Int)):(plG X).map (·.1)=plB (X.map (·.1)):=by unfold plG plB;rw[List.map_map,List.map_map];rfl
theorem J4 (ve vp:Value) (l:List Ev) (P:List Pd) (n:Int) (s:ByteArray) (t:Int) (w:World) (he:vE w ve l) (hp:qu w vp P) (hr:yp l) (hl:l.length<=1000) (hf:FewP P) (hs:s.size<=maxLen):
 Calls Tryz.prog 34 #[ve,vp,.int .i64 n,.string s,.int .i64 t] w (Vk ((YB l P n s t).map (·.1)) w):=by
 have HAd:=zb (UM ve l n w he);have HAn:=zb (fun a w1 hb=>Yj ve l a w1 (he.below hb));have HAc:=zb (fun w1 (hb:Below w.heap.size w w1)=>KD ve l n s w1 (he.below hb) hl);have HGr:=zb (fun ac pa pn pc A c w1 (hb:Below w.heap.size w w1) hA=>Va ac n s pa pn pc vp P A c w1 hA (hp.below hb) hf hs);have HOp:=zb (fun e (h:qN l n=some e)=>Jx hr (kl h).1 (by rw[(kl h).2.1];rfl));have HNo:=zb (GE hr (n:=0) (by decide));have HV:=zb (show YB l P n s t=match qN l n with
  |none=>[]
  |some e=>if 0<=t/\t<12622780800 then yr P e.ac (n,s) (actL n s l) (cyc (yw l e.ac) (moOf (yw l e.ac) t)) else [] from rfl);have HLen:=zb (show ∀ac A c,(yr P ac (n,s) A c).length<=100 from fun ac A c=>Xn hf ac (n,s) A c);have HAncS:=zb (show ∀a o,km l a=some o->yw l a=o.vl from fun a o h=>by unfold yw;rw[h]);obtain⟨av,cap,rfl,hlc,hcm⟩:=zq he.1;obtain⟨pav,pcap,rfl,-,-,-⟩:=hp;clear he hr hl hf hs hlc hcm;generalize YB l P n s t=GV at *;cases ho:qN l n with
 |none=>rw[ho]at HAd HV;have HE:=zb (show GV.map (·.1)=[] by rw[HV.out];rfl);clear ho HOp;go_enter Tryz.func34,Tryz.ntmps34;go_wp2_with fail;refine HAd.out.mono ?_;rintro e w2 ⟨rfl,hb2⟩;have HA2:=HAn.out 0 w2 hb2;rw[HNo.out]at HA2;have HA2:=zb HA2;have Hb2:=zb hb2;clear hb2;unfold accL;dsimp only[Option.isSome];go_wp2_with fail;refine HA2.out.mono ?_;rintro e w3 ⟨rfl,hb3⟩;have Hb3:=zb (Hb2.out.trans (hb3.mono Hb2.out.size));clear hb3;go_wp2_with fail;refine(Wu 0 t w3 (by omega)).mono ?_;rintro e w4 ⟨rfl,hb4⟩;have Hb4:=zb (Hb3.out.trans (hb4.mono Hb3.out.size));clear hb4;go_wp2;go_ret;exact Vk.none HE.out (Hb4.out.alloc Hb4.out.size _)
 |some oe=>
   rw[ho]at HAd HV;dsimp only at HV;obtain⟨o,hoo,v1,v2⟩:=HOp.out oe ho;have hav:=HAncS.out _ _ hoo;rw[hav]at HV;have HA1:=zb (fun w1 hb=>HAn.out oe.ac w1 hb);rw[hav]at HA1;clear ho HOp hoo hav;by_cases ht:0<=t/\t<12622780800
   · have HV:=zb (HV.out.trans (if_pos ht))
     have hmo:=jq (a:=o.vl) ht.1 ht.2;have HCa:=zb (fun w1=>Xy o.vl t _ w1 v1 v2 ht.1 ht.2 hmo);have hcv:ym (cyc o.vl (moOf o.vl t)).1 (cyc o.vl (moOf o.vl t)).2=true:=by have h1:=QA v1 v2 (m:=moOf o.vl t);have h2:=QA v1 v2 (m:=moOf o.vl t+1);have h3:=hmo.2.2;exact(zw _ _).2 ⟨h1.1,by unfold cyc;dsimp only;omega,h2.2⟩
     generalize cyc o.vl (moOf o.vl t)=c at *;have HVl:=fun w1=>jv c.1 c.2 w1;rw[hcv]at HVl;have HVl:=zb HVl;clear hcv hmo ht;generalize o.vl=ov at *;go_enter Tryz.func34,Tryz.ntmps34;go_wp2_with fail;refine HAd.out.mono ?_;rintro e w2 ⟨rfl,hb2⟩;have HA2:=zb (HA1.out w2 hb2);have Hb2:=zb hb2;clear hb2;unfold accL;dsimp only[Option.isSome];generalize oe.ac=ac at *;go_wp2_with fail;refine HA2.out.mono ?_;rintro e w3 ⟨rfl,hb3⟩;have Hb3:=zb (Hb2.out.trans (hb3.mono Hb2.out.size));clear hb3;go_wp2_with fail;refine(HCa.out w3).mono ?_;rintro e w4 ⟨rfl,hb4⟩;have Hb4:=zb (Hb3.out.trans (hb4.mono Hb3.out.size));obtain⟨Y,hY⟩:∃Y,Y=w4.alloc (Obj.cells #[.int .i64 c.1,.int .i64 c.2] 25):=⟨_,rfl⟩;have YN:=zb (show Y.heap[w4.heap.size]?=some (Obj.cells #[.int .i64 c.1,.int .i64 c.2] 25) by rw[hY];exact heap_alloc_new _ _);have HbY:=zb (show Below w.heap.size w Y by rw[hY];exact Hb4.out.alloc Hb4.out.size _);have HY:=zb hY;have hyn:w4.heap.size<Y.heap.size:=(zu YN.out);clear hb4 hY;go_upto_region 3 with(fail);rw[<-HY.out];have y0:=cell_of_row Y _ 0 _ _ _ YN.out;have y1:=cell_of_row Y _ 1 _ _ _ YN.out;go_wp2_with fail;refine(HVl.out Y).mono ?_;rintro e w5 ⟨rfl,hb5⟩;have N5:=zb ((hb5.block _ hyn).trans YN.out);have Hb5:=zb (HbY.out.trans (hb5.mono HbY.out.size));have hn5:w4.heap.size<w5.heap.size:=Nat.lt_of_lt_of_le hyn hb5.size;have HAc5:=zb (HAc.out w5 Hb5.out);clear hb5 y0 y1;go_wp2_with fail;refine HAc5.out.mono ?_;rintro e w6 ⟨vA,rfl,hpA,hb6⟩;have N6:=zb ((hb6.block _ hn5).trans N5.out);have Hb6:=zb (Hb5.out.trans (hb6.mono Hb5.out.size));have hn6:w4.heap.size<w6.heap.size:=Nat.lt_of_lt_of_le hn5 hb6.size;obtain⟨aA,cA,rfl,-,-⟩:=kR hpA;generalize actL n s l=A at *;obtain⟨Z,hZ⟩:∃Z,Z=w6.alloc (Obj.cells #[.int .i64 ac,.int .i64 n,.string s,.slice aA A.length cA] 118):=⟨_,rfl⟩;have hbZ:Below w6.heap.size w6 Z:=by rw[hZ];exact(Below.refl _ _).alloc (Nat.le_refl _) _
     have ZN:=zb (show Z.heap[w6.heap.size]?=some (Obj.cells #[.int .i64 ac,.int .i64 n,.string s,.slice aA A.length cA] 118) by rw[hZ];exact heap_alloc_new _ _);have Z6:=zb ((hbZ.block _ hn6).trans N6.out);have HbZ:=zb (Hb6.out.trans (hbZ.mono Hb6.out.size));have HG:=zb (HGr.out ac aA A.length cA A c Z HbZ.out (hpA.below hbZ));rw[<-HV.out]at HG;have HZ:=zb hZ;clear hZ hbZ hpA hb6;go_upto_region 7 with(fail);rw[<-HZ.out];have tQ:=fun j=>cell_of_row Z _ j _ _ _ ZN.out;have z0:=tQ 0;have z1:=tQ 1;have z2:=tQ 2;have z3:=tQ 3;clear tQ;have y0:=cell_of_row Z _ 0 _ _ _ Z6.out;have y1:=cell_of_row Z _ 1 _ _ _ Z6.out;go_wp2_with fail;refine HG.out.mono ?_;rintro e w7 ⟨aG,cG,X,rfl,ownX,hpX,hrX,hb7⟩;have Hb7:=zb (HbZ.out.trans (hb7.mono HbZ.out.size));have HpX:=zb hpX;have HrX:=zb hrX;have HX:=zb (show zi qK 13 w7 (.slice aG X.length cG) X from zi.own (fun _=>rfl) ownX);obtain⟨aG2,cG2,eG,hxc,hxm⟩:=zf ownX;cases eG;unfold maxLen at hxm;have Hxl:=zb (show X.length<=100 from by
      have h:=congrArg List.length hpX;rw[Ny,HV.out]at h;rw[h];exact HLen.out ac A c);have hxl:=Hxl.out;clear ownX hpX hrX hb7 z0 z1 z2 z3 y0 y1;go_wp2_with fail;go_loopw [15,49] (fun vo i wr=>∃(k:Nat) (O:List BuX),k<=X.length/\i=.int .i64 k/\RowKit.Hid (O=(X.take k).map (·.1))/\O.length=k/\wr.ownsRow w7.heap.size 60 12 vo O.length (O.flatMap zr)/\Below w7.heap.size w7 wr) (fun _ i _=>X.length-(intOf i).toNat);case atStart=>exact⟨0,[],Nat.zero_le _,rfl,zb rfl,rfl,World.ownsRow_nil _ _ _ _,Below.refl _ _⟩
     case round=>
      obtain⟨wo,rfl⟩:∃wo:World,wo=wr:=⟨_,rfl⟩;obtain⟨k,O,hk,rfl,HO,hOl,hown,hb⟩:=hrel;obtain⟨a,cp,rfl,hc1,hc2⟩:=zf hown;unfold maxLen at hc2;have Hown:=zb hown;have Hbo:=zb hb;have HOl:=zb hOl;have hOl1:O.length<=100:=by omega
      clear hOl;by_cases hlt:k<X.length
      · have hk1:(k:Int)<(X.length:Int):=by omega
        have hk0:(0:Int)<=(k:Int):=Int.natCast_nonneg _;have HTk:=zb (show(X.take (k+1)).map (·.1)=(X.take k).map (·.1)++[(X[k]).1] by rw[List.take_succ_eq_append_getElem hlt,List.map_append];rfl);obtain⟨a3,c3,e3,-,-,hx⟩:=HX.out.below hb;cases e3;obtain⟨bb,oo,rfl,hB,hx⟩:=hx (by rintro rfl;cases hlt);have hx:=hx k hlt;have x0:wo.cell? ⟨bb,oo+k*13,none⟩=some (.int .i64 (X[k]).1.b.ac):=hx 0 (by decide);have x1:wo.cell? ⟨bb,oo+k*13+1,none⟩=some (.int .i64 (X[k]).1.b.sb):=hx 1 (by decide);have x2:wo.cell? ⟨bb,oo+k*13+2,none⟩=some (.string (X[k]).1.b.pr):=hx 2 (by decide);have x3:wo.cell? ⟨bb,oo+k*13+3,none⟩=some (.int .i64 (X[k]).1.b.ix):=hx 3 (by decide);have x4:wo.cell? ⟨bb,oo+k*13+4,none⟩=some (.int .i64 (X[k]).1.b.kd):=hx 4 (by decide);have x5:wo.cell? ⟨bb,oo+k*13+5,none⟩=some (.slice (X[k]).1.za (X[k]).1.zn (X[k]).1.zc):=hx 5 (by decide);have x6:wo.cell? ⟨bb,oo+k*13+6,none⟩=some (.int .i64 (X[k]).1.b.f):=hx 6 (by decide);have x7:wo.cell? ⟨bb,oo+k*13+7,none⟩=some (.int .i64 (X[k]).1.b.t):=hx 7 (by decide);have x8:wo.cell? ⟨bb,oo+k*13+8,none⟩=some (.int .i64 (X[k]).1.b.un):=hx 8 (by decide);have x9:wo.cell? ⟨bb,oo+k*13+9,none⟩=some (.int .i64 (X[k]).1.b.lf):=hx 9 (by decide);have x10:wo.cell? ⟨bb,oo+k*13+10,none⟩=some (.int .i64 (X[k]).1.b.pt):=hx 10 (by decide);have x11:wo.cell? ⟨bb,oo+k*13+11,none⟩=some (.bool (X[k]).1.b.sh):=hx 11 (by decide);have x12:wo.cell? ⟨bb,oo+k*13+12,none⟩=some (.int .i64 (X[k]).2):=hx 12 (by decide);clear hx hown;generalize X[k]=g at *;obtain⟨U,hU⟩:∃U,U=wo.alloc (Obj.cells #[.int .i64 g.1.b.ac,.int .i64 g.1.b.sb,.string g.1.b.pr,.int .i64 g.1.b.ix,.int .i64 g.1.b.kd,.slice g.1.za g.1.zn g.1.zc,.int .i64 g.1.b.f,.int .i64 g.1.b.t,.int .i64 g.1.b.un,.int .i64 g.1.b.lf,.int .i64 g.1.b.pt,.bool g.1.b.sh,.int .i64 g.2] 122):=⟨_,rfl⟩;have hbU:Below wo.heap.size wo U:=by rw[hU];exact(Below.refl _ _).alloc (Nat.le_refl _) _
        have UN:=zb (show U.heap[wo.heap.size]?=some (Obj.cells #[.int .i64 g.1.b.ac,.int .i64 g.1.b.sb,.string g.1.b.pr,.int .i64 g.1.b.ix,.int .i64 g.1.b.kd,.slice g.1.za g.1.zn g.1.zc,.int .i64 g.1.b.f,.int .i64 g.1.b.t,.int .i64 g.1.b.un,.int .i64 g.1.b.lf,.int .i64 g.1.b.pt,.bool g.1.b.sh,.int .i64 g.2] 122) by rw[hU];exact heap_alloc_new _ _);have HbU:=zb hbU;have hbU2:=hb.trans (hbU.mono hb.size);have HbU2:=zb hbU2;have HU:=zb hU;clear hU hbU hbU2 hb;go_upto_region 10 with(fail);rw[<-HU.out];clear x0 x1 x2 x3 x4 x5 x6 x7 x8 x9 x10 x11 x12;have tQ:=fun j=>cell_of_row U _ j _ _ _ UN.out;have u0:=tQ 0;have u1:=tQ 1;have u2:=tQ 2;have u3:=tQ 3;have u4:=tQ 4;have u5:=tQ 5;have u6:=tQ 6;have u7:=tQ 7;have u8:=tQ 8;have u9:=tQ 9;have u10:=tQ 10;have u11:=tQ 11;clear tQ;have HRX:=zb (zi.one (c:=zr) (sz:=12) U g.1 60 #[.int .i64 g.1.b.ac,.int .i64 g.1.b.sb,.string g.1.b.pr,.int .i64 g.1.b.ix,.int .i64 g.1.b.kd,.slice g.1.za g.1.zn g.1.zc,.int .i64 g.1.b.f,.int .i64 g.1.b.t,.int .i64 g.1.b.un,.int .i64 g.1.b.lf,.int .i64 g.1.b.pt,.bool g.1.b.sh] rfl);have HownU:=zb (zd Hown.out HbU.out);have hbs:=HbU2.out.size;go_wp2_with (at_builtin;refine vj rfl _ _ rfl w7.heap.size (Nat.le_trans hbs (World.le_alloc _ _)) _ _ O [g.1] rfl rfl (HownU.out.alloc _) HRX.out (by rw[List.length_singleton];omega) ?_);intro R hR v5 w8 own5 hg5;have HRe:=zb (show R=(X.take (k+1)).map (·.1) by rw[hR.out,HTk.out,<-HO.out]);have HRl:=zb (show R.length=k+1 by rw[hR.out,List.length_append,HOl.out];rfl);have Hb5:=zb ((HbU2.out.alloc hbs (Obj.cells #[.int .i64 g.1.b.ac,.int .i64 g.1.b.sb,.string g.1.b.pr,.int .i64 g.1.b.ix,.int .i64 g.1.b.kd,.slice g.1.za g.1.zn g.1.zc,.int .i64 g.1.b.f,.int .i64 g.1.b.t,.int .i64 g.1.b.un,.int .i64 g.1.b.lf,.int .i64 g.1.b.pt,.bool g.1.b.sh] 60)).grown hg5 (Nat.le_trans hbs (World.le_alloc _ _)) (fun g hg=>(zg HownU.out g hg).1));have Own5:=zb own5;clear own5 hg5 hR hbs u0 u1 u2 u3 u4 u5 u6 u7 u8 u9 u10 u11;go_wp2;exact⟨⟨k+1,R,by omega,by go_num,HRe,HRl.out,Own5.out,Hb5.out⟩,by simp[intOf];omega⟩
      have HE:=zb (show O=X.map (·.1) by rw[HO.out,List.take_of_length_le (by omega)]);have HP:=zb (show plB O=GV.map (·.1) by rw[HE.out,<-Nz,HpX.out]);have HbF:=zb (Hb7.out.trans (Hbo.out.mono Hb7.out.size));have Own5:=zb (zx Hown.out (show w.heap.size<=w7.heap.size from Hb7.out.size));have HR:=zb (show ∀x∈O,BuRd wo x from fun x hx=>by
       rw[HE.out]at hx;obtain⟨g,hg,rfl⟩:=List.mem_map.1 hx;exact(HrX.out g hg).below Hbo.out);clear hown hb;go_wp2;go_ret;exact⟨_,_,O,rfl,Own5.out,HP.out,HR.out,HbF.out⟩
   have HE:=zb (show GV.map (·.1)=[] by rw[HV.out,if_neg ht];rfl);have HCa:=zb (fun w1=>Wu o.vl t w1 (fun h=>ht ⟨h.2.2.1,h.2.2.2⟩));have HVl:=fun w1=>jv 0 0 w1;rw[show ym 0 0=false from rfl]at HVl;have HVl:=zb HVl;clear ht;generalize o.vl=ov at *;go_enter Tryz.func34,Tryz.ntmps34;go_wp2_with fail;refine HAd.out.mono ?_;rintro e w2 ⟨rfl,hb2⟩;have HA2:=zb (HA1.out w2 hb2);have Hb2:=zb hb2;clear hb2;unfold accL;dsimp only[Option.isSome];generalize oe.ac=ac at *;go_wp2_with fail;refine HA2.out.mono ?_;rintro e w3 ⟨rfl,hb3⟩;have Hb3:=zb (Hb2.out.trans (hb3.mono Hb2.out.size));clear hb3;go_wp2_with fail;refine(HCa.out w3).mono ?_;rintro e w4 ⟨rfl,hb4⟩;have Hb4:=zb (Hb3.out.trans (hb4.mono Hb3.out.size));obtain⟨Y,hY⟩:∃Y,Y=w4.alloc (Obj.cells #[.int .i64 0,.int .i64 0] 25):=⟨_,rfl⟩;have YN:=zb (show Y.heap[w4.heap.size]?=some (Obj.cells #[.int .i64 0,.int .i64 0] 25) by rw[hY];exact heap_alloc_new _ _);have HbY:=zb (show Below w.heap.size w Y by rw[hY];exact Hb4.out.alloc Hb4.out.size _);have HY:=zb hY;clear hb4 hY;go_upto_region 3 with(fail);rw[<-HY.out];have y0:=cell_of_row Y _ 0 _ _ _ YN.out;have y1:=cell_of_row Y _ 1 _ _ _ YN.out;go_wp2_with fail;refine(HVl.out Y).mono ?_;rintro e w5 ⟨rfl,hb5⟩;have Hb5:=zb (HbY.out.trans (hb5.mono HbY.out.size));clear hb5 y0 y1;go_wp2;go_ret;exact Vk.none HE.out Hb5.out
def Qp (wa:World) (vA:Value) (k bb bo:Nat) (p1 p2 c1 c2 m1 m2:Int) (mb:Bool):Nat->(Nat->Value)->World->Prop
 |0,v,_=>v 0=vA
 |1,v,_=>v 1=.int .i64 k
 |2,v,_=>v 2=.pointer (some ⟨bb,bo,none⟩)
 |3,v,_=>v 3=.agg #[.int .i64 p1,.int .i64 p2]
 |4,v,_=>v 4=.agg #[.int .i64 c1,.int .i64 c2]
 |5,v,_=>v 5=.tuple #[.agg #[.int .i64 m1,.int .i64 m2],.bool mb]
 |6,v,_=>v 6=.tuple #[.agg #[.int .i64 m1,.int .i64 m2],.bool mb]
 |7,v,_=>v 7=.agg #[.int .i64 m1,.int .i64 m2]
 |8,v,_=>v 8=.bool mb
 |9,v,w=>∃g cs,v 9=.pointer (some ⟨g,0,none⟩)/\wa.heap.size<=g/\w.heap[g]?=some (Obj.cells cs 25)/\cs.size=2
 |10,v,w=>∃g,v 9=.pointer (some ⟨g,0,none⟩)/\wa.heap.size<=g/\w.heap[g]?=some (Obj.cells #[.int .i64 m1,.int .i64 m2] 25)
 |11,v,_=>v 11=.bool mb
 |_,_,_=>True
theorem Gk {wa:World} {vA:Value} {k bb bo:Nat} {p1 p2 c1 c2 m1 m2:Int} {mb:Bool}:∀(kQ mQ:Nat) (xQ:Value) (v:Nat->Value) (w:World),kQ≠mQ->(kQ=10->mQ≠9)->Qp wa vA k bb bo p1 p2 c1 c2 m1 m2 mb kQ v w->Qp wa vA k bb bo p1 p2 c1 c2 m1 m2 mb kQ (updV v mQ xQ) w
 |0,m,x,v,_,hk,_,h=>(show updV v m x 0=v 0 from if_neg hk).trans h
 |1,m,x,v,_,hk,_,h=>(show updV v m x 1=v 1 from if_neg hk).trans h
 |2,m,x,v,_,hk,_,h=>(show updV v m x 2=v 2 from if_neg hk).trans h
 |3,m,x,v,_,hk,_,h=>(show updV v m x 3=v 3 from if_neg hk).trans h
 |4,m,x,v,_,hk,_,h=>(show updV v m x 4=v 4 from if_neg hk).trans h
 |5,m,x,v,_,hk,_,h=>(show updV v m x 5=v 5 from if_neg hk).trans h
 |6,m,x,v,_,hk,_,h=>(show updV v m x 6=v 6 from if_neg hk).trans h
 |7,m,x,v,_,hk,_,h=>(show updV v m x 7=v 7 from if_neg hk).trans h
 |8,m,x,v,_,hk,_,h=>(show updV v m x 8=v 8 from if_neg hk).trans h
 |9,m,x,v,_,hk,_,⟨g,cs,h,h2⟩=>⟨g,cs,(show updV v m x 9=v 9 from if_neg hk).trans h,h2⟩
 |10,m,x,v,_,_,hd,⟨g,h,h2⟩=>⟨g,(show updV v m x 9=v 9 from if_neg (Ne.symm (hd rfl))).trans h,h2⟩
 |11,m,x,v,_,hk,_,h=>(show updV v m x 11=v 11 from if_neg hk).trans h
 |_+12,_,_,_,_,_,_,_=>trivial
theorem vK {wa:World} {vA:Value} {k bb bo:Nat} {p1 p2 c1 c2 m1 m2:Int} {mb:Bool} {w1 w2:World} (hb:Below w1.heap.size w1 w2):∀kQ v,Qp wa vA k bb bo p1 p2 c1 c2 m1 m2 mb kQ v w1->Qp wa vA k bb bo p1 p2 c1 c2 m1 m2 mb kQ v w2
 |0,_,h=>h
 |1,_,h=>h
 |2,_,h=>h
 |3,_,h=>h
 |4,_,h=>h
 |5,_,h=>h
 |6,_,h=>h
 |7,_,h=>h
 |8,_,h=>h
 |9,_,⟨g,cs,h1,h2,h3,h4⟩=>⟨g,cs,h1,h2,(hb.block _ (zu h3)).trans h3,h4⟩
 |10,_,⟨g,h1,h2,h3⟩=>⟨g,h1,h2,(hb.block _ (zu h3)).trans h3⟩
 |11,_,h=>h
 |_+12,_,_=>trivial
theorem Uq {wa:World} {vA:Value} {k bb bo:Nat} {p1 p2 c1 c2 m1 m2:Int} {mb:Bool} {w1 w2:World} {v:Nat->Value} {g:Nat} (e:v 9=.pointer (some ⟨g,0,none⟩)) (hg:wa.heap.size<=g) (h2:w2.heap[g]?=some (Obj.cells #[.int .i64 m1,.int .i64 m2] 25)):∀kQ,Qp wa vA k bb bo p1 p2 c1 c2 m1 m2 mb kQ v w1->Qp wa vA k bb bo p1 p2 c1 c2 m1 m2 mb kQ v w2
 |0,h=>h
 |1,h=>h
 |2,h=>h
 |3,h=>h
 |4,h=>h
 |5,h=>h
 |6,h=>h
 |7,h=>h
 |8,h=>h
 |9,_=>⟨g,_,e,hg,h2,rfl⟩
 |10,_=>⟨g,e,hg,h2⟩
 |11,h=>h
 |_+12,_=>trivial
theorem intersect_calls' (f t f2 t2:Int) (w:World):Calls Tryz.prog 30 #[.agg #[.int .i64 f,.int .i64 t],.agg #[.int .i64 f2,.int .i64 t2]] w fun e w'=>e=.returned (.tuple #[.agg #[.int .i64 (if yO f t f2 t2=true then ((max f f2,min t t2):Int×Int) else (0,0)).1,.int .i64 (if yO f t f2 t2=true then ((max f f2,min t t2):Int×Int) else (0,0)).2],.bool (yO f t f2 t2)])/\Below w.heap.size w w':=by
 have h:=Yt f t f2 t2 w;unfold jW at h;cases hm:yO f t f2 t2 with
 |false=>rw[hm]at h;exact h
 |true=>rw[hm]at h;exact h
def FiTo (o:Option (Int×Int)) (w:World) (e:Ending) (w':World):Prop:=∃q:Int×Int,e=.returned (.tuple #[.agg #[.int .i64 q.1,.int .i64 q.2],.bool o.isSome])/\(o=some q\/(o=none/\q=(0,0)))/\Below w.heap.size w w'
theorem Ul (v:Value) (A:List (Int×Int)) (c:Int×Int) (w:World) (hA:yd w v A):
 Calls Tryz.prog 98 #[v,.agg #[.int .i64 c.1,.int .i64 c.2]] w (FiTo (jc A c) w):=by
 obtain⟨W,hW,r0,r1,hw0,hz0⟩:=vd w (Obj.cells #[.int .i64 c.1,.int .i64 c.2] 25) (Obj.cells #[.int .i64 0,.int .i64 0] 25);have HA:=zb (hA.below hw0);have HW:=zb hW;have Hw0:=zb hw0;have R0:=zb r0;have R1:=zb r1;obtain⟨aA,cA,rfl,hlc,hm⟩:=kR hA;unfold maxLen at hm;clear hW r0 r1 hw0 hA;go_enter Tryz.func98,Tryz.ntmps98;go_upto_region 1 with(fail);rw[<-HW.out];go_wp2_with fail;go_loopw [6] (fun i wr=>∃k:Nat,k<=A.length/\i=.int .i64 k/\(A.take k).any (fun p=>yO p.1 p.2 c.1 c.2)=false/\Below W.heap.size W wr) (fun i _=>A.length-(intOf i).toNat);case atStart=>exact⟨0,Nat.zero_le _,rfl,rfl,Below.refl _ _⟩
 case round=>
  obtain⟨wo,rfl⟩:∃wo:World,wo=wr:=⟨_,rfl⟩;obtain⟨k,hk,rfl,hn,hb⟩:=hrel;have Hn:=zb hn;have Hb:=zb hb;by_cases hlt:k<A.length
  · have hk1:(k:Int)<(A.length:Int):=by omega
    have hk0:(0:Int)<=(k:Int):=Int.natCast_nonneg _;obtain⟨a3,c3,e3,-,-,hx⟩:=HA.out.below hb;cases e3;obtain⟨bb,o,rfl,hB,hx⟩:=hx (by rintro rfl;cases hlt);obtain⟨x0,x1⟩:=hx k hlt;have HH:=zb (fun h2=>Qm (c:=c) hlt Hn.out h2);have HT:=zb (fun h2=>qC (p:=fun p:Int×Int=>yO p.1 p.2 c.1 c.2) hlt Hn.out h2);clear hx hn;generalize A[k]=p at *;have hz1:=Hb.out.size;have HAw:=zb (show ∀Y,Below wo.heap.size wo Y->Y.cell? ⟨bb,o+k*2,none⟩=some (.int .i64 p.1)/\Y.cell? ⟨bb,o+k*2+1,none⟩=some (.int .i64 p.2)/\Y.cell? ⟨w.heap.size,0,none⟩=some (.int .i64 c.1)/\Y.cell? ⟨w.heap.size,1,none⟩=some (.int .i64 c.2)from fun Y hY=>by
     have q:=(hY.block w.heap.size (by omega)).trans ((hb.block w.heap.size (by omega)).trans R0.out);exact⟨(hY.cell (p:=⟨bb,_,none⟩) hB).trans x0,(hY.cell (p:=⟨bb,_,none⟩) hB).trans x1,cell_of_row Y _ 0 _ _ _ q,cell_of_row Y _ 1 _ _ _ q⟩);have HI:=zb (fun Y=>intersect_calls' p.1 p.2 c.1 c.2 Y);obtain⟨m,hm0⟩:∃m:Int×Int,m=if yO p.1 p.2 c.1 c.2=true then (max p.1 c.1,min p.2 c.2) else (0,0):=⟨_,rfl⟩
    have HM:=zb hm0;rw[<-hm0]at HI;clear hm0 hb x0 x1;obtain⟨mb,hmb⟩:∃mb,mb=yO p.1 p.2 c.1 c.2:=⟨_,rfl⟩;rw[<-hmb]at HI HH HT HM;clear hmb;go_upto_region 4 with(fail);refine ue (fun w'=>Below wo.heap.size wo w') (Qp wo (.slice (some ⟨bb,o,none⟩) A.length cA) k bb (o+k*2) p.1 p.2 c.1 c.2 m.1 m.2 mb) (by kernel_rfl) (by kernel_rfl) ?_ (Below.refl _ _).drew ?_ ?_
    · intro k1 i1 x v w' hki hd h
      refine Gk k1 i1 x v w' hki (fun e1 e2=>?_) h;subst e1;subst e2;exact absurd hd (ne_false_of_eq_true (by kernel_rfl))
    · generalize hfr:(fun v:Nat->Value=>_)=fr
      simp only[List.map_cons,List.map_nil,zC,List.setIfInBounds_toArray,List.set_cons_succ,List.set_cons_zero,Nat.zero_add,Nat.reduceAdd]at hfr;simp only[jD];refine⟨?_,?_,?_,?_,?_,?_,?_,?_,?_,?_,?_,?_,trivial⟩;iterate 2
       · intro v w5 hC hd K hK
         rw[<-hfr]at hK⊢;go_simp;exact hK _ _ hC (fun j1=>vK (Below.refl _ _) j1 _) rfl
      · intro v w5 hC hd K hK
        obtain⟨(e0:v 0=_),(e1:v 1=_),-⟩:=hd;rw[<-hfr]at hK⊢;simp only[e0,e1]at hK⊢;go_simp;exact hK _ _ hC (fun j1=>vK (Below.refl _ _) j1 _) rfl
      · intro v w5 hC hd K hK
        obtain⟨(e2:v 2=_),-⟩:=hd;obtain⟨p0,p1,p2,p3⟩:=HAw.out w5 hC;rw[<-hfr]at hK⊢;simp only[e2]at hK⊢;go_simp;exact hK _ _ hC (fun j1=>vK (Below.refl _ _) j1 _) rfl
      · intro v w5 hC hd K hK
        obtain⟨p0,p1,p2,p3⟩:=HAw.out w5 hC;rw[<-hfr]at hK⊢;go_simp;exact hK _ _ hC (fun j1=>vK (Below.refl _ _) j1 _) rfl
      · intro v w5 hC hd K hK
        obtain⟨(e3:v 3=_),(e4:v 4=_),-⟩:=hd;rw[<-hfr]at hK⊢;simp only[e3,e4]at hK⊢;go_simp;refine(HI.out w5).mono ?_;rintro e w6 ⟨rfl,hb4⟩;exact hK _ _ (hC.trans (hb4.mono hC.size)) (fun j1=>vK hb4 j1 _) rfl
      · intro v w5 hC hd K hK
        obtain⟨(e5:v 5=_),-⟩:=hd;rw[<-hfr]at hK⊢;simp only[e5]at hK⊢;go_simp;exact hK _ _ hC (fun j1=>vK (Below.refl _ _) j1 _) rfl
      iterate 2
       · intro v w5 hC hd K hK
         obtain⟨(e6:v 6=_),-⟩:=hd;rw[<-hfr]at hK⊢;simp only[e6]at hK⊢;go_simp;exact hK _ _ hC (fun j1=>vK (Below.refl _ _) j1 _) rfl
      · intro v w5 hC hd K hK
        rw[<-hfr]at hK⊢;go_simp;exact hK _ _ (hC.alloc hC.size _) (fun j1=>vK ((Below.refl _ _).alloc (Nat.le_refl _) _) j1 _) ⟨_,_,rfl,hC.size,heap_alloc_new _ _,rfl⟩
      · intro v w5 hC hd K hK
        obtain⟨f9,f7,-⟩:=hd;have e7:v 7=.agg #[.int .i64 m.1,.int .i64 m.2]:=f7;obtain⟨g,cs,ea,hg,hrow,hcs⟩:∃g cs,v 9=.pointer (some ⟨g,0,none⟩)/\wo.heap.size<=g/\w5.heap[g]?=some (Obj.cells cs 25)/\cs.size=2:=f9;refine wp_store_row _ _ _ rfl g #[.int .i64 m.1,.int .i64 m.2] (by rw[<-hfr];exact ea) (by rw[<-hfr];exact e7) 25 cs hrow (by kernel_rfl) hcs (by simp[Value.oneCell']) ?_;have hn:=setRow_heap w5 g cs #[.int .i64 m.1,.int .i64 m.2] _ _ hrow;exact hK undef _ (zj hC hg _) (Uq ea hg hn) ⟨g,ea,hg,hn⟩
      intro v w5 hC hd K hK;obtain⟨(e8:v 8=_),-⟩:=hd;rw[<-hfr]at hK⊢;simp only[e8]at hK⊢;go_simp;exact hK _ _ hC (fun j1=>vK (Below.refl _ _) j1 _) rfl
    intro v w5 hC hall;obtain⟨g,e9,hg,hrow⟩:∃g,v 9=.pointer (some ⟨g,0,none⟩)/\wo.heap.size<=g/\w5.heap[g]?=some (Obj.cells #[.int .i64 m.1,.int .i64 m.2] 25):=hall 10 (by decide);have e11:v 11=.bool mb:=hall 11 (by decide);have Hb5:=zb (Hb.out.trans (hC.mono Hb.out.size));have g0:=cell_of_row w5 _ 0 _ _ _ hrow;have g1:=cell_of_row w5 _ 1 _ _ _ hrow;have R15:=zb ((Hb5.out.block _ hz0).trans R1.out);simp only[List.map_cons,List.map_nil,zC,List.setIfInBounds_toArray,List.set_cons_succ,List.set_cons_zero,Nat.zero_add,Nat.reduceAdd];simp only[e9,e11];generalize v 0=y0,v 1=y1,v 2=y2,v 3=y3,v 4=y4,v 5=y5,v 6=y6,v 7=y7,v 8=y8,v 10=y10;clear e9 e11 hall hrow hC v HAw HI;cases mb with
    |false=>have HE:=zb (HT.out rfl);go_wp2;exact⟨⟨k+1,by omega,by go_num,HE.out,Hb5.out⟩,by simp[intOf];omega⟩
    |true=>
      have HE:=zb (HH.out rfl);have HM:=zb (show m=(max p.1 c.1,min p.2 c.2) by rw[HM.out,if_pos rfl]);have HbF:=zb (zj (Hw0.out.trans (Hb5.out.mono Hw0.out.size)) (show w.heap.size<=w.heap.size+1 by omega) #[.int .i64 m.1,.int .i64 m.2]);go_upto_region 6 with(fail);have t0:=cell_setRow_same w5 (w.heap.size+1) 0 _ #[.int .i64 m.1,.int .i64 m.2] _ _ R15.out;have t1:=cell_setRow_same w5 (w.heap.size+1) 1 _ #[.int .i64 m.1,.int .i64 m.2] _ _ R15.out;repeat (first|refine wpList_store_row rfl _ _ _ rfl (w.heap.size+1) #[.int .i64 m.1,.int .i64 m.2] rfl rfl 25 _ R15.out (by kernel_rfl) rfl (by simp[Value.oneCell']) ?_|go_step)
      refine bodyPost_ret (v:=.tuple #[.agg #[.int .i64 m.1,.int .i64 m.2],.bool true]) (by simp[results,Tryz.results98,go_sem,t0,t1]) rfl ?_;exact⟨m,by rw[HE.out];rfl,Or.inl (by rw[HE.out,HM.out]),HbF.out⟩
  have HE:=zb (Qn (by omega) Hn.out);have HbF:=zb (zj (Hw0.out.trans (hb.mono Hw0.out.size)) (show w.heap.size<=w.heap.size+1 by omega) #[.int .i64 0,.int .i64 0]);have R1':=zb ((hb.block _ hz0).trans R1.out);clear hb hn;go_upto_region 7 with(fail);have t0:=cell_setRow_same wo (w.heap.size+1) 0 _ #[.int .i64 0,.int .i64 0] _ _ R1'.out;have t1:=cell_setRow_same wo (w.heap.size+1) 1 _ #[.int .i64 0,.int .i64 0] _ _ R1'.out;repeat (first|refine wpList_store_row rfl _ _ _ rfl (w.heap.size+1) #[.int .i64 0,.int .i64 0] rfl rfl 25 _ R1'.out (by kernel_rfl) rfl (by simp[Value.oneCell']) ?_|go_step)
  refine bodyPost_ret (v:=.tuple #[.agg #[.int .i64 0,.int .i64 0],.bool false]) (by simp[results,Tryz.results98,go_sem,t0,t1]) rfl ?_;exact⟨(0,0),by rw[HE.out];rfl,Or.inr ⟨HE.out,rfl⟩,HbF.out⟩
def GsTo (G:List (Bu×Int)) (w:World) (e:Ending) (w':World):Prop:=∃(a:Option Addr) (c:Nat) (X:List BuX) (ba:Option Addr) (bc:Nat) (bs:List Bd),e=.returned (.tuple #[.slice a X.length c,.slice ba bs.length bc])/\w'.ownsRow w.heap.size 60 12 (.slice a X.length c) X.length (X.flatMap zr)/\plB X=G.map (·.1)/\(∀x∈X,BuO w.heap.size w' x)/\qR w' (.slice ba bs.length bc) bs/\bs.map (·.ro)=G.map (·.2)/\Below w.heap.size w w'
theorem GsTo.none {G:List (Bu×Int)} {w w':World} (h:G=[]) (hb:Below w.heap.size w w'):GsTo G w (.returned (.tuple #[.slice none 0 0,.slice none 0 0])) w':=
 ⟨_,_,[],_,_,[],rfl,World.ownsRow_nil _ _ _ _,by rw[h];rfl,fun x hx=>(by cases hx),Ww _,by rw[h];rfl,hb⟩
theorem QT {w:World} {o:Oper} {a:Act} {K:Act->World->Prop} {Q:Exit->Act->World->Prop} (hgd:o.guard=none) (s x:Operand)
 (ho:o.op=.call { callee:=.builtin .append,args:=#[s,x],argTypes:=#[58,58] })
 (base:Nat) (hbase:base<=w.heap.size) (av:Option Addr) (vx:Value) (X:List ByteArray) (hs:a.eval s=.slice av 0 0) (hx:a.eval x=vx) (hown:w.ownsRow base 9 1 (.slice av 0 0) 0 []) (hX:zi zm 1 w vx X) (hlen:X.length<=1000000)
 (h:∀v' w',w'.ownsRow base 9 1 v' X.length (X.flatMap zm)->Below w.heap.size w w'->K (a.put o.dst v') w'):o.wp Tryz.prog a w K Q:=
 zZ (c:=zm) (sz:=1) (fun _=>rfl) (fun a u hu=>by unfold zm at hu;rw[List.mem_singleton]at hu;subst hu;rfl) 9 58 _ 16 Tryz.underlying58 Tryz.stringInfo rfl (by decide) hgd s x ho base hbase av vx X hs hx hown hX (by unfold maxLen;omega) (by omega) h
theorem UD {w:World} {g:Nat} {cs:Array Value} {t:TypeId} {fr:Nat×Nat} (hg:w.heap[g]?=some (.cells cs t fr)) (x:BuX) (h:cs=(zr x).toArray):zi zr 12 w (.slice (some ⟨g,0,none⟩) 1 1) [x]:=Yu hg x h
def qVal (ac sb:Int) (pr:ByteArray) (j:Int) (bd:Bd) (q:Int×Int) (qa:Option Addr) (qc:Nat):Array Value:=#[.int .i64 ac,.int .i64 sb,.string pr,.int .i64 j,.int .i64 bd.kd,.slice qa bd.zs.length qc,.int .i64 q.1,.int .i64 q.2,.int .i64 bd.un,.int .i64 bd.un,.int .i64 bd.pr,.bool bd.sh]
def Es (wa:World) (vo:Value) (bh bb:Nat) (ac sb:Int) (pr:ByteArray) (j:Int) (bd:Bd) (za:Option Addr) (zc:Nat) (q:Int×Int):Nat->Value->World->Prop
 |0,v,_=>v=vo
 |1,v,_=>v=.pointer (some ⟨bh,0,none⟩)
 |2,v,_=>v=.int .i64 ac
 |3,v,_=>v=.pointer (some ⟨bh,1,none⟩)
 |4,v,_=>v=.int .i64 sb
 |5,v,_=>v=.pointer (some ⟨bh,2,none⟩)
 |6,v,_=>v=.string pr
 |7,v,_=>v=.int .i64 j
 |8,v,_=>v=.pointer (some ⟨bb,0,none⟩)
 |9,v,_=>v=.int .i64 bd.kd
 |10,v,w=>∃g,v=.slice (some ⟨g,0,none⟩) 0 0/\w.ownsRow wa.heap.size 9 1 (.slice (some ⟨g,0,none⟩) 0 0) 0 []
 |11,v,_=>v=.pointer (some ⟨bb,1,none⟩)
 |12,v,_=>v=.slice za bd.zs.length zc
 |13,v,w=>∃qa qc,v=.slice qa bd.zs.length qc/\w.ownsRow wa.heap.size 9 1 (.slice qa bd.zs.length qc) bd.zs.length (bd.zs.flatMap zm)
 |14,v,_=>v=.agg #[.int .i64 q.1,.int .i64 q.2]
 |15,v,_=>v=.pointer (some ⟨bb,2,none⟩)
 |16,v,_=>v=.int .i64 bd.un
 |17,v,_=>v=.pointer (some ⟨bb,2,none⟩)
 |18,v,_=>v=.int .i64 bd.un
 |19,v,_=>v=.pointer (some ⟨bb,4,none⟩)
 |20,v,_=>v=.int .i64 bd.pr
 |21,v,_=>v=.pointer (some ⟨bb,5,none⟩)
 |22,v,_=>v=.bool bd.sh
 |23,v,w=>∃qa qc,v=.agg (qVal ac sb pr j bd q qa qc)/\w.ownsRow wa.heap.size 9 1 (.slice qa bd.zs.length qc) bd.zs.length (bd.zs.flatMap zm)
 |24,v,w=>∃g qa qc,v=.slice (some ⟨g,0,none⟩) 1 1/\w.heap[g]?=some (Obj.cells (qVal ac sb pr j bd q qa qc) 60)/\w.ownsRow wa.heap.size 9 1 (.slice qa bd.zs.length qc) bd.zs.length (bd.zs.flatMap zm)
 |_,_,_=>True
theorem zJ {wa:World} {vo:Value} {bh bb:Nat} {ac sb:Int} {pr:ByteArray} {j:Int} {bd:Bd} {za:Option Addr} {zc:Nat} {q:Int×Int} {w1 w2:World} (hb:Below w1.heap.size w1 w2):∀kQ y,Es wa vo bh bb ac sb pr j bd za zc q kQ y w1->Es wa vo bh bb ac sb pr j bd za zc q kQ y w2
 |0,_,h=>h
 |1,_,h=>h
 |2,_,h=>h
 |3,_,h=>h
 |4,_,h=>h
 |5,_,h=>h
 |6,_,h=>h
 |7,_,h=>h
 |8,_,h=>h
 |9,_,h=>h
 |10,_,h=>(by obtain⟨g,h1,h2⟩:=h;exact⟨g,h1,zd h2 hb⟩)
 |11,_,h=>h
 |12,_,h=>h
 |13,_,h=>(by obtain⟨qa,qc,h1,h2⟩:=h;exact⟨qa,qc,h1,zd h2 hb⟩)
 |14,_,h=>h
 |15,_,h=>h
 |16,_,h=>h
 |17,_,h=>h
 |18,_,h=>h
 |19,_,h=>h
 |20,_,h=>h
 |21,_,h=>h
 |22,_,h=>h
 |23,_,h=>(by obtain⟨qa,qc,h1,h2⟩:=h;exact⟨qa,qc,h1,zd h2 hb⟩)
 |24,_,h=>(by obtain⟨g,qa,qc,h1,h3,h2⟩:=h;exact⟨g,qa,qc,h1,(hb.block _ (zu h3)).trans h3,zd h2 hb⟩)
 |_+25,_,_=>trivial
theorem Jh (ac sb:Int) (pr:ByteArray) (pa:Option Addr) (pn pc:Nat) (vp:Value) (P:List Pd) (A:List (Int×Int)) (c:Int×Int) (w:World) (hA:yd w (.slice pa pn pc) A) (hp:qu w vp P) (hf:FewP P) (hs:pr.size<=maxLen):
 Calls Tryz.prog 61 #[vp,.agg #[.int .i64 ac,.int .i64 sb,.string pr,.slice pa pn pc],.agg #[.int .i64 c.1,.int .i64 c.2]] w (GsTo (yr P ac (sb,pr) A c) w):=by
 obtain⟨W,hW,r0,r1,hw0,hz0⟩:=vd w (Obj.cells #[.int .i64 ac,.int .i64 sb,.string pr,.slice pa pn pc] 131) (Obj.cells #[.int .i64 c.1,.int .i64 c.2] 25);have HA:=zb (Ul _ A c W (hA.below hw0));have HP:=zb (hp.below hw0);have Hs:=zb hs;have Hzs:=zb (show ∀(s:ByteArray) (t:Int),∀b∈bsOf (atL P s t),b.zs.length<=100 from fun s t b hb=>by
  cases ha:atL P s t with
  |none=>rw[ha]at hb;cases hb
  |some x=>
    rw[ha]at hb;have hx:x∈P:=by unfold atL at ha;exact(List.mem_filter.1 (List.mem_of_getLast? ha)).1
    exact(hf.2 x hx).2 b hb);have Hbl:=zb (UE hf);have Hnone:=zb (show jc A c=none->yr P ac (sb,pr) A c=[] from fun h=>by unfold yr;rw[h]);have Hsome:=zb (show ∀q,jc A c=some q->yr P ac (sb,pr) A c=vQ ac (sb,pr) q (bsOf (atL P pr q.1))from fun q h=>by unfold yr;rw[h]);have HW:=zb hW;have Hw0:=zb hw0;have R0:=zb r0;have R1:=zb r1;obtain⟨pav,pcap,rfl,-,-,-⟩:=hp;have a3:=cell_of_row W _ 3 _ _ _ r0;have b0:=cell_of_row W _ 0 _ _ _ r1;have b1:=cell_of_row W _ 1 _ _ _ r1;clear hW r0 r1 hw0 hf hs hA;generalize yr P ac (sb,pr) A c=GG at *;generalize jc A c=fo at *;go_enter Tryz.func61,Tryz.ntmps61;go_upto_region 1 with(fail);rw[<-HW.out];go_wp2_with fail;refine HA.out.mono ?_;rintro e w3 ⟨q,rfl,hq,hb3⟩;have Hq:=zb hq;obtain⟨V,hV⟩:∃V,V=w3.alloc (Obj.cells #[.int .i64 q.1,.int .i64 q.2] 25):=⟨_,rfl⟩;have hbV:Below w3.heap.size w3 V:=by rw[hV];exact(Below.refl _ _).alloc (Nat.le_refl _) _
 have VN:=zb (show V.heap[w3.heap.size]?=some (Obj.cells #[.int .i64 q.1,.int .i64 q.2] 25) by rw[hV];exact heap_alloc_new _ _);have hbV2:=hb3.trans (hbV.mono hb3.size);have HbV:=zb hbV2;have V0:=zb ((hbV2.block _ (by omega)).trans R0.out);have HV:=zb hV;have hVn:w3.heap.size<V.heap.size:=(zu VN.out);clear hV hbV hbV2 hb3 hq a3 b0 b1;cases fo with
 |none=>have HE:=zb (Hnone.out rfl);dsimp only[Option.isSome];go_upto_region 2 with(fail);rw[<-HV.out];go_wp2;go_ret2;exact GsTo.none HE.out (Hw0.out.trans (HbV.out.mono Hw0.out.size))
 |some q'=>
   obtain rfl:q'=q:=by
    rcases Hq.out with h|⟨h,-⟩;· exact Option.some.inj h
    cases h
   have HG:=zb (Hsome.out _ rfl);dsimp only[Option.isSome];go_upto_region 2 with(fail);rw[<-HV.out];have v0:=cell_of_row V _ 0 _ _ _ VN.out;have v2:=cell_of_row V _ 2 _ _ _ V0.out;have HAt:=zb (WX _ P pr q'.1 V (HP.out.below HbV.out));have HzB:=zb (Hzs.out pr q'.1);have HlB:=zb (Hbl.out pr q'.1);go_wp2_with fail;refine HAt.out.mono ?_;intro e w4 hAt;obtain⟨nm,ct,fm,fe,pro,ba,bc,rfl,hbs,hbc1,hbc2,hb4⟩:=atBs hAt;have HSo:=zb (show(atL P pr q'.1).isSome=false->bsOf (atL P pr q'.1)=[] from fun h=>by
    cases ha:atL P pr q'.1 with
    |none=>rfl
    |some x=>rw[ha]at h;cases h);generalize bsOf (atL P pr q'.1)=bs at *;generalize (atL P pr q'.1).isSome=som at *;have hbl:=HlB.out;unfold maxLen at hbc2;obtain⟨T,hT⟩:∃T,T=w4.alloc (Obj.cells #[.string nm,.int .i64 fm,.int .i64 fe,.string ct,.bool pro,.slice ba bs.length bc] 72):=⟨_,rfl⟩;have hbT:Below w4.heap.size w4 T:=by rw[hT];exact(Below.refl _ _).alloc (Nat.le_refl _) _
   have TN:=zb (show T.heap[w4.heap.size]?=some (Obj.cells #[.string nm,.int .i64 fm,.int .i64 fe,.string ct,.bool pro,.slice ba bs.length bc] 72) by rw[hT];exact heap_alloc_new _ _);have hbT2:=hb4.trans (hbT.mono hb4.size);have HBs:=zb (hbs.below hbT);have T0:=zb ((hbT2.block _ (by have:=HbV.out.size;omega)).trans V0.out);have TV:=zb ((hbT2.block _ hVn).trans VN.out);have HbT:=zb (HbV.out.trans (hbT2.mono HbV.out.size));have HT:=zb hT;have htn:w4.heap.size<T.heap.size:=(zu TN.out);clear hT hbT hbT2 hb4 hbs hAt v0 v2;generalize q'=q at *;cases som with
   |false=>have HE:=zb (show GG=[] by rw[HG.out,HSo.out rfl];rfl);go_upto_region 5 with(fail);rw[<-HT.out];go_wp2;go_ret2;exact GsTo.none HE.out (Hw0.out.trans (HbT.out.mono Hw0.out.size))
   |true=>
     go_upto_region 5 with(fail);rw[<-HT.out];go_wp2_with fail;go_loopw [12,13] (fun vo i wr=>∃(k:Nat) (O:List BuX),k<=bs.length/\i=.int .i64 k/\RowKit.Hid (plB O=(vQ ac (sb,pr) q (bs.take k)).map (·.1))/\O.length=k/\wr.ownsRow T.heap.size 60 12 vo O.length (O.flatMap zr)/\(∀x∈O,BuO T.heap.size wr x)/\Below T.heap.size T wr) (fun _ i _=>bs.length-(intOf i).toNat);case atStart=>exact⟨0,[],Nat.zero_le _,rfl,zb rfl,rfl,World.ownsRow_nil _ _ _ _,fun x hx=>(by cases hx),Below.refl _ _⟩
     case round=>
      obtain⟨wo,rfl⟩:∃wo:World,wo=wr:=⟨_,rfl⟩;obtain⟨j,O,hj,rfl,HO,hOl,hown,hrd,hb⟩:=hrel;obtain⟨a,cp,rfl,hc1,hc2⟩:=zf hown;unfold maxLen at hc2;have Hown:=zb hown;have Hrd:=zb hrd;have Hbo:=zb hb;have hOl1:O.length<=100:=by omega
      have HOl:=zb hOl;have TNo:=zb ((hb.block _ htn).trans TN.out);have t5:=cell_of_row wo _ 5 _ _ _ TNo.out;clear hOl hrd;by_cases hjt:j<bs.length
      · have hj1:(j:Int)<(bs.length:Int):=by omega
        have hj0:(0:Int)<=(j:Int):=Int.natCast_nonneg _;have HG1:=zb (Z8 ac (sb,pr) q bs j hjt);have HZl:=zb (HzB.out _ (List.getElem_mem hjt));obtain⟨a3,c3,e3,-,-,hx⟩:=HBs.out;cases e3;obtain⟨bb2,o2,rfl,hB2,hx⟩:=hx (by rintro rfl;cases hjt);have hbd:=hx j hjt;clear hx;generalize bs[j]=bd at *;obtain⟨za,zc,z0,z1,hzs,z2,z3,z4,z5⟩:=UH hbd;have x0:=(hb.cell (p:=⟨bb2,_,none⟩) hB2).trans z0;have x1:=(hb.cell (p:=⟨bb2,_,none⟩) hB2).trans z1;have x2:=(hb.cell (p:=⟨bb2,_,none⟩) hB2).trans z2;have x3:=(hb.cell (p:=⟨bb2,_,none⟩) hB2).trans z3;have x4:=(hb.cell (p:=⟨bb2,_,none⟩) hB2).trans z4;have x5:=(hb.cell (p:=⟨bb2,_,none⟩) hB2).trans z5;have hB2:bb2<wo.heap.size:=Nat.lt_of_lt_of_le hB2 hb.size;obtain⟨X,hX⟩:∃X,X=wo.alloc (Obj.cells #[.int .i64 bd.kd,.slice za bd.zs.length zc,.int .i64 bd.un,.int .i64 bd.ro,.int .i64 bd.pr,.bool bd.sh] 76):=⟨_,rfl⟩;have HX:=zb hX;have hbX:Below wo.heap.size wo X:=by rw[hX];exact(Below.refl _ _).alloc (Nat.le_refl _) _
        have HbX:=zb hbX;have hbX2:=hb.trans (hbX.mono hb.size);have HbX2:=zb hbX2;have XN:=zb (show X.heap[wo.heap.size]?=some (Obj.cells #[.int .i64 bd.kd,.slice za bd.zs.length zc,.int .i64 bd.un,.int .i64 bd.ro,.int .i64 bd.pr,.bool bd.sh] 76) by rw[hX];exact heap_alloc_new _ _);have HAw:=zb (show ∀Y,Below X.heap.size X Y->(Y.cell? ⟨w.heap.size,0,none⟩=some (.int .i64 ac)/\Y.cell? ⟨w.heap.size,1,none⟩=some (.int .i64 sb)/\Y.cell? ⟨w.heap.size,2,none⟩=some (.string pr))/\(Y.cell? ⟨wo.heap.size,0,none⟩=some (.int .i64 bd.kd)/\Y.cell? ⟨wo.heap.size,1,none⟩=some (.slice za bd.zs.length zc)/\Y.cell? ⟨wo.heap.size,2,none⟩=some (.int .i64 bd.un)/\Y.cell? ⟨wo.heap.size,4,none⟩=some (.int .i64 bd.pr)/\Y.cell? ⟨wo.heap.size,5,none⟩=some (.bool bd.sh))/\(Y.cell? ⟨w3.heap.size,0,none⟩=some (.int .i64 q.1)/\Y.cell? ⟨w3.heap.size,1,none⟩=some (.int .i64 q.2))from fun Y hY=>by
         have hXY:=hbX2.trans (hY.mono hbX2.size);have q0:=(hXY.block w.heap.size (by have:=HbT.out.size;omega)).trans T0.out;have q1:=(hXY.block _ (zu TV.out)).trans TV.out;have q2:=(hY.block _ (zu XN.out)).trans XN.out;exact⟨⟨cell_of_row Y _ 0 _ _ _ q0,cell_of_row Y _ 1 _ _ _ q0,cell_of_row Y _ 2 _ _ _ q0⟩,⟨cell_of_row Y _ 0 _ _ _ q2,cell_of_row Y _ 1 _ _ _ q2,cell_of_row Y _ 2 _ _ _ q2,cell_of_row Y _ 4 _ _ _ q2,cell_of_row Y _ 5 _ _ _ q2⟩,cell_of_row Y _ 0 _ _ _ q1,cell_of_row Y _ 1 _ _ _ q1⟩);have HZr:=zb (show ∀Y,Below X.heap.size X Y->zi zm 1 Y (.slice za bd.zs.length zc) bd.zs from fun Y hY=>qw (hzs.below (hbX2.trans (hY.mono hbX2.size))));have Hzz:=zb (ZM hzs);clear hX hbX hbX2 hb z0 z1 z2 z3 z4 z5 hzs hbd;go_upto_region 12 with(fail);rw[<-HX.out];clear x0 x1 x2 x3 x4 x5 t5;refine yi 25 (fun w'=>Below X.heap.size X w') (Es X (.slice a O.length cp) w.heap.size wo.heap.size ac sb pr (j:Int) bd za zc q) (by kernel_rfl) (by kernel_rfl) (Below.refl _ _).drew ?_ ?_
        · generalize hfr:(fun v:Nat->Value=>_)=fr
          simp only[List.take_succ_cons,List.take_zero,List.map_cons,List.map_nil,zC,List.setIfInBounds_toArray,List.set_cons_succ,List.set_cons_zero,Nat.zero_add,Nat.reduceAdd]at hfr;simp only[List.take_succ_cons,List.take_zero,yR];refine⟨?_,?_,?_,?_,?_,?_,?_,?_,?_,?_,?_,?_,?_,?_,?_,?_,?_,?_,?_,?_,?_,?_,?_,?_,?_,trivial⟩;iterate 2
           · intro v w5 hC hd K hK
             rw[<-hfr]at hK⊢;go_simp;exact hK _ _ hC (zJ (Below.refl _ _)) rfl
          · intro v w5 hC hd K hK
            obtain⟨(e1:v 1=_),-⟩:=hd;obtain⟨⟨p0,p1,p2⟩,⟨k0,k1,k2,k4,k5⟩,m0,m1⟩:=HAw.out w5 hC;rw[<-hfr]at hK⊢;simp only[e1]at hK⊢;go_simp;exact hK _ _ hC (zJ (Below.refl _ _)) rfl
          · intro v w5 hC hd K hK
            rw[<-hfr]at hK⊢;go_simp;exact hK _ _ hC (zJ (Below.refl _ _)) rfl
          · intro v w5 hC hd K hK
            obtain⟨(e3:v 3=_),-⟩:=hd;obtain⟨⟨p0,p1,p2⟩,⟨k0,k1,k2,k4,k5⟩,m0,m1⟩:=HAw.out w5 hC;rw[<-hfr]at hK⊢;simp only[e3]at hK⊢;go_simp;exact hK _ _ hC (zJ (Below.refl _ _)) rfl
          · intro v w5 hC hd K hK
            rw[<-hfr]at hK⊢;go_simp;exact hK _ _ hC (zJ (Below.refl _ _)) rfl
          · intro v w5 hC hd K hK
            obtain⟨(e5:v 5=_),-⟩:=hd;obtain⟨⟨p0,p1,p2⟩,⟨k0,k1,k2,k4,k5⟩,m0,m1⟩:=HAw.out w5 hC;rw[<-hfr]at hK⊢;simp only[e5]at hK⊢;go_simp;exact hK _ _ hC (zJ (Below.refl _ _)) rfl
          iterate 2
           · intro v w5 hC hd K hK
             rw[<-hfr]at hK⊢;go_simp;exact hK _ _ hC (zJ (Below.refl _ _)) rfl
          · intro v w5 hC hd K hK
            obtain⟨(e8:v 8=_),-⟩:=hd;obtain⟨⟨p0,p1,p2⟩,⟨k0,k1,k2,k4,k5⟩,m0,m1⟩:=HAw.out w5 hC;rw[<-hfr]at hK⊢;simp only[e8]at hK⊢;go_simp;exact hK _ _ hC (zJ (Below.refl _ _)) rfl
          · intro v w5 hC hd K hK
            rw[<-hfr]at hK⊢;go_simp;exact hK _ _ (hC.alloc hC.size _) (zJ ((Below.refl _ _).alloc (Nat.le_refl _) _)) ⟨_,rfl,zx (vu _ _) hC.size⟩
          · intro v w5 hC hd K hK
            rw[<-hfr]at hK⊢;go_simp;exact hK _ _ hC (zJ (Below.refl _ _)) rfl
          · intro v w5 hC hd K hK
            obtain⟨(e11:v 11=_),-⟩:=hd;obtain⟨⟨p0,p1,p2⟩,⟨k0,k1,k2,k4,k5⟩,m0,m1⟩:=HAw.out w5 hC;rw[<-hfr]at hK⊢;simp only[e11]at hK⊢;go_simp;exact hK _ _ hC (zJ (Below.refl _ _)) rfl
          · intro v w5 hC hd K hK
            obtain⟨f10,(e12:v 12=_),-⟩:=hd;obtain⟨g,e10,hg⟩:∃g,v 10=.slice (some ⟨g,0,none⟩) 0 0/\w5.ownsRow X.heap.size 9 1 (.slice (some ⟨g,0,none⟩) 0 0) 0 []:=f10;rw[<-hfr]at hK⊢;simp only[e10,e12]at hK⊢;refine QT rfl _ _ rfl X.heap.size hC.size _ _ bd.zs rfl rfl hg (HZr.out w5 hC) (by have:=HZl.out;omega) ?_;intro v' w6 own6 hb6;obtain⟨qa,qc,rfl,-,-⟩:=zf own6;exact hK _ _ (hC.trans (hb6.mono hC.size)) (zJ hb6) ⟨qa,qc,rfl,own6⟩
          · intro v w5 hC hd K hK
            obtain⟨⟨p0,p1,p2⟩,⟨k0,k1,k2,k4,k5⟩,m0,m1⟩:=HAw.out w5 hC;rw[<-hfr]at hK⊢;go_simp;exact hK _ _ hC (zJ (Below.refl _ _)) rfl
          · intro v w5 hC hd K hK
            rw[<-hfr]at hK⊢;go_simp;exact hK _ _ hC (zJ (Below.refl _ _)) rfl
          · intro v w5 hC hd K hK
            obtain⟨(e15:v 15=_),-⟩:=hd;obtain⟨⟨p0,p1,p2⟩,⟨k0,k1,k2,k4,k5⟩,m0,m1⟩:=HAw.out w5 hC;rw[<-hfr]at hK⊢;simp only[e15]at hK⊢;go_simp;exact hK _ _ hC (zJ (Below.refl _ _)) rfl
          · intro v w5 hC hd K hK
            rw[<-hfr]at hK⊢;go_simp;exact hK _ _ hC (zJ (Below.refl _ _)) rfl
          · intro v w5 hC hd K hK
            obtain⟨(e17:v 17=_),-⟩:=hd;obtain⟨⟨p0,p1,p2⟩,⟨k0,k1,k2,k4,k5⟩,m0,m1⟩:=HAw.out w5 hC;rw[<-hfr]at hK⊢;simp only[e17]at hK⊢;go_simp;exact hK _ _ hC (zJ (Below.refl _ _)) rfl
          · intro v w5 hC hd K hK
            rw[<-hfr]at hK⊢;go_simp;exact hK _ _ hC (zJ (Below.refl _ _)) rfl
          · intro v w5 hC hd K hK
            obtain⟨(e19:v 19=_),-⟩:=hd;obtain⟨⟨p0,p1,p2⟩,⟨k0,k1,k2,k4,k5⟩,m0,m1⟩:=HAw.out w5 hC;rw[<-hfr]at hK⊢;simp only[e19]at hK⊢;go_simp;exact hK _ _ hC (zJ (Below.refl _ _)) rfl
          · intro v w5 hC hd K hK
            rw[<-hfr]at hK⊢;go_simp;exact hK _ _ hC (zJ (Below.refl _ _)) rfl
          · intro v w5 hC hd K hK
            obtain⟨(e21:v 21=_),-⟩:=hd;obtain⟨⟨p0,p1,p2⟩,⟨k0,k1,k2,k4,k5⟩,m0,m1⟩:=HAw.out w5 hC;rw[<-hfr]at hK⊢;simp only[e21]at hK⊢;go_simp;exact hK _ _ hC (zJ (Below.refl _ _)) rfl
          · intro v w5 hC hd K hK
            obtain⟨(e2:v 2=_),(e4:v 4=_),(e6:v 6=_),(e7:v 7=_),(e9:v 9=_),f13,(e14:v 14=_),(e16:v 16=_),(e18:v 18=_),(e20:v 20=_),(e22:v 22=_),-⟩:=hd;obtain⟨qa,qc,e13,hq⟩:∃qa qc,v 13=.slice qa bd.zs.length qc/\w5.ownsRow X.heap.size 9 1 (.slice qa bd.zs.length qc) bd.zs.length (bd.zs.flatMap zm):=f13;rw[<-hfr]at hK⊢;simp only[e2,e4,e6,e7,e9,e13,e14,e16,e18,e20,e22]at hK⊢;go_simp;exact hK _ _ hC (zJ (Below.refl _ _)) ⟨qa,qc,rfl,hq⟩
          intro v w5 hC hd K hK;obtain⟨f23,-⟩:=hd;obtain⟨qa,qc,e23,hq⟩:∃qa qc,v 23=.agg (qVal ac sb pr (j:Int) bd q qa qc)/\w5.ownsRow X.heap.size 9 1 (.slice qa bd.zs.length qc) bd.zs.length (bd.zs.flatMap zm):=f23;unfold qVal at e23;rw[<-hfr]at hK⊢;simp only[e23]at hK⊢;go_simp;exact hK _ _ (hC.alloc hC.size _) (zJ ((Below.refl _ _).alloc (Nat.le_refl _) _)) ⟨_,qa,qc,rfl,heap_alloc_new _ _,zd hq ((Below.refl _ _).alloc (Nat.le_refl _) _)⟩
        intro v w5 hC hall;obtain⟨g,qa,qc,e24,hg,hq⟩:∃g qa qc,v 24=.slice (some ⟨g,0,none⟩) 1 1/\w5.heap[g]?=some (Obj.cells (qVal ac sb pr (j:Int) bd q qa qc) 60)/\w5.ownsRow X.heap.size 9 1 (.slice qa bd.zs.length qc) bd.zs.length (bd.zs.flatMap zm):=hall.2;have e0:v 0=.slice a O.length cp:=hall.1.1.1.1.1.1.1.1.1.1.1.1.1.1.1.1.1.1.1.1.1.1.1.1.2;have HRX:=zb (UD hg (⟨buOf ac (sb,pr) q (j:Int) bd,qa,bd.zs.length,qc⟩:BuX) rfl);have HNo:=zb (show BuO X.heap.size w5 ⟨buOf ac (sb,pr) q (j:Int) bd,qa,bd.zs.length,qc⟩ from⟨hq,Hzz.out,Hs.out,by show bd.zs.length*16<=_;have:=HZl.out;omega⟩);have hXW:=HbX.out.trans (hC.mono HbX.out.size);have HownU:=zb (zd Hown.out hXW);have Hrd5:=zb (show ∀x∈O,BuO T.heap.size w5 x from fun x hx=>(Hrd.out x hx).below hXW);have Hb5:=zb (Hbo.out.trans (hXW.mono Hbo.out.size));have hbs:=Hb5.out.size;simp only[List.take_succ_cons,List.take_zero,List.map_cons,List.map_nil,zC,List.setIfInBounds_toArray,List.set_cons_succ,List.set_cons_zero,Nat.zero_add,Nat.reduceAdd,List.drop_succ_cons,List.drop_zero];simp only[e0,e24];generalize v 1=y1,v 2=y2,v 3=y3,v 4=y4,v 5=y5,v 6=y6,v 7=y7,v 8=y8,v 9=y9,v 10=y10,v 11=y11,v 12=y12,v 13=y13,v 14=y14,v 15=y15,v 16=y16,v 17=y17,v 18=y18,v 19=y19,v 20=y20,v 21=y21,v 22=y22,v 23=y23;clear e0 e24 hg hq hall hC v HAw HZr hXW;refine vj rfl _ _ rfl T.heap.size hbs _ _ O [(⟨buOf ac (sb,pr) q (j:Int) bd,qa,bd.zs.length,qc⟩:BuX)] rfl rfl HownU.out HRX.out (by rw[List.length_singleton];omega) ?_;intro R hR v7 w7 own7 hg7;have Hg7:=zb hg7;have HRe:=zb (show plB R=(vQ ac (sb,pr) q (bs.take (j+1))).map (·.1) by rw[hR.out,HG1.out,List.map_append,<-HO.out];unfold plB;rw[List.map_append];rfl);have HRl:=zb (show R.length=j+1 by rw[hR.out,List.length_append,HOl.out];rfl);have HR7:=zb (show ∀x∈R,BuO T.heap.size w7 x from fun x hx=>by
         rw[hR.out]at hx;rcases List.mem_append.1 hx with hx|hx;· exact(Hrd5.out x hx).growT HownU.out (by decide) Hg7.out
         rw[List.mem_singleton.1 hx];exact(HNo.out.growT HownU.out (by decide) Hg7.out).down (Nat.le_trans Hbo.out.size HbX.out.size));have Hb7:=zb (Hb5.out.grown Hg7.out hbs (fun g hg=>(zg HownU.out g hg).1));have Own7:=zb own7;clear own7 hg7 hR hbs;go_wp2;exact⟨⟨j+1,R,by omega,by go_num,HRe,HRl.out,Own7.out,HR7.out,Hb7.out⟩,by simp[intOf];omega⟩
      have HE:=zb (show plB O=GG.map (·.1) by rw[HG.out,HO.out,List.take_of_length_le (by omega)]);have HbF:=zb (Hw0.out.trans ((HbT.out.trans (Hbo.out.mono HbT.out.size)).mono Hw0.out.size));have hle:w.heap.size<=T.heap.size:=by have:=HbT.out.size;omega
      have Own5:=zb (zx Hown.out hle);have HRo:=zb (show bs.map (·.ro)=GG.map (·.2) by
       rw[HG.out];unfold vQ;apply List.ext_getElem?;intro i;simp only[List.getElem?_map,List.getElem?_mapIdx,Option.map_map]
       rfl);have HB5:=zb (HBs.out.below Hbo.out);clear hown hb HG;go_upto_region 13 with(fail);refine zl (Below.refl wo.heap.size wo) (by kernel_rfl) (by kernel_rfl) ?_;have f5:=fun p:ze wo=>ze.cell (a:=⟨w4.heap.size,5,none⟩) (zu TNo.out) t5 p;repeat (go_big_quiet_step (fail))
      refine wpQuiet_nil ?_;intro wz hw';have hYa:Below wo.heap.size wo wz:=by obtain⟨pq,rfl⟩:=hw';exact pq.h
      clear hw' f5;have hrr:=fun x hx=>(((Hrd.out x hx).below hYa).down hle);go_wp2;go_ret2;exact⟨_,_,O,_,_,bs,rfl,zd Own5.out hYa,HE.out,hrr,HB5.out.below hYa,HRo.out,HbF.out.trans (hYa.mono HbF.out.size)⟩
def kK (G:List (Bu×Int)) (B:Nat) (w:World) (y:Value):Prop:=∃(a:Option Addr) (c:Nat) (X:List BuX) (ba:Option Addr) (bc:Nat) (bs:List Bd),y=.tuple #[.slice a X.length c,.slice ba bs.length bc]/\w.ownsRow B 60 12 (.slice a X.length c) X.length (X.flatMap zr)/\plB X=G.map (·.1)/\(∀x∈X,BuO B w x)/\qR w (.slice ba bs.length bc) bs/\bs.map (·.ro)=G.map (·.2)
def uL (G:List (Bu×Int)) (B:Nat) (w:World) (y:Value):Prop:=∃(a:Option Addr) (c:Nat) (X:List BuX),y=.slice a X.length c/\w.ownsRow B 60 12 (.slice a X.length c) X.length (X.flatMap zr)/\plB X=G.map (·.1)/\(∀x∈X,BuO B w x)
def Nm (G:List (Bu×Int)) (w:World) (y:Value):Prop:=∃(ba:Option Addr) (bc:Nat) (bs:List Bd),y=.slice ba bs.length bc/\qR w (.slice ba bs.length bc) bs/\bs.map (·.ro)=G.map (·.2)
theorem kK.below {G:List (Bu×Int)} {B:Nat} {w w':World} {y:Value} (h:kK G B w y) (hb:Below w.heap.size w w'):kK G B w' y:=by obtain⟨a,c,X,ba,bc,bs,h1,h2,h3,h4,h5,h6⟩:=h;exact⟨a,c,X,ba,bc,bs,h1,zd h2 hb,h3,fun x hx=>(h4 x hx).below hb,h5.below hb,h6⟩
theorem uL.below {G:List (Bu×Int)} {B:Nat} {w w':World} {y:Value} (h:uL G B w y) (hb:Below w.heap.size w w'):uL G B w' y:=by obtain⟨a,c,X,h1,h2,h3,h4⟩:=h;exact⟨a,c,X,h1,zd h2 hb,h3,fun x hx=>(h4 x hx).below hb⟩
theorem Nm.below {G:List (Bu×Int)} {w w':World} {y:Value} (h:Nm G w y) (hb:Below w.heap.size w w'):Nm G w' y:=by obtain⟨ba,bc,bs,h1,h5,h6⟩:=h;exact⟨ba,bc,bs,h1,h5.below hb,h6⟩
theorem GsTo.val {G:List (Bu×Int)} {w w':World} {e:Ending} (h:GsTo G w e w') {B:Nat} (hB:B<=w.heap.size):∃y,e=.returned y/\kK G B w' y/\Below w.heap.size w w':=by obtain⟨a,c,X,ba,bc,bs,h1,h2,h3,h4,h5,h6,h7⟩:=h;exact⟨_,h1,⟨a,c,X,ba,bc,bs,rfl,zx h2 hB,h3,fun x hx=>(h4 x hx).down hB,h5,h6⟩,h7⟩
def QI (A:List (Int×Int)) (w:World) (y:Value):Prop:=∃(a:Option Addr) (c:Nat),y=.slice a A.length c/\yd w (.slice a A.length c) A
theorem QI.below {A:List (Int×Int)} {w w':World} {y:Value} (h:QI A w y) (hb:Below w.heap.size w w'):QI A w' y:=by obtain⟨a,c,h1,h2⟩:=h;exact⟨a,c,h1,h2.below hb⟩
def QL (ac sb:Int) (pr:ByteArray) (A:List (Int×Int)) (w:World) (y:Value):Prop:=∃(a:Option Addr) (c:Nat),y=.agg #[.int .i64 ac,.int .i64 sb,.string pr,.slice a A.length c]/\yd w (.slice a A.length c) A
theorem QL.below {ac sb:Int} {pr:ByteArray} {A:List (Int×Int)} {w w':World} {y:Value} (h:QL ac sb pr A w y) (hb:Below w.heap.size w w'):QL ac sb pr A w' y:=by obtain⟨a,c,h1,h2⟩:=h;exact⟨a,c,h1,h2.below hb⟩
def KV (wa:World) (ve vp:Value) (bo:Nat) (ac sb an t:Int) (pr:ByteArray) (A:List (Int×Int)) (c:Int×Int) (G:List (Bu×Int)):Nat->(Nat->Value)->World->Prop
 |0,v,_=>v 0=vp
 |1,v,_=>v 1=.int .i64 ac
 |2,v,_=>v 2=.int .i64 sb
 |3,v,_=>v 3=.string pr
 |4,v,_=>v 4=ve
 |5,v,_=>v 5=.int .i64 sb
 |6,v,_=>v 6=.string pr
 |7,v,w=>QI A w (v 7)
 |8,v,w=>QL ac sb pr A w (v 8)
 |9,v,_=>v 9=.pointer (some ⟨bo,6,none⟩)
 |10,v,_=>v 10=.int .i64 an
 |11,v,_=>v 11=.int .i64 t
 |12,v,_=>v 12=.agg #[.int .i64 c.1,.int .i64 c.2]
 |13,v,w=>kK G wa.heap.size w (v 13)
 |14,v,w=>kK G wa.heap.size w (v 14)
 |15,v,w=>uL G wa.heap.size w (v 15)
 |17,v,w=>uL G wa.heap.size w (v 17)
 |_,_,_=>True
theorem WU {wa:World} {ve vp:Value} {bo:Nat} {ac sb an t:Int} {pr:ByteArray} {A:List (Int×Int)} {c:Int×Int} {G:List (Bu×Int)}:∀(kQ mQ:Nat) (xQ:Value) (v:Nat->Value) (w:World),kQ≠mQ->KV wa ve vp bo ac sb an t pr A c G kQ v w->KV wa ve vp bo ac sb an t pr A c G kQ (updV v mQ xQ) w
 |0,m,x,v,_,hk,h=>(show updV v m x 0=v 0 from if_neg hk).trans h
 |1,m,x,v,_,hk,h=>(show updV v m x 1=v 1 from if_neg hk).trans h
 |2,m,x,v,_,hk,h=>(show updV v m x 2=v 2 from if_neg hk).trans h
 |3,m,x,v,_,hk,h=>(show updV v m x 3=v 3 from if_neg hk).trans h
 |4,m,x,v,_,hk,h=>(show updV v m x 4=v 4 from if_neg hk).trans h
 |5,m,x,v,_,hk,h=>(show updV v m x 5=v 5 from if_neg hk).trans h
 |6,m,x,v,_,hk,h=>(show updV v m x 6=v 6 from if_neg hk).trans h
 |7,m,x,v,w,hk,h=>by
   have e:updV v m x 7=v 7:=if_neg hk;show QI A w (updV v m x 7);rw[e];exact h
 |8,m,x,v,w,hk,h=>by
   have e:updV v m x 8=v 8:=if_neg hk;show QL ac sb pr A w (updV v m x 8);rw[e];exact h
 |9,m,x,v,_,hk,h=>(show updV v m x 9=v 9 from if_neg hk).trans h
 |10,m,x,v,_,hk,h=>(show updV v m x 10=v 10 from if_neg hk).trans h
 |11,m,x,v,_,hk,h=>(show updV v m x 11=v 11 from if_neg hk).trans h
 |12,m,x,v,_,hk,h=>(show updV v m x 12=v 12 from if_neg hk).trans h
 |13,m,x,v,w,hk,h=>by
   have e:updV v m x 13=v 13:=if_neg hk;show kK G wa.heap.size w (updV v m x 13);rw[e];exact h
 |14,m,x,v,w,hk,h=>by
   have e:updV v m x 14=v 14:=if_neg hk;show kK G wa.heap.size w (updV v m x 14);rw[e];exact h
 |15,m,x,v,w,hk,h=>by
   have e:updV v m x 15=v 15:=if_neg hk;show uL G wa.heap.size w (updV v m x 15);rw[e];exact h
 |16,_,_,_,_,_,_=>trivial
 |17,m,x,v,w,hk,h=>by
   have e:updV v m x 17=v 17:=if_neg hk;show uL G wa.heap.size w (updV v m x 17);rw[e];exact h
 |18,_,_,_,_,_,_=>trivial
 |_+19,_,_,_,_,_,_=>trivial
theorem yI {wa:World} {ve vp:Value} {bo:Nat} {ac sb an t:Int} {pr:ByteArray} {A:List (Int×Int)} {c:Int×Int} {G:List (Bu×Int)} {w1 w2:World} (hb:Below w1.heap.size w1 w2):∀kQ v,KV wa ve vp bo ac sb an t pr A c G kQ v w1->KV wa ve vp bo ac sb an t pr A c G kQ v w2
 |0,_,h=>h
 |1,_,h=>h
 |2,_,h=>h
 |3,_,h=>h
 |4,_,h=>h
 |5,_,h=>h
 |6,_,h=>h
 |7,_,h=>QI.below h hb
 |8,_,h=>QL.below h hb
 |9,_,h=>h
 |10,_,h=>h
 |11,_,h=>h
 |12,_,h=>h
 |13,_,h=>kK.below h hb
 |14,_,h=>kK.below h hb
 |15,_,h=>uL.below h hb
 |16,_,_=>trivial
 |17,_,h=>uL.below h hb
 |18,_,_=>trivial
 |_+19,_,_=>trivial
theorem J1 (ve vp:Value) (l:List Ev) (P:List Pd) (n:Int) (s:ByteArray) (t:Int) (w:World) (he:vE w ve l) (hp:qu w vp P) (hr:yp l) (hl:l.length<=1000) (hf:FewP P) (hs:s.size<=maxLen):
 Calls Tryz.prog 35 #[ve,vp,.int .i64 n,.string s,.int .i64 t] w (Vk ((YB l P n s t).map (·.1)) w):=by
 have HOwn:=zb (K1 ve l n w he);have HOpn:=zb (fun a w1 (hb:Below w.heap.size w w1)=>J7 ve l a w1 (he.below hb));have HAc:=zb (fun w1 (hb:Below w.heap.size w w1)=>Ja ve l n s w1 (he.below hb) hl hr);have HGr:=zb (fun ac pa pn pc A c w1 (hb:Below w.heap.size w w1) hA=>Jh ac n s pa pn pc vp P A c w1 hA (hp.below hb) hf hs);have HOp:=zb (fun e (h:qN l n=some e)=>Jx hr (kl h).1 (by rw[(kl h).2.1];rfl));have HV:=zb (show YB l P n s t=match qN l n with
  |none=>[]
  |some e=>if 0<=t/\t<12622780800 then yr P e.ac (n,s) (actL n s l) (cyc (yw l e.ac) (moOf (yw l e.ac) t)) else [] from rfl);have HAncS:=zb (show ∀a o,km l a=some o->yw l a=o.vl from fun a o h=>by unfold yw;rw[h]);obtain⟨av,cap,rfl,hlc,hcm⟩:=zq he.1;obtain⟨pav,pcap,rfl,-,-,-⟩:=hp;clear he hr hl hf hs hlc hcm;generalize YB l P n s t=GV at *;cases ho:qN l n with
 |none=>rw[ho]at HOwn HV;have HE:=zb (show GV.map (·.1)=[] by rw[HV.out];rfl);clear ho HOp;go_enter Tryz.func35,Tryz.ntmps35;go_wp2_with fail;refine HOwn.out.mono ?_;rintro e w2 ⟨rfl,hb2⟩;unfold accL;dsimp only[Option.isSome];go_wp2;go_ret;exact Vk.none HE.out hb2
 |some oe=>
   rw[ho]at HOwn HV;dsimp only at HV;obtain⟨o,hoo,v1,v2⟩:=HOp.out oe ho;have hav:=HAncS.out _ _ hoo;rw[hav]at HV;have HO1:=zb (fun w1 hb=>HOpn.out oe.ac w1 hb);rw[hoo]at HO1;clear ho HOp hoo hav;have HIn:=zb (fun w1=>Jg t w1);by_cases ht:0<=t/\t<12622780800
   · have HV:=zb (HV.out.trans (if_pos ht))
     have hmo:=jq (a:=o.vl) ht.1 ht.2;have HCa:=zb (fun w1=>J2 o.vl t _ w1 v1 v2 ht.1 ht.2 hmo);rw[show(decide (0<=t)&&decide (t<12622780800))=true by simp[ht.1,ht.2]]at HIn;generalize cyc o.vl (moOf o.vl t)=c at *;clear hmo ht;go_enter Tryz.func35,Tryz.ntmps35;go_wp2_with fail;refine HOwn.out.mono ?_;rintro e w2 ⟨rfl,hb2⟩;have HO2:=zb (HO1.out w2 hb2);have Hb2:=zb hb2;clear hb2;unfold accL;dsimp only[Option.isSome];generalize oe.ac=ac at *;go_wp2_with fail;refine(HIn.out w2).mono ?_;rintro e w2' ⟨rfl,rfl⟩;go_wp2_with fail;refine HO2.out.mono ?_;rintro e w3 ⟨rfl,hb3⟩;have Hb3:=zb (Hb2.out.trans (hb3.mono Hb2.out.size));clear hb3 HO2;dsimp only[Option.isSome,Option.getD];unfold yU;obtain⟨Y,hY⟩:∃Y,Y=w3.alloc (Obj.cells #[.int .i64 o.tm,.int .i64 o.kd,.int .i64 o.ac,.int .i64 o.sb,.string o.nu,.string o.nm,.int .i64 o.vl] 55):=⟨_,rfl⟩;have YN:=zb (show Y.heap[w3.heap.size]?=some (Obj.cells #[.int .i64 o.tm,.int .i64 o.kd,.int .i64 o.ac,.int .i64 o.sb,.string o.nu,.string o.nm,.int .i64 o.vl] 55) by rw[hY];exact heap_alloc_new _ _);have HbY:=zb (show Below w.heap.size w Y by rw[hY];exact Hb3.out.alloc Hb3.out.size _);have HY:=zb hY;have HAw:=zb (show ∀Z,Below Y.heap.size Y Z->Z.cell? ⟨w3.heap.size,6,none⟩=some (.int .i64 o.vl)from fun Z hZ=>cell_of_row Z _ 6 _ _ _ ((hZ.block _ (zu YN.out)).trans YN.out));clear hY;go_upto_region 5 with(fail);rw[<-HY.out];generalize o.vl=an at *;generalize actL n s l=A at *;refine ue (fun w'=>Below Y.heap.size Y w') (KV Y (.slice av l.length cap) (.slice pav P.length pcap) w3.heap.size ac n an t s A c GV) (by kernel_rfl) (by kernel_rfl) ?_ (Below.refl _ _).drew ?_ ?_;· exact fun k1 i1 x v w' hki _ h=>WU k1 i1 x v w' hki h
     · generalize hfr:(fun v:Nat->Value=>_)=fr
       simp only[List.map_cons,List.map_nil,zC,List.setIfInBounds_toArray,List.set_cons_succ,List.set_cons_zero,Nat.zero_add,Nat.reduceAdd]at hfr;simp only[jD];refine⟨?_,?_,?_,?_,?_,?_,?_,?_,?_,?_,?_,?_,?_,?_,?_,?_,?_,?_,?_,trivial⟩;iterate 7
        · intro v w5 hC hd K hK
          rw[<-hfr]at hK⊢;go_simp;exact hK _ _ hC (fun j1=>yI (Below.refl _ _) j1 _) rfl
       · intro v w5 hC hd K hK
         obtain⟨(e4:v 4=_),(e5:v 5=_),(e6:v 6=_),-⟩:=hd;rw[<-hfr]at hK⊢;simp only[e4,e5,e6]at hK⊢;go_simp;refine(HAc.out w5 (HbY.out.trans (hC.mono HbY.out.size))).mono ?_;rintro e w6 ⟨qa,qc,rfl,own4,hb4⟩;exact hK _ _ (hC.trans (hb4.mono hC.size)) (fun j1=>yI hb4 j1 _) ⟨qa,qc,rfl,yd.own own4⟩
       · intro v w5 hC hd K hK
         obtain⟨(e1:v 1=_),(e2:v 2=_),(e3:v 3=_),f7,-⟩:=hd;obtain⟨qa,qc,e7,hq⟩:QI A w5 (v 7):=f7;rw[<-hfr]at hK⊢;simp only[e1,e2,e3,e7]at hK⊢;go_simp;exact hK _ _ hC (fun j1=>yI (Below.refl _ _) j1 _) ⟨qa,qc,rfl,hq⟩
       · intro v w5 hC hd K hK
         rw[<-hfr]at hK⊢;go_simp;exact hK _ _ hC (fun j1=>yI (Below.refl _ _) j1 _) rfl
       · intro v w5 hC hd K hK
         obtain⟨(e9:v 9=_),-⟩:=hd;have p0:=HAw.out w5 hC;rw[<-hfr]at hK⊢;simp only[e9]at hK⊢;go_simp;exact hK _ _ hC (fun j1=>yI (Below.refl _ _) j1 _) rfl
       · intro v w5 hC hd K hK
         rw[<-hfr]at hK⊢;go_simp;exact hK _ _ hC (fun j1=>yI (Below.refl _ _) j1 _) rfl
       · intro v w5 hC hd K hK
         obtain⟨(e10:v 10=_),(e11:v 11=_),-⟩:=hd;rw[<-hfr]at hK⊢;simp only[e10,e11]at hK⊢;go_simp;refine(HCa.out w5).mono ?_;rintro e w6 ⟨rfl,hb4⟩;exact hK _ _ (hC.trans (hb4.mono hC.size)) (fun j1=>yI hb4 j1 _) rfl
       · intro v w5 hC hd K hK
         obtain⟨(e0:v 0=_),f8,(e12:v 12=_),-⟩:=hd;obtain⟨qa,qc,e8,hq⟩:QL ac n s A w5 (v 8):=f8;rw[<-hfr]at hK⊢;simp only[e0,e8,e12]at hK⊢;go_simp;have HG:=HGr.out ac qa A.length qc A c w5 (HbY.out.trans (hC.mono HbY.out.size)) hq;rw[<-HV.out]at HG;refine HG.mono ?_;intro e w6 hg;obtain⟨y,rfl,hy,hb4⟩:=hg.val hC.size;exact hK _ _ (hC.trans (hb4.mono hC.size)) (fun j1=>yI hb4 j1 _) hy
       · intro v w5 hC hd K hK
         have f13:kK GV Y.heap.size w5 (v 13):=hd.1;rw[<-hfr]at hK⊢;go_simp;exact hK _ _ hC (fun j1=>yI (Below.refl _ _) j1 _) f13
       · intro v w5 hC hd K hK
         obtain⟨a,cc,X,ba,bc,bs,e14,h2,h3,h4,h5,h6⟩:kK GV Y.heap.size w5 (v 14):=hd.1;rw[<-hfr]at hK⊢;simp only[e14]at hK⊢;go_simp;exact hK _ _ hC (fun j1=>yI (Below.refl _ _) j1 _) ⟨a,cc,X,rfl,h2,h3,h4⟩
       · intro v w5 hC hd K hK
         obtain⟨a,cc,X,ba,bc,bs,e14,h2,h3,h4,h5,h6⟩:kK GV Y.heap.size w5 (v 14):=hd.1;rw[<-hfr]at hK⊢;simp only[e14]at hK⊢;go_simp;exact hK _ _ hC (fun j1=>yI (Below.refl _ _) j1 _) trivial
       · intro v w5 hC hd K hK
         have f15:uL GV Y.heap.size w5 (v 15):=hd.1;rw[<-hfr]at hK⊢;go_simp;exact hK _ _ hC (fun j1=>yI (Below.refl _ _) j1 _) f15
       intro v w5 hC hd K hK;rw[<-hfr]at hK⊢;go_simp;exact hK _ _ hC (fun j1=>yI (Below.refl _ _) j1 _) trivial
     intro v w5 hC hall;obtain⟨a,cc,X,e17,h2,h3,h4⟩:uL GV Y.heap.size w5 (v 17):=hall 17 (by decide);have Hb5:=zb (HbY.out.trans (hC.mono HbY.out.size));have H2:=zb (zx h2 HbY.out.size);have H3:=zb h3;have H4:=zb h4;simp only[List.map_cons,List.map_nil,zC,List.setIfInBounds_toArray,List.set_cons_succ,List.set_cons_zero,Nat.zero_add,Nat.reduceAdd];simp only[e17];generalize v 0=y0,v 1=y1,v 2=y2,v 3=y3,v 4=y4,v 5=y5,v 6=y6,v 7=y7,v 8=y8,v 9=y9,v 10=y10,v 11=y11,v 12=y12,v 13=y13,v 14=y14,v 15=y15,v 16=y16,v 18=y18;clear e17 h2 h3 h4 hall hC v HAw;go_wp2;go_ret;exact⟨_,_,X,rfl,H2.out,H3.out,fun x hx=>(H4.out x hx).rd,Hb5.out⟩
   have HE:=zb (show GV.map (·.1)=[] by rw[HV.out,if_neg ht];rfl);rw[show(decide (0<=t)&&decide (t<12622780800))=false by
    by_cases h1:0<=t;· rw[decide_eq_false (show ¬t<12622780800 from fun h=>ht ⟨h1,h⟩),Bool.and_false]
    rw[decide_eq_false h1];rfl]at HIn;clear ht;go_enter Tryz.func35,Tryz.ntmps35;go_wp2_with fail;refine HOwn.out.mono ?_;rintro e w2 ⟨rfl,hb2⟩;have Hb2:=zb hb2;unfold accL;dsimp only[Option.isSome];go_wp2_with fail;refine(HIn.out w2).mono ?_;rintro e w3 ⟨rfl,rfl⟩;go_wp2;go_ret;exact Vk.none HE.out Hb2.out
theorem YH (b o j:Nat):(⟨b,o,none⟩:Addr).add j=⟨b,o+j,none⟩:=by unfold Addr.add;split<;>simp_all
theorem Xg {α β:Type} (f:α->β) (p:β->Bool):∀l:List α,kT p (l.map f)=kT (fun x=>p (f x)) l
 | []=>rfl
 |x::r=>by
   unfold kT;rw[List.map_cons,List.takeWhile_cons,List.takeWhile_cons];split;· rw[List.length_cons,List.length_cons];exact congrArg (·+1) (Xg f p r)
   rfl
theorem Vp (x:BuX) (X:List BuX):plB (insT (fun y:BuX=>yB y.b x.b) x X)=insB x.b (plB X):=by unfold insB insT plB;rw[Xg];simp only[List.map_append,List.map_take,List.map_drop,List.map_cons,List.map_nil]
def WiTo (R:List BuX) (w:World) (e:Ending) (w':World):Prop:=∃(a:Option Addr) (c:Nat),e=.returned (.slice a R.length c)/\w'.ownsRow w.heap.size 60 12 (.slice a R.length c) R.length (R.flatMap zr)/\Below w.heap.size w w'
theorem WiTo.of {R Q:List BuX} {w w':World} {a:Option Addr} {c:Nat} (h:w'.ownsRow w.heap.size 60 12 (.slice a R.length c) R.length (R.flatMap zr)) (hR:R=Q) (hb:Below w.heap.size w w'):WiTo Q w (.returned (.slice a R.length c)) w':=by subst hR;exact⟨a,c,rfl,h,hb⟩
def WB (base:Nat) (Q:List Bu) (w:World) (y:Value):Prop:=∃(a:Option Addr) (c:Nat) (R:List BuX),y=.slice a R.length c/\w.ownsRow base 60 12 (.slice a R.length c) R.length (R.flatMap zr)/\plB R=Q/\∀x∈R,BuO base w x
theorem WB.below {base:Nat} {Q:List Bu} {w w':World} {y:Value} (h:WB base Q w y) (hb:Below w.heap.size w w'):WB base Q w' y:=by obtain⟨a,c,R,h1,h2,h3,h4⟩:=h;exact⟨a,c,R,h1,zd h2 hb,h3,fun x hx=>(h4 x hx).below hb⟩
def Nk (base:Nat) (b:Bu) (w:World) (y:Value):Prop:=∃z:BuX,y=vi z/\z.b=b/\BuO base w z
theorem Nk.below {base:Nat} {b:Bu} {w w':World} {y:Value} (h:Nk base b w y) (hb:Below w.heap.size w w'):Nk base b w' y:=by obtain⟨z,h1,h2,h3⟩:=h;exact⟨z,h1,h2,h3.below hb⟩
theorem Um (p:Bu->Bool) (X:List BuX):(plB X).find? p=(X.find? (fun x:BuX=>p x.b)).map (·.b):=by unfold plB;rw[List.find?_map];rfl
structure HoX where
 h:Had
 pa:Option Addr
 pn:Nat
 pc:Nat
def yK (ac:Int) (x:HoX):List Value:=[.int .i64 ac,.int .i64 x.h.1,.string x.h.2,.slice x.pa x.pn x.pc]
theorem xN (ac:Int) (x:HoX):∀u∈yK ac x,u.oneCell'=true:=by intro u hu;unfold yK at hu;simp only[List.mem_cons,List.not_mem_nil,or_false]at hu;rcases hu with rfl|rfl|rfl|rfl<;>rfl
def HoRd (l:List Ev) (w:World) (x:HoX):Prop:=yd w (.slice x.pa x.pn x.pc) (actL x.h.1 x.h.2 l)/\x.h.2.size<=maxLen
theorem HoRd.below {l:List Ev} {w w':World} {x:HoX} (h:HoRd l w x) (hb:Below w.heap.size w w'):HoRd l w' x:=⟨h.1.below hb,h.2⟩
def HoO (l:List Ev) (base:Nat) (w:World) (x:HoX):Prop:=w.ownsRow base 25 2 (.slice x.pa x.pn x.pc) (actL x.h.1 x.h.2 l).length ((actL x.h.1 x.h.2 l).flatMap zh)/\x.h.2.size<=maxLen
theorem HoO.below {l:List Ev} {base:Nat} {w w':World} {x:HoX} (h:HoO l base w x) (hb:Below w.heap.size w w'):HoO l base w' x:=⟨zd h.1 hb,h.2⟩
theorem HoO.rd {l:List Ev} {base:Nat} {w:World} {x:HoX} (h:HoO l base w x):HoRd l w x:=⟨yd.own h.1,h.2⟩
theorem HoO.growT {l:List Ev} {base base':Nat} {w w':World} {x:HoX} (h:HoO l base w x) {v:Value} {e:TypeId} {sz n:Nat} {xs:List Value} (ho:w.ownsRow base' e sz v n xs) (he:e≠25) (hg:w.grownBy w' v.ownBlock):HoO l base w' x:=
 ⟨vw h.1 hg (yk h.1 ho he),h.2⟩
def HosTo (l:List Ev) (ac:Int) (w:World) (e:Ending) (w':World):Prop:=∃(a:Option Addr) (c:Nat) (X:List HoX),e=.returned (.slice a X.length c)/\zi (yK ac) 4 w' (.slice a X.length c) X/\jI l ac (X.map (·.h))/\(∀x∈X,HoRd l w' x)/\X.length<=10000/\Below w.heap.size w w'
def XJ (ac:Int) (l:List Ev) (h:Had) (B:Nat) (w:World) (y:Value):Prop:=∃x:HoX,y=.agg #[.int .i64 ac,.int .i64 h.1,.string h.2,.slice x.pa x.pn x.pc]/\x.h=h/\HoO l B w x
theorem XJ.below {ac:Int} {l:List Ev} {h:Had} {B:Nat} {w w':World} {y:Value} (q:XJ ac l h B w y) (hb:Below w.heap.size w w'):XJ ac l h B w' y:=by obtain⟨x,h1,h2,h3⟩:=q;exact⟨x,h1,h2,h3.below hb⟩
def XK (ac:Int) (l:List Ev) (h:Had) (B:Nat) (w:World) (y:Value):Prop:=∃(g:Nat) (x:HoX),y=.slice (some ⟨g,0,none⟩) 1 1/\w.heap[g]?=some (Obj.cells #[.int .i64 ac,.int .i64 h.1,.string h.2,.slice x.pa x.pn x.pc] 131)/\x.h=h/\HoO l B w x
theorem XK.below {ac:Int} {l:List Ev} {h:Had} {B:Nat} {w w':World} {y:Value} (q:XK ac l h B w y) (hb:Below w.heap.size w w'):XK ac l h B w' y:=by obtain⟨g,x,h1,h4,h2,h3⟩:=q;exact⟨g,x,h1,(hb.block _ (zu h4)).trans h4,h2,h3.below hb⟩
theorem JP {w:World} {ops:Array Oper} {rest:List Oper} {o:Oper} {a:Act} {Q:Exit->Act->World->Prop} (hgd:o.guard=none) (s x:Operand)
 (ho:o.op=.call { callee:=.builtin .append,args:=#[s,x],argTypes:=#[85,85] })
 (base:Nat) (hbase:base<=w.heap.size) (v vx:Value) (L X:List (Int×Int)) (hs:a.eval s=v) (hx:a.eval x=vx) (hown:w.ownsRow base 25 2 v L.length (L.flatMap zh)) (hX:zi zh 2 w vx X) (hlen:L.length+X.length<=1000000)
 (h:∀R:List (Int×Int),RowKit.Hid (R=L++X)->∀v' w',w'.ownsRow base 25 2 v' R.length (R.flatMap zh)->w.grownBy w' v.ownBlock->wpList Tryz.prog ops Q rest (a.put o.dst v') w'):wpList Tryz.prog ops Q (o::rest) a w:=
 zX (c:=zh) (sz:=2) (fun _=>rfl) qO 25 85 _ 16 Tryz.underlying85 Tryz.perInfo rfl (by decide) hgd s x ho base hbase v vx L X hs hx hown hX (by unfold maxLen;omega) (by omega) h
def CycTo (a:Int) (A:List (Int×Int)) (t:Int) (w:World) (e:Ending) (w':World):Prop:=∃O,vP a A t O/\jF w O e w'
theorem YE {α β:Type} (f:α->List β) (L:List α) (k:Nat) (h:k<L.length):(L.take (k+1)).flatMap f=(L.take k).flatMap f++f L[k]:=by rw[List.take_succ_eq_append_getElem h,List.flatMap_append,List.flatMap_singleton]
theorem Ql {α β:Type} (f:α->List β) (L:List α) (k:Nat):((L.take k).flatMap f).length<=(L.flatMap f).length:=by
 have h:L.flatMap f=(L.take k).flatMap f++(L.drop k).flatMap f:=by rw[<-List.flatMap_append,List.take_append_drop]
 rw[h,List.length_append];omega
structure kb (B g:Nat) (L:List (Int×Int)) (w:World):Prop where
 ex:∃(a:Option Addr) (c:Nat),w.heap[g]?=some (Obj.cells #[.slice a L.length c] 85)/\w.ownsRow B 25 2 (.slice a L.length c) L.length (L.flatMap zh)
theorem kb.below {B g:Nat} {L:List (Int×Int)} {w w':World} (h:kb B g L w) (hb:Below w.heap.size w w'):kb B g L w':=by obtain⟨a,c,h1,h2⟩:=h.ex;exact⟨a,c,(hb.block _ (zu h1)).trans h1,zd h2 hb⟩
theorem kb.lt {B g:Nat} {L:List (Int×Int)} {w:World} (h:kb B g L w):g<w.heap.size:=by obtain⟨a,c,h1,h2⟩:=h.ex;exact(zu h1)
def GL (wa:World) (vo:Value) (a p1 p2:Int) (L:List (Int×Int)):Nat->Value->World->Prop
 |0,v,_=>v=vo
 |1,v,_=>v=.int .i64 a
 |2,v,_=>v=.agg #[.int .i64 p1,.int .i64 p2]
 |3,v,w=>∃y,v=y/\w.ownsRow wa.heap.size 25 2 y L.length (L.flatMap zh)
 |_,_,_=>True
theorem YL {wa:World} {vo:Value} {a p1 p2:Int} {L:List (Int×Int)} {w1 w2:World} (hb:Below w1.heap.size w1 w2):∀kQ yQ,GL wa vo a p1 p2 L kQ yQ w1->GL wa vo a p1 p2 L kQ yQ w2
 |0,_,h=>h
 |1,_,h=>h
 |2,_,h=>h
 |3,_,h=>(by obtain⟨y,h1,h2⟩:=h;exact⟨y,h1,zd h2 hb⟩)
 |_+4,_,_=>trivial
theorem KL (B tb ab nb:Nat) (a t:Int) (p:Int×Int) (L:List (Int×Int)) (w:World) (ha:1<=a) (hb:a<=28) (h0:0<=t) (h1:t<12622780800) (hB:B<=w.heap.size) (hab:B<=ab) (htb:tb<B) (hnb:nb<B) (ht:w.cell? ⟨tb,0,none⟩=some (.int .i64 t)) (hn:w.cell? ⟨nb,0,none⟩=some (.int .i64 a)) (hbox:kb B ab L w) (hl:L.length+(vc a t p).length<=2000):
 Calls Tryz.prog 90 #[.agg #[.int .i64 p.1,.int .i64 p.2],.pointer (some ⟨tb,0,none⟩),.pointer (some ⟨ab,0,none⟩),.pointer (some ⟨nb,0,none⟩)] w fun e w'=>e=.returned (.tuple #[])/\kb B ab (L++vc a t p) w'/\Below B w w':=by
 obtain⟨W,hW⟩:∃W,W=w.alloc (Obj.cells #[.int .i64 p.1,.int .i64 p.2] 25):=⟨_,rfl⟩;have hw0:Below w.heap.size w W:=by rw[hW];exact(Below.refl _ _).alloc (Nat.le_refl _) _
 have R0:=zb (show W.heap[w.heap.size]?=some (Obj.cells #[.int .i64 p.1,.int .i64 p.2] 25) by rw[hW];exact heap_alloc_new _ _);have Hw0:=zb (hw0.mono hB);have HI:=zb (uf p.1 p.2 0 (t+1) W);have hwt:wrap64 (t+1)=t+1:=by unfold wrap64;omega
 have HbW:=zb (hbox.below hw0);have c0:=cell_of_row W _ 0 _ _ _ R0.out;have c1:=cell_of_row W _ 1 _ _ _ R0.out;have ct:=(hw0.cell (p:=⟨tb,0,none⟩) (show tb<w.heap.size by omega)).trans ht;have cn:=(hw0.cell (p:=⟨nb,0,none⟩) (show nb<w.heap.size by omega)).trans hn;have hWB:B<=W.heap.size:=Nat.le_trans hB hw0.size;have HW:=zb hW;have HWk:=zb (show vc a t p=if yO p.1 p.2 0 (t+1)=true then q6 a (max p.1 0,min p.2 (t+1)) else [] from rfl);have Hme:=zb (show yO p.1 p.2 0 (t+1)=true->0<=max p.1 0/\max p.1 0<min p.2 (t+1)/\min p.2 (t+1)<=12622780800 from fun h=>by
  obtain⟨v1,v2,v3⟩:=(vf _ _ _ _).1 h;obtain⟨w0,w1,w2⟩:=(zw _ _).1 v1
  omega);have HCy:=zb (show ∀q:Int×Int,0<=q.1->q.1<q.2->q.2<=12622780800->∀W,Calls Tryz.prog 92 #[.int .i64 a,.agg #[.int .i64 q.1,.int .i64 q.2]] W (fun e w'=>∃v,e=.returned v/\w'.ownsRow W.heap.size 25 2 v (q6 a q).length ((q6 a q).flatMap zh)/\Below W.heap.size W w')from fun q s0 s1 s2 W=>Qs a q.1 q.2 _ _ W ha hb ((zw _ _).2 ⟨s0,s1,s2⟩) (jq s0 (by omega)) (jq (by omega) (by omega)));generalize vc a t p=wk at *;clear hW hw0 ht hn hbox h0 h1;cases hm:yO p.1 p.2 0 (t+1)with
 |false=>have HE:=zb (HWk.out.trans (if_neg (by rw[hm];decide)));unfold jW at HI;rw[hm,if_neg (by decide)]at HI;clear hm;go_enter Tryz.func90,Tryz.ntmps90;go_upto_region 1 with(fail);rw[<-HW.out];go_wp2_with fail;refine HI.out.mono ?_;rintro e w2 ⟨rfl,hb2⟩;have Hb2:=zb ((hb2.alloc hb2.size (Obj.cells #[.int .i64 0,.int .i64 0] 25)));clear hb2 c0 c1 ct cn;go_wp2;go_end0;exact⟨rfl,by rw[HE.out,List.append_nil];exact HbW.out.below Hb2.out,Hw0.out.trans (Hb2.out.mono hWB)⟩
 |true=>
   obtain⟨q,hq⟩:∃q:Int×Int,q=(max p.1 0,min p.2 (t+1)):=⟨_,rfl⟩;have HE:=zb (HWk.out.trans (if_pos hm));have hq3:=Hme.out hm;have hq1:max p.1 0=q.1:=by rw[hq]
   have hq2:min p.2 (t+1)=q.2:=by rw[hq]
   rw[<-hq]at HE;unfold jW at HI;rw[hm,if_pos rfl,hq1,hq2]at HI;rw[hq1,hq2]at hq3;have HC1:=zb (HCy.out q hq3.1 hq3.2.1 hq3.2.2);clear hm hq hq1 hq2 hq3 HCy;rw[HE.out]at hl;generalize q6 a q=Lq at *;go_enter Tryz.func90,Tryz.ntmps90;go_upto_region 1 with(fail);rw[<-HW.out];go_wp2_with fail;refine HI.out.mono ?_;rintro e w2 ⟨rfl,hb2⟩;obtain⟨Y,hY⟩:∃Y,Y=w2.alloc (Obj.cells #[.int .i64 q.1,.int .i64 q.2] 25):=⟨_,rfl⟩;have hbY:Below w2.heap.size w2 Y:=by rw[hY];exact(Below.refl _ _).alloc (Nat.le_refl _) _
   have YN:=zb (show Y.heap[w2.heap.size]?=some (Obj.cells #[.int .i64 q.1,.int .i64 q.2] 25) by rw[hY];exact heap_alloc_new _ _);have hbWY:=hb2.trans (hbY.mono hb2.size);have HbY:=zb (HbW.out.below hbWY);have HWY:=zb (hbWY.mono hWB);have hYB:B<=Y.heap.size:=Nat.le_trans hWB hbWY.size;have cn2:=(hbWY.cell (p:=⟨nb,0,none⟩) (show nb<W.heap.size by omega)).trans cn;have hnY:nb<Y.heap.size:=by omega
   have hy2:w2.heap.size<Y.heap.size:=(zu YN.out);have HY:=zb hY;obtain⟨aa,ca,hrow,hown⟩:=HbY.out.ex;have habY:ab<Y.heap.size:=(zu hrow);have HAw:=zb (show ∀Z,Below Y.heap.size Y Z->Z.cell? ⟨ab,0,none⟩=some (.slice aa L.length ca)/\Z.cell? ⟨nb,0,none⟩=some (.int .i64 a)/\Z.cell? ⟨w2.heap.size,0,none⟩=some (.int .i64 q.1)/\Z.cell? ⟨w2.heap.size,1,none⟩=some (.int .i64 q.2)from fun Z hZ=>⟨cell_of_row Z _ 0 _ _ _ ((hZ.block _ habY).trans hrow),(hZ.cell (p:=⟨nb,0,none⟩) hnY).trans cn2,cell_of_row Z _ 0 _ _ _ ((hZ.block _ hy2).trans YN.out),cell_of_row Z _ 1 _ _ _ ((hZ.block _ hy2).trans YN.out)⟩);have Hrow:=zb hrow;have Hown:=zb hown;clear hY hbY hbWY hb2 c0 c1 ct cn cn2 hrow hown;go_upto_region 3 with(fail);rw[<-HY.out];refine yi 4 (fun w'=>Below Y.heap.size Y w') (GL Y (.slice aa L.length ca) a q.1 q.2 Lq) (by kernel_rfl) (by kernel_rfl) (Below.refl _ _).drew ?_ ?_
   · generalize hfr:(fun v:Nat->Value=>_)=fr
     simp only[List.take_succ_cons,List.take_zero,List.map_cons,List.map_nil,zC,List.setIfInBounds_toArray,List.set_cons_succ,List.set_cons_zero,Nat.zero_add,Nat.reduceAdd]at hfr;simp only[List.take_succ_cons,List.take_zero,yR];refine⟨?_,?_,?_,?_,trivial⟩;iterate 3
      · intro v w5 hC hd K hK
        obtain⟨p0,p1,p2,p3⟩:=HAw.out w5 hC;rw[<-hfr]at hK⊢;go_simp;exact hK _ _ hC (YL (Below.refl _ _)) rfl
     · intro v w5 hC hd K hK
       obtain⟨(e1:v 1=_),(e2:v 2=_),-⟩:=hd;rw[<-hfr]at hK⊢;simp only[e1,e2]at hK⊢;go_simp;refine(HC1.out w5).mono ?_;rintro e w6 ⟨y,rfl,own4,hb4⟩;exact hK _ _ (hC.trans (hb4.mono hC.size)) (YL hb4) ⟨y,rfl,zx own4 hC.size⟩
   intro v w5 hC hall;obtain⟨y,e3,hy⟩:∃y,v 3=y/\w5.ownsRow Y.heap.size 25 2 y Lq.length (Lq.flatMap zh):=hall.2;have e0:v 0=.slice aa L.length ca:=hall.1.1.1.2;have HRX:=zb (show zi zh 2 w5 y Lq from zi.own (fun _=>rfl) hy);have HownU:=zb (zd Hown.out hC);have Hrow5:=zb ((hC.block _ habY).trans Hrow.out);have Hb5:=zb (Hw0.out.trans (HWY.out.trans (hC.mono hYB)));have hbs:B<=w5.heap.size:=Nat.le_trans hYB hC.size;simp only[List.take_succ_cons,List.take_zero,List.map_cons,List.map_nil,zC,List.setIfInBounds_toArray,List.set_cons_succ,List.set_cons_zero,Nat.zero_add,Nat.reduceAdd,List.drop_succ_cons,List.drop_zero];simp only[e0,e3];generalize v 1=y1,v 2=y2;clear e0 e3 hy hall hC v HAw HC1;refine JP rfl _ _ rfl B hbs _ _ L Lq rfl rfl HownU.out HRX.out (by omega) ?_;intro R hR v7 w7 own7 hg7;obtain⟨a7,c7,rfl,-,-⟩:=zf own7;have Hne:=zb (zk HownU.out Hrow5.out (by decide));have Hrow7:=zb ((hg7.block ab (zu Hrow5.out) (fun h=>Hne.out h.symm)).trans Hrow5.out);have Hb7:=zb (Hb5.out.grown hg7 hbs (fun g hg=>(zg HownU.out g hg).1));have Own7:=zb own7;have Hne7:=zb (zk own7 Hrow7.out (by decide));have f0:=frozen_of_row w7 _ 0 _ _ Hrow7.out;have g0:=cell_of_row w7 _ 0 _ _ _ Hrow7.out;have HRe:=zb (show R=L++wk by rw[hR.out,HE.out]);have HBx:=zb (show kb B ab R (w7.setCell ⟨ab,0,none⟩ (.slice a7 R.length c7))from⟨a7,c7,zU _ Hrow7.out,zp Own7.out Hne7.out⟩);clear own7 hg7 hR hbs;go_wp2;go_end0;exact⟨rfl,by rw[<-HRe.out];exact HBx.out,Hb7.out.setCell hab _⟩
theorem Xb (l:List Ev) (ac:Int) (v:Value) (X:List HoX) (a t:Int) (w:World) (hX:zi (yK ac) 4 w v X) (hr:∀x∈X,HoRd l w x) (ha:1<=a) (hb:a<=28) (h0:0<=t) (h1:t<12622780800) (hin:∀p∈vH l (X.map (·.h)),0<=p.1/\p.1<p.2/\p.2<=12622780800) (hlen:((vH l (X.map (·.h))).flatMap (vc a t)).length<=1600):
 Calls Tryz.prog 55 #[v,.int .i64 a,.int .i64 t] w (CycTo a (vH l (X.map (·.h))) t w):=by
 have HRef:=zb (Gq ha hb hin h0 h1);have hA:vH l (X.map (·.h))=X.flatMap (fun x=>actL x.h.1 x.h.2 l):=by unfold vH;rw[List.flatMap_map]
 have hA2:(vH l (X.map (·.h))).flatMap (vc a t)=X.flatMap (fun x=>(actL x.h.1 x.h.2 l).flatMap (vc a t)):=by rw[hA,List.flatMap_assoc]
 rw[hA2]at HRef hlen;have HPre:=zb (Ql (fun x:HoX=>(actL x.h.1 x.h.2 l).flatMap (vc a t)) X);have HFt:=zb (YE (fun x:HoX=>(actL x.h.1 x.h.2 l).flatMap (vc a t)) X);have HPr2:=zb (Ql (vc a t));have HFt2:=zb (YE (vc a t));obtain⟨W,hW,r0,r1,hw0,hz0⟩:=vd w (Obj.cells #[.int .i64 a] 3) (Obj.cells #[.int .i64 t] 3);have HX:=zb (hX.below hw0);have Hr:=zb (fun x hx=>(hr x hx).below hw0);have HSp:=zb (fun A=>Ve (C:=vh A [] true false) rfl);have Ha:=zb (And.intro ha hb);have Ht:=zb (And.intro h0 h1);have Hw0:=zb hw0;have HW:=zb hW;have R0:=zb r0;have R1:=zb r1;obtain⟨Y,hY⟩:∃Y,Y=W.alloc (Obj.cells #[.slice none 0 0] 85):=⟨_,rfl⟩;have hbY:Below W.heap.size W Y:=by rw[hY];exact(Below.refl _ _).alloc (Nat.le_refl _) _
 have YN:=zb (show Y.heap[W.heap.size]?=some (Obj.cells #[.slice none 0 0] 85) by rw[hY];exact heap_alloc_new _ _);have HbY:=zb hbY;have HPb:=zb (show kb W.heap.size W.heap.size [] Y from⟨none,0,YN.out,World.ownsRow_nil _ _ _ _⟩);have HY:=zb hY;have HCl:=zb (show ∀(p:Int×Int) (L:List (Int×Int)) (w1:World),Below W.heap.size W w1->kb W.heap.size W.heap.size L w1->L.length+(vc a t p).length<=2000->Calls Tryz.prog 90 #[.agg #[.int .i64 p.1,.int .i64 p.2],.pointer (some ⟨w.heap.size+1,0,none⟩),.pointer (some ⟨W.heap.size,0,none⟩),.pointer (some ⟨w.heap.size,0,none⟩)] w1 fun e w'=>e=.returned (.tuple #[])/\kb W.heap.size W.heap.size (L++vc a t p) w'/\Below W.heap.size w1 w' from fun p L w1 hb1 hbx hll=>KL W.heap.size (w.heap.size+1) W.heap.size w.heap.size a t p L w1 ha hb h0 h1 hb1.size (Nat.le_refl _) (by omega) (by omega) (cell_of_row w1 _ 0 _ _ _ ((hb1.block _ (by omega)).trans r1)) (cell_of_row w1 _ 0 _ _ _ ((hb1.block _ (by omega)).trans r0)) hbx hll);obtain⟨av,cap,rfl,hlc,hcm⟩:=zq hX;unfold maxLen at hcm;clear hX hr hA hA2 hin h0 h1 ha hb hW r0 r1 hw0 hY hbY;generalize vH l (X.map (·.h))=AA at *;go_enter Tryz.func55,Tryz.ntmps55;go_upto_region 1 with(fail);rw[<-HW.out];go_upto_region 2 with(fail);rw[<-HY.out];go_wp2_with fail;go_loopw [19] (fun i wr=>∃(k:Nat) (O:List (Int×Int)),k<=X.length/\i=.int .i64 k/\RowKit.Hid (O=(X.take k).flatMap (fun x=>(actL x.h.1 x.h.2 l).flatMap (vc a t)))/\kb W.heap.size W.heap.size O wr/\Below W.heap.size W wr) (fun i _=>X.length-(intOf i).toNat);case atStart=>exact⟨0,[],Nat.zero_le _,rfl,zb rfl,HPb.out,HbY.out⟩
 case round=>
  obtain⟨wo,rfl⟩:∃wo:World,wo=wr:=⟨_,rfl⟩;obtain⟨k,O,hk,rfl,HO,hbox,hb⟩:=hrel;have Hbox:=zb hbox;have Hb:=zb hb;by_cases hlt:k<X.length
  · have hk1:(k:Int)<(X.length:Int):=by omega
    have hk0:(0:Int)<=(k:Int):=Int.natCast_nonneg _;have HTk:=zb (HFt.out k hlt);have HPk:=zb (HPre.out (k+1));have HAc:=zb ((Hr.out _ (List.getElem_mem hlt)).1);obtain⟨a3,c3,e3,-,-,hx⟩:=HX.out.below hb;cases e3;obtain⟨bb,o,rfl,hB,hx⟩:=hx (by rintro rfl;cases hlt);have hx:=hx k hlt;have x0:wo.cell? ⟨bb,o+k*4,none⟩=some (.int .i64 ac):=hx 0 (by decide);have x1:wo.cell? ⟨bb,o+k*4+1,none⟩=some (.int .i64 (X[k]).h.1):=hx 1 (by decide);have x2:wo.cell? ⟨bb,o+k*4+2,none⟩=some (.string (X[k]).h.2):=hx 2 (by decide);have x3:wo.cell? ⟨bb,o+k*4+3,none⟩=some (.slice (X[k]).pa (X[k]).pn (X[k]).pc):=hx 3 (by decide);clear hx hbox;generalize X[k]=x at *;rw[HTk.out,List.length_append]at HPk;rw[<-HO.out]at HPk;have HRel:=zb (show ∀(Q:List (Int×Int)) (wx:World),Q=O++(actL x.h.1 x.h.2 l).flatMap (vc a t)->kb W.heap.size W.heap.size Q wx->Below W.heap.size W wx->∃(k':Nat) (O:List (Int×Int)),k'<=X.length/\Value.int .i64 ((k:Int)+1)=.int .i64 k'/\RowKit.Hid (O=(X.take k').flatMap (fun x=>(actL x.h.1 x.h.2 l).flatMap (vc a t)))/\kb W.heap.size W.heap.size O wx/\Below W.heap.size W wx from fun Q wx h1 h2 h3=>⟨k+1,Q,hlt,by go_num,zb (by rw[HTk.out,<-HO.out];exact h1),h2,h3⟩);generalize actL x.h.1 x.h.2 l=A at *;obtain⟨aA,cA,eA,hA1,hA2⟩:=kR HAc.out;simp only[Value.slice.injEq]at eA;obtain⟨eA1,eA2,eA3⟩:=eA;rw[eA1,eA2,eA3]at x3;have HAc:=zb (show yd W (.slice aA A.length cA) A by
     have h:=HAc.out;rwa[eA1,eA2,eA3]at h);unfold maxLen at hA2;clear eA1 eA2 eA3;obtain⟨U,hU⟩:∃U,U=wo.alloc (Obj.cells #[.int .i64 ac,.int .i64 x.h.1,.string x.h.2,.slice aA A.length cA] 118):=⟨_,rfl⟩;have hbU:Below wo.heap.size wo U:=by rw[hU];exact(Below.refl _ _).alloc (Nat.le_refl _) _
    have UN:=zb (show U.heap[wo.heap.size]?=some (Obj.cells #[.int .i64 ac,.int .i64 x.h.1,.string x.h.2,.slice aA A.length cA] 118) by rw[hU];exact heap_alloc_new _ _);have HbU:=zb (hb.trans (hbU.mono hb.size));have HboxU:=zb (Hbox.out.below hbU);have HU:=zb hU;have u3:=cell_of_row U _ 3 _ _ _ UN.out;have HP2:=zb (HPr2.out A);have HF2:=zb (HFt2.out A);clear hU hbU hb;go_upto_region 6 with(fail);rw[<-HU.out];go_wp2_with fail;clear x0 x1 x2 x3 u3;go_loopw [26] (fun i wr=>∃(j:Nat) (Q:List (Int×Int)),j<=A.length/\i=.int .i64 j/\RowKit.Hid (Q=O++(A.take j).flatMap (vc a t))/\kb W.heap.size W.heap.size Q wr/\Below W.heap.size W wr) (fun i _=>A.length-(intOf i).toNat);case atStart=>exact⟨0,O,Nat.zero_le _,rfl,zb (by simp),HboxU.out,HbU.out⟩
    case round=>
     obtain⟨wi,rfl⟩:∃wi:World,wi=wr:=⟨_,rfl⟩;obtain⟨j,Q,hj,rfl,HQ,hbox,hb⟩:=hrel;have HboxI:=zb hbox;have HbI:=zb hb;by_cases hjt:j<A.length
     · have hj1:(j:Int)<(A.length:Int):=by omega
       have hj0:(0:Int)<=(j:Int):=Int.natCast_nonneg _;have HTj:=zb (HF2.out j hjt);have hql:Q.length+(vc a t A[j]).length<=2000:=by have h1:=HP2.out (j+1);rw[HTj.out,List.length_append]at h1;have h2:=congrArg List.length HQ.out;rw[List.length_append]at h2;have:=HPk.out;omega
       obtain⟨a4,c4,e4,-,-,hx⟩:=HAc.out.below hb;cases e4;obtain⟨b2,o2,rfl,hB2,hx⟩:=hx (by rintro rfl;cases hjt);obtain⟨y0,y1⟩:=hx j hjt;clear hx hbox;generalize A[j]=p at *;obtain⟨Z,hZ⟩:∃Z,Z=wi.alloc (Obj.cells #[.int .i64 p.1,.int .i64 p.2] 25):=⟨_,rfl⟩;have hbZ:Below wi.heap.size wi Z:=by rw[hZ];exact(Below.refl _ _).alloc (Nat.le_refl _) _
       have ZN:=zb (show Z.heap[wi.heap.size]?=some (Obj.cells #[.int .i64 p.1,.int .i64 p.2] 25) by rw[hZ];exact heap_alloc_new _ _);have HbZ:=zb (hb.trans (hbZ.mono hb.size));have HCa:=zb (HCl.out p Q Z HbZ.out (HboxI.out.below hbZ) hql);have HZ:=zb hZ;have z0:=cell_of_row Z _ 0 _ _ _ ZN.out;have z1:=cell_of_row Z _ 1 _ _ _ ZN.out;clear hZ hbZ hb hql;go_upto_region 9 with(fail);rw[<-HZ.out];go_wp2_with fail;refine HCa.out.mono ?_;rintro e w5 ⟨rfl,hbx5,hb5⟩;have Hbx5:=zb hbx5;have Hb5:=zb (HbZ.out.trans hb5);have HQ5:=zb (show Q++vc a t p=O++(A.take (j+1)).flatMap (vc a t) by rw[HTj.out,HQ.out,List.append_assoc]);clear hbx5 hb5 y0 y1 z0 z1;go_wp2;exact⟨⟨j+1,_,by omega,by go_num,HQ5,Hbx5.out,Hb5.out⟩,by simp[intOf];omega⟩
     have HF:=zb (HRel.out Q wi (by rw[HQ.out,List.take_of_length_le (by omega)]) hbox hb);clear hbox hb;go_wp2;exact⟨HF.out,by simp[intOf];omega⟩
  have HE:=zb (show O=X.flatMap (fun x=>(actL x.h.1 x.h.2 l).flatMap (vc a t)) by rw[HO.out,List.take_of_length_le (by omega)]);have HRef:=zb (show vP a AA t ((vh O [] true false).flatMap (q6 a)) by rw[HE.out];exact HRef.out);obtain⟨aa,ca,hrow,hown⟩:=hbox.ex;have c0:=cell_of_row wo _ 0 _ _ _ hrow;have hOl:O.length<=2000:=by rw[HE.out];omega
  have HC1:=zb (Uv _ O wo (yd.own hown) hOl);have HSp1:=zb (HSp.out O);generalize vh O [] true false=C at *;have HB1:=zb (Xs HRef.out);have R00:=zb ((hb.block _ (by omega)).trans R0.out);clear hrow hown hb hbox;go_wp2_with fail;refine HC1.out.mono ?_;rintro e w3 ⟨vC,rfl,hpC,hb3⟩;obtain⟨aC,cC,rfl,hC1,hC2⟩:=kR hpC;unfold maxLen at hC2;have HpC:=zb hpC;have Hb3:=zb (Hb.out.trans (hb3.mono Hb.out.size));have R03:=zb ((hb3.block _ (zu R00.out)).trans R00.out);have HFc:=zb (YE (q6 a) C);have HPc:=zb (Ql (q6 a) C);have HCy:=zb (show ∀p,p∈C->∀W,Calls Tryz.prog 92 #[.int .i64 a,.agg #[.int .i64 p.1,.int .i64 p.2]] W (jF W (q6 a p))from fun p hp W=>by
   obtain⟨s0,s1,s2⟩:=HSp1.out p hp;exact Kp a p.1 p.2 _ _ W Ha.out.1 Ha.out.2 ((zw _ _).2 ⟨s0,s1,s2⟩) (jq s0 (by omega)) (jq (by omega) (by omega)));clear hpC hb3 c0 HSp1 HC1;go_wp2_with fail;go_loopw [13,38] (fun vo i wr=>∃(k:Nat) (Q:List (Int×Int)),k<=C.length/\i=.int .i64 k/\RowKit.Hid (Q=(C.take k).flatMap (q6 a))/\wr.ownsRow w3.heap.size 25 2 vo Q.length (Q.flatMap zh)/\Below w3.heap.size w3 wr) (fun _ i _=>C.length-(intOf i).toNat);case atStart=>exact⟨0,[],Nat.zero_le _,rfl,zb rfl,World.ownsRow_nil _ _ _ _,Below.refl _ _⟩
  case round=>
   obtain⟨wq,rfl⟩:∃wq:World,wq=wr:=⟨_,rfl⟩;obtain⟨i,Q,hi,rfl,HQ,hown,hb⟩:=hrel;obtain⟨aq,cq,rfl,hc1,hc2⟩:=zf hown;unfold maxLen at hc2;have Hown0:=zb hown;have Hb0:=zb hb;by_cases hit:i<C.length
   · have hi1:(i:Int)<(C.length:Int):=by omega
     have hi0:(0:Int)<=(i:Int):=Int.natCast_nonneg _;have HTi:=zb (HFc.out i hit);have hql:Q.length+(q6 a C[i]).length<=4801:=by have h1:=HPc.out (i+1);rw[HTi.out,List.length_append,<-HQ.out]at h1;exact Nat.le_trans h1 HB1.out
     have HCp:=zb (HCy.out C[i] (List.getElem_mem hit));obtain⟨a3,c3,e3,-,-,hx⟩:=HpC.out.below hb;cases e3;obtain⟨bb,o,rfl,hB,hx⟩:=hx (by rintro rfl;cases hit);obtain⟨x0,x1⟩:=hx i hit;have R0q:=zb ((hb.block _ (zu R03.out)).trans R03.out);clear hx hown;generalize C[i]=p at *;generalize q6 a p=Lq at *;obtain⟨Z,hZ⟩:∃Z,Z=wq.alloc (Obj.cells #[.int .i64 p.1,.int .i64 p.2] 25):=⟨_,rfl⟩;have hbZ:Below wq.heap.size wq Z:=by rw[hZ];exact(Below.refl _ _).alloc (Nat.le_refl _) _
     have ZN:=zb (show Z.heap[wq.heap.size]?=some (Obj.cells #[.int .i64 p.1,.int .i64 p.2] 25) by rw[hZ];exact heap_alloc_new _ _);have HbZ:=zb (hb.trans (hbZ.mono hb.size));have HownZ:=zb (zd Hown0.out hbZ);have HZ:=zb hZ;have z0:=cell_of_row Z _ 0 _ _ _ ZN.out;have z1:=cell_of_row Z _ 1 _ _ _ ZN.out;have n0:=cell_of_row Z _ 0 _ _ _ ((hbZ.block _ (zu R0q.out)).trans R0q.out);clear hZ hbZ hb;go_upto_region 16 with(fail);rw[<-HZ.out];go_wp2_with fail;refine(HCp.out Z).mono ?_;rintro e w5 ⟨vL,rfl,hpL,hb5⟩;have HRX:=zb (KW hpL);have HownU:=zb (zd HownZ.out hb5);have Hb5:=zb (HbZ.out.trans (hb5.mono HbZ.out.size));have hbs:=Hb5.out.size;clear hpL hb5 x0 x1 z0 z1 n0;go_wp2_with (at_builtin;refine JP rfl _ _ rfl w3.heap.size hbs _ _ Q Lq rfl rfl HownU.out HRX.out (by omega) ?_);intro R hR v7 w7 own7 hg7;have HRe:=zb (show R=(C.take (i+1)).flatMap (q6 a) by rw[hR.out,HTi.out,<-HQ.out]);have Own7:=zb own7;have Hb7:=zb (Hb5.out.grown hg7 hbs (fun g hg=>(zg HownU.out g hg).1));clear own7 hg7 hR hbs;go_wp2;exact⟨⟨i+1,R,by omega,by go_num,HRe,Own7.out,Hb7.out⟩,by simp[intOf];omega⟩
   have HE:=zb (show Q=C.flatMap (q6 a) by rw[HQ.out,List.take_of_length_le (by omega)]);have HbF:=zb (Hw0.out.trans ((Hb3.out.trans (hb.mono Hb3.out.size)).mono Hw0.out.size));clear hown hb;go_wp2;go_ret;exact⟨Q,by rw[HE.out];exact HRef.out,_,rfl,yd.own Hown0.out,HbF.out⟩
end Go.Proofs.YtngippiilgdnoaaGreat
