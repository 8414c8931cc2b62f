/-
  The walk of product.Names.
-/
import Derived.Test.YtngippiilgdnoaaGreatMhbc
import Derived.Laws.AppendOwnNone
import Derived.Deep.DeepCutAuto
set_option maxRecDepth 100000
set_option maxHeartbeats 25600000
namespace Go.Proofs.YtngippiilgdnoaaGreat
open Go.RowKit
def qE {α:Type} (P:Nat->Prop) (sz:Nat) (R:World->Nat->Nat->α->Prop) (w:World) (v:Value) (l:List α):Prop:=
 ∃(av:Option Addr) (cap:Nat),v=.slice av l.length cap/\l.length<=cap/\QR av cap/\(l≠[]->∃b o,av=some ⟨b,o,none⟩/\P b/\b<w.heap.size/\∀i (h:i<l.length),R w b (o+i*sz) l[i])
theorem qE.at {α:Type} {P:Nat->Prop} {sz:Nat} {R R':World->Nat->Nat->α->Prop} {w:World} {v:Value} {l:List α} (h:qE P sz R w v l) (hR:∀b o x,R w b o x->R' w b o x):zz sz R' w v l:=by obtain⟨av,cap,rfl,h1,h2,hc⟩:=h;exact⟨av,cap,rfl,h1,h2,fun hne=>let ⟨b,o,e,_,hB,hx⟩:=hc hne;⟨b,o,e,hB,fun i hi=>hR _ _ _ (hx i hi)⟩⟩
theorem qE.keep {α:Type} {P Q:Nat->Prop} {sz:Nat} {R R':World->Nat->Nat->α->Prop} {w w':World} {v:Value} {l:List α} (h:qE P sz R w v l) (hs:w.heap.size<=w'.heap.size)
 (hR:∀b o x,P b->b<w.heap.size->R w b o x->Q b/\R' w' b o x):qE Q sz R' w' v l:=by
 obtain⟨av,cap,rfl,h1,h2,hc⟩:=h;refine⟨av,cap,rfl,h1,h2,fun hne=>?_⟩;obtain⟨b,o,e,hP,hB,hx⟩:=hc hne
 have h0:0<l.length:=by cases l with
  |nil=>exact absurd rfl hne
  |cons a r=>simp
 exact⟨b,o,e,(hR _ _ _ hP hB (hx 0 h0)).1,Nat.lt_of_lt_of_le hB hs,fun i hi=>(hR _ _ _ hP hB (hx i hi)).2⟩
def vT (P:Nat->Prop) (w:World) (v:Value) (l:List ByteArray):Prop:=qE P 1 StrR w v l
theorem vT.keep {P Q:Nat->Prop} {w w':World} {v:Value} {l:List ByteArray} (h:vT P w v l) (hs:w.heap.size<=w'.heap.size) (hk:∀b,P b->b<w.heap.size->Q b/\w'.heap[b]?=w.heap[b]?):vT Q w' v l:=
 qE.keep h hs fun b o _ hP hB hx=>⟨(hk b hP hB).1,(World.cell?_of_block (a:=⟨b,o,none⟩) (hk b hP hB).2).trans hx.1,hx.2⟩
def BdO (base:Nat) (w:World) (b o:Nat) (x:Bd):Prop:=
 w.cell? ⟨b,o,none⟩=some (.int .i64 x.kd)/\(∃zv,w.cell? ⟨b,o+1,none⟩=some zv/\vT (base<=·) w zv x.zs)/\w.cell? ⟨b,o+2,none⟩=some (.int .i64 x.un)/\w.cell? ⟨b,o+3,none⟩=some (.int .i64 x.ro)/\
  w.cell? ⟨b,o+4,none⟩=some (.int .i64 x.pr)/\w.cell? ⟨b,o+5,none⟩=some (.bool x.sh)
def vU (base:Nat) (w:World) (v:Value) (l:List Bd):Prop:=qE (base<=·) 6 (BdO base) w v l
theorem vU.at {base:Nat} {w:World} {v:Value} {l:List Bd} (h:vU base w v l):qR w v l:=
 qE.at h fun _ _ _ ⟨h0,⟨zv,h1,hz⟩,h2,h3,h4,h5⟩=>⟨h0,⟨zv,h1,qE.at hz fun _ _ _ hx=>hx⟩,h2,h3,h4,h5⟩
theorem vU.keep {base base':Nat} (hbb:base'<=base) {w w':World} {v:Value} {l:List Bd} (h:vU base w v l) (hs:w.heap.size<=w'.heap.size) (hk:∀b,base<=b->b<w.heap.size->w'.heap[b]?=w.heap[b]?):vU base' w' v l:=
 qE.keep h hs fun b _ _ hP hB ⟨h0,⟨zv,h1,hz⟩,h2,h3,h4,h5⟩=>
  have c:∀j,w'.cell? ⟨b,j,none⟩=w.cell? ⟨b,j,none⟩:=fun j=>World.cell?_of_block (a:=⟨b,j,none⟩) (hk b hP hB)
  ⟨Nat.le_trans hbb hP,(c _).trans h0,⟨zv,(c _).trans h1,vT.keep hz hs fun b hP hB=>⟨Nat.le_trans hbb hP,hk b hP hB⟩⟩,(c _).trans h2,(c _).trans h3,(c _).trans h4,(c _).trans h5⟩
theorem vU.setCell {base:Nat} {w:World} {v:Value} {l:List Bd} (h:vU base w v l) {p:Addr} (hp:p.block<base) (u:Value):vU base (w.setCell p u) v l:=
 h.keep (Nat.le_refl _) (by simp[World.setCell]) fun b hb _=>Below.heap_setCell w p u b (by omega)
theorem vU.mono {base base':Nat} {w:World} {v:Value} {l:List Bd} (h:vU base w v l) (hbb:base'<=base):vU base' w v l:=h.keep hbb (Nat.le_refl _) fun _ _ _=>rfl
theorem vU.below {base:Nat} {w w':World} {v:Value} {l:List Bd} (h:vU base w v l) (hb:Below w.heap.size w w'):vU base w' v l:=h.keep (Nat.le_refl _) hb.size fun b _ hB=>hb.block b hB
theorem Tryz.bundleInfo:(Tryz.prog.info? 76).map (fun i=>(i.zero,i.size,i.bytes))=some (some (.agg #[.int .i64 0,.slice none 0 0,.int .i64 0,.int .i64 0,.int .i64 0,.bool false]),6,64):=by kernel_rfl
def kr (q:Bd×Value):List Value:=[.int .i64 q.1.kd,q.2,.int .i64 q.1.un,.int .i64 q.1.ro,.int .i64 q.1.pr,.bool q.1.sh]
def xg (w:World) (p:Pd) (e:Ending) (w':World):Prop:=∃bv,e=.returned (ky p bv)/\vU w.heap.size w' bv p.bs/\Below w.heap.size w w'
theorem NY {w:World} {base base':Nat} {e:TypeId} {v:Value} {qs:List (Bd×Value)} (hb:base'<=base) (h:w.ownsRow base e 6 v qs.length (qs.flatMap kr)) (hq:∀q∈qs,vT (base'<=·) w q.2 q.1.zs):vU base' w v (qs.map (·.1)):=by
 obtain⟨-,h2⟩:=h;rcases h2 with⟨rfl,h0⟩|⟨g,cap,cur,rfl,hB,hh,h1,h2,h3,h4⟩
 · obtain rfl:qs=[]:=List.length_eq_zero_iff.1 h0
   exact⟨none,0,rfl,Nat.le_refl _,⟨Nat.zero_le _,fun _=>rfl⟩,fun h=>absurd rfl h⟩
 refine⟨_,cap,by rw[List.length_map],by rw[List.length_map];exact h1,⟨h2,fun h=>by cases h⟩,fun _=>⟨g,0,rfl,Nat.le_trans hb hB,(zu hh),fun i hi=>?_⟩⟩;rw[List.length_map]at hi;rw[List.getElem_map];have cell:∀j,j<6->w.cell? ⟨g,0+i*6+j,none⟩=(kr qs[i])[j]?:=fun j hj=>by
  rw[<-vJ kr 6 (fun _=>rfl) qs i j hi hj,<-h4,List.getElem?_take_of_lt (by omega),Nat.zero_add];simp only[World.cell?,hh,Option.isSome_none,Bool.false_eq_true,if_false];simp
 exact⟨cell 0 (by omega),⟨_,cell 1 (by omega),hq _ (List.getElem_mem hi)⟩,cell 2 (by omega),cell 3 (by omega),cell 4 (by omega),cell 5 (by omega)⟩
theorem GO {w:World} {base:Nat} {e:TypeId} {v:Value} {zs:List ByteArray} (h:w.ownsRow base e 1 v zs.length (zs.map Value.string)) (hz:∀s∈zs,s.size<=maxLen):vT (base<=·) w v zs:=by
 obtain⟨-,h2⟩:=h;rcases h2 with⟨rfl,h0⟩|⟨g,cap,cur,rfl,hB,hh,h1,h2,h3,h4⟩
 · obtain rfl:zs=[]:=List.length_eq_zero_iff.1 h0
   exact⟨none,0,rfl,Nat.le_refl _,⟨Nat.zero_le _,fun _=>rfl⟩,fun h=>absurd rfl h⟩
 refine⟨_,cap,rfl,h1,⟨h2,fun h=>by cases h⟩,fun _=>⟨g,0,rfl,hB,(zu hh),fun i hi=>⟨?_,hz _ (List.getElem_mem hi)⟩⟩⟩;rw[Nat.zero_add,Nat.mul_one];have e1:(zs.map Value.string)[i]?=some (Value.string zs[i]):=by simp[hi]
 rw[<-h4,List.getElem?_take_of_lt (by omega)]at e1;simp only[World.cell?,hh,Option.isSome_none,Bool.false_eq_true,if_false];simpa using e1
theorem US {w:World} {b o:Nat} {zs:List ByteArray} (h:∀i (hi:i<zs.length),StrR w b (o+i*1) zs[i]):∀j u,(zs.map Value.string)[j]?=some u->w.cell? (Addr.add ⟨b,o,none⟩ j)=some u:=by
 intro j u hu;have hj:j<zs.length:=by have:=(List.getElem?_eq_some_iff.1 hu).1;simpa using this
 have e1:(zs.map Value.string)[j]?=some (Value.string zs[j]):=by simp[hj]
 rw[e1]at hu;cases hu;rw[Go.WideShapes.add_plain];have:=(h j hj).1;rwa[Nat.mul_one]at this
theorem JU {w:World} {v:Value} {zs:List ByteArray} (h:zR w v zs):∀s∈zs,s.size<=maxLen:=by intro s hs;obtain⟨i,hi,rfl⟩:=List.mem_iff_getElem.1 hs;obtain⟨av,cap,-,-,-,hc⟩:=h;obtain⟨b,o,-,-,hx⟩:=hc (by rintro rfl;cases hi);exact(hx i hi).2
theorem Jl (p:Pd) (bv:Value) (w:World) (h:qR w bv p.bs) (hl:p.bs.length<=100) (hzl:∀b∈p.bs,b.zs.length<=100):
 Calls Tryz.prog 129 #[ky p bv] w (xg w p):=by
 have hh:=h;obtain⟨av,cap,rfl,-,-,-⟩:=h;obtain⟨nm,fm,fe,ct,pro,bs⟩:=p;unfold ky;dsimp only at *;obtain⟨W,hW⟩:∃W,W=(w.alloc (Obj.cells #[Value.string nm,Value.int .i64 fm,Value.int .i64 fe,Value.string ct,Value.bool pro,Value.slice av bs.length cap] 72)).alloc (Obj.cells #[Value.string ⟨#[]⟩,Value.int .i64 0,Value.int .i64 0,Value.string ⟨#[]⟩,Value.bool false,Value.slice none 0 0] 72):=⟨_,rfl⟩;have hw0:Below w.heap.size w W:=by rw[hW];go_grown
 have hz:W.heap.size=w.heap.size+2:=by rw[hW];simp
 have r0:W.heap[w.heap.size]?=some (Obj.cells #[Value.string nm,Value.int .i64 fm,Value.int .i64 fe,Value.string ct,Value.bool pro,Value.slice av bs.length cap] 72):=by rw[hW,Below.heap_alloc _ _ _ (by simp)];exact heap_alloc_new _ _
 have r1:W.heap[w.heap.size+1]?=some (Obj.cells #[Value.string ⟨#[]⟩,Value.int .i64 0,Value.int .i64 0,Value.string ⟨#[]⟩,Value.bool false,Value.slice none 0 0] 72):=by rw[hW];simpa using heap_alloc_new (w.alloc _) _
 have HW:=zb hW;have Hz:=zb hz;have Hr:=zb (And.intro r0 r1);have Hzl:=zb hzl;clear hW hz r0 r1 hzl;go_enter Tryz.func129,Tryz.ntmps129;go_wp2_with fail;rw[<-HW.out];go_loopw [3,9] (fun v i wr=>∃(k:Nat) (qs:List (Bd×Value)),k<=bs.length/\i=.int .i64 k/\wr.ownsRow (w.heap.size+2) 76 6 v qs.length (qs.flatMap kr)/\qs.map (·.1)=bs.take k/\
  (∀q∈qs,vT (fun b=>w.heap.size+2<=b/\some b≠v.ownBlock) wr q.2 q.1.zs)/\Below W.heap.size W wr) (fun _ i _=>bs.length-(intOf i).toNat);case atStart=>exact⟨0,[],Nat.zero_le _,rfl,⟨rfl,Or.inl ⟨rfl,rfl⟩⟩,rfl,by simp,Below.refl _ _⟩
 case round=>
  obtain⟨k,qs,hk,rfl,hown,hqs,hqa,hb⟩:=hrel;have hbw:=hw0.trans (hb.mono hw0.size);have hbz:=hb.size;rw[Hz.out]at hbz;by_cases hlt:k<bs.length
  · obtain⟨av',cap',hv,-,-,hs⟩:=hh.below hbw
    cases hv;obtain⟨b,o,rfl,hB,hs⟩:=hs (by rintro rfl;cases hlt);obtain⟨c0,⟨zv,c1,hzv⟩,c2,c3,c4,c5⟩:=hs k hlt;have hzn:=Hzl.out bs[k] (List.getElem_mem hlt);have HT:=zb (show bs.take (k+1)=bs.take k++[bs[k]] from List.take_succ_eq_append_getElem hlt);have hle:qs.length<=k:=by have:=congrArg List.length hqs;rw[List.length_map,List.length_take]at this;omega
    clear hs;generalize bs[k]=x at *;obtain⟨kd,zs,un,ro,pr,sh⟩:=x;dsimp only at *;have hk0:(0:Int)<=(k:Int):=Int.natCast_nonneg _;have hk1:(k:Int)<(bs.length:Int):=by omega
    have Hown:=zb hown;have Hqa:=zb hqa;have Hqs:=zb hqs;have Hsz:=zb (JU hzv);clear hown hqa hqs;obtain⟨az,cz,rfl,hzc,hzk,hzx⟩:=hzv;cases az with
    |none=>
      obtain rfl:=hzk.2 rfl;obtain rfl:zs=[]:=List.length_eq_zero_iff.1 (by omega);obtain⟨i0,hi,hz0,hz1,hz2⟩:=info_parts Tryz.stringInfo;have Hi:=zb hi;clear hi hz0 hz1 hz2 hzx hzk;go_upto_region 6 with(at_builtin;refine wpList_append_own_none rfl _ _ 58 rfl (wr.heap.size+1) 9 i0 1 Tryz.underlying58 Hi.out _ 0 [] rfl ⟨rfl,Or.inl ⟨rfl,rfl⟩⟩ rfl ?_);obtain⟨Y,hY⟩:∃Y,Y=wr.alloc (Obj.cells #[.int .i64 kd,.slice none 0 0,.int .i64 un,.int .i64 ro,.int .i64 pr,.bool sh] 76):=⟨_,rfl⟩;obtain⟨w1,hw1⟩:∃w1,w1=Y:=⟨_,rfl⟩;have hbY:Below W.heap.size W Y:=by rw[hY];exact hb.alloc hb.size _
      have hzY:Y.heap.size=w1.heap.size:=by rw[hw1]
      have hs1:wr.heap.size+1<=w1.heap.size:=by rw[hw1,hY];simp
      have oldY:∀b,b<wr.heap.size->Y.heap[b]?=wr.heap[b]?:=fun b hb=>by rw[hY,Below.heap_alloc _ _ _ hb]
      have newY:∀b,wr.heap.size+1<=b->Y.heap[b]?=w1.heap[b]?:=fun b _=>by rw[hw1]
      have ownY:Y.ownsRow (w.heap.size+2) 76 6 u3 qs.length (qs.flatMap kr):=by
       refine zd Hown.out ⟨?_,?_,?_,by omega,oldY⟩;· exact hbY.os.trans hb.os.symm
       · exact hbY.tape.trans hb.tape.symm
       exact hbY.output.trans hb.output.symm
      have hstr:vT (wr.heap.size+1<=·) w1 (.slice none 0 0) []:=⟨none,0,rfl,Nat.le_refl _,⟨Nat.zero_le _,fun _=>rfl⟩,fun h=>absurd rfl h⟩;have Hstr:=zb hstr;clear hstr hw1;have y0:Y.cell? ⟨wr.heap.size,0,none⟩=some (Value.int .i64 kd):=by rw[hY];simp[go_sem]
      have y1:Y.cell? ⟨wr.heap.size,1,none⟩=some (.slice none 0 0):=by rw[hY];simp[go_sem]
      have y2:Y.cell? ⟨wr.heap.size,2,none⟩=some (Value.int .i64 un):=by rw[hY];simp[go_sem]
      have y3:Y.cell? ⟨wr.heap.size,3,none⟩=some (Value.int .i64 ro):=by rw[hY];simp[go_sem]
      have y4:Y.cell? ⟨wr.heap.size,4,none⟩=some (Value.int .i64 pr):=by rw[hY];simp[go_sem]
      have y5:Y.cell? ⟨wr.heap.size,5,none⟩=some (Value.bool sh):=by rw[hY];simp[go_sem]
      rw[<-hY];clear hY;have OwnY:=zb ownY;have OldY:=zb oldY;have NewY:=zb newY;have HzY:=zb hzY;have Hbl:=zb (fun g hg=>zg Hown.out g hg);obtain⟨i1,hj,hj0,hj1,hj2⟩:=info_parts Tryz.bundleInfo;have Hj:=zb (And.intro hj (And.intro hj0 (And.intro hj1 hj2)));clear hj hj0 hj1 hj2 ownY oldY newY hzY;go_wp2_with (at_builtin;refine wpList_append_lies _ rfl _ _ 70 rfl (w.heap.size+2) 76 i1 _ 6 64 Tryz.underlying70 Hj.out.1 Hj.out.2.1 Hj.out.2.2.1 Hj.out.2.2.2 rfl (by decide) _ _ _ rfl (OwnY.out.alloc _) ⟨Y.heap.size,0,none⟩ 1 1 [.int .i64 kd,.slice none 0 0,.int .i64 un,.int .i64 ro,.int .i64 pr,.bool sh] rfl rfl ?n1 ?n2 (by omega) ?n3 ?n4 ?n5 (Y.heap.size+1) ?n6 ?_);case n1=>exact World.news_of_block (cs:=#[.int .i64 kd,.slice none 0 0,.int .i64 un,.int .i64 ro,.int .i64 pr,.bool sh]) (t:=76) (fr:=(0,0)) (heap_alloc_new _ _)
      case n2=>simp[Value.oneCell']
      case n3=>unfold maxLen;omega
      case n4=>omega
      case n5=>have:=hbY.size;rw[Hz.out]at this;simp;omega
      case n6=>simp
      intro g cap' w2 hown2 hgrow hg hglt;have hb4:=(hbY.alloc hbY.size (Obj.cells #[.int .i64 kd,.slice none 0 0,.int .i64 un,.int .i64 ro,.int .i64 pr,.bool sh] 76)).grown hgrow (by have:=hbY.size;simp;omega) (fun g hg=>by rw[Hz.out];exact(Hbl.out g hg).1);have old2:∀b,b<wr.heap.size->some b≠u3.ownBlock->w2.heap[b]?=wr.heap[b]?:=fun b hb hne=>by
       rw[hgrow.block b (by have:=HzY.out;simp;omega) hne,Below.heap_alloc _ _ _ (by have:=HzY.out;omega)];exact OldY.out b hb
      have new2:∀b,wr.heap.size+1<=b->b<w1.heap.size->w2.heap[b]?=w1.heap[b]?:=fun b hb hb'=>by
       have hne:some b≠u3.ownBlock:=fun e=>by have:=(Hbl.out b e.symm).2;omega
       rw[hgrow.block b (by have:=HzY.out;simp;omega) hne,Below.heap_alloc _ _ _ (by have:=HzY.out;omega)];exact NewY.out b hb
      have hs2:Y.heap.size+1<=w2.heap.size:=by have:=hgrow.size;simpa using this
      have Hq2:=zb (show ∀q∈qs++[((⟨kd,[],un,ro,pr,sh⟩:Bd),Value.slice none 0 0)],vT (fun b=>w.heap.size+2<=b/\some b≠some g) w2 q.2 q.1.zs from fun q hq=>by
       have hzY:=HzY.out;rcases List.mem_append.1 hq with hq|hq
       · refine vT.keep (Hqa.out q hq) (by omega) fun b hP hB=>⟨⟨hP.1,?_⟩,old2 b hB hP.2⟩
         rcases hg with hg|hg;· rw[<-hg];exact hP.2
         intro e;injection e with e;omega
       rw[List.mem_singleton.1 hq];refine vT.keep Hstr.out (by omega) fun b hP hB=>⟨⟨by omega,?_⟩,new2 b hP hB⟩;rcases hg with hg|hg;· intro e;rw[<-hg]at e;have:=(Hbl.out b e.symm).2;omega
       intro e;injection e with e;omega);have Hown2:=zb hown2;clear hown2 hgrow old2 new2 hg;go_wp2;refine⟨⟨k+1,qs++[(⟨kd,[],un,ro,pr,sh⟩,.slice none 0 0)],by omega,by go_num,?_,?_,?_,hb4⟩,by simp[intOf];omega⟩
      · have:=Hown2.out
        simpa [List.flatMap_append,kr]using this
      · rw[HT.out,List.map_append,Hqs.out];rfl
      exact Hq2.out
    |some az=>
      obtain⟨i0,hi,hz0,hz1,hz2⟩:=info_parts Tryz.stringInfo;have Hi:=zb (And.intro hi (And.intro hz0 (And.intro hz1 hz2)));have Hzx:=zb hzx;clear hi hz0 hz1 hz2 hzx hzk;go_wp2_with (at_builtin;refine wpList_append_own _ rfl _ _ 58 rfl (wr.heap.size+1) 9 i0 _ 1 16 Tryz.underlying58 Hi.out.1 Hi.out.2.1 Hi.out.2.2.1 Hi.out.2.2.2 rfl (by decide) _ 0 [] rfl ⟨rfl,Or.inl ⟨rfl,rfl⟩⟩ az zs.length cz (zs.map Value.string) rfl (by simp) ?c1 ?c2 ?c3 ?c4 ?c5 ?_);case c1=>
       intro j u hu;have hne:zs≠[]:=by rintro rfl;simp at hu
       obtain⟨bz,oz,e,hBz,hx⟩:=Hzx.out hne;cases e;have:=US hx j u hu;rw[Go.WideShapes.add_plain]at this⊢;rw[<-this];exact World.cell?_of_block (Below.heap_alloc _ _ _ hBz)
      case c2=>intro u hu;obtain⟨s,-,rfl⟩:=List.mem_map.1 hu;rfl
      case c3=>unfold maxLen;omega
      case c4=>omega
      case c5=>simp
      intro v1 w1 hown1 hgrow _;have hb1:=(hb.alloc hb.size (Obj.cells #[.int .i64 kd,.slice (some az) zs.length cz,.int .i64 un,.int .i64 ro,.int .i64 pr,.bool sh] 76)).grown hgrow (by have:=hb.size;simp;omega) (fun g hg=>by cases hg);have old1:∀b,b<wr.heap.size->w1.heap[b]?=wr.heap[b]?:=fun b hb=>by
       rw[hgrow.block b (by simp;omega) (by simp[Value.ownBlock]),Below.heap_alloc _ _ _ hb]
      have hr1:w1.heap[wr.heap.size]?=some (Obj.cells #[.int .i64 kd,.slice (some az) zs.length cz,.int .i64 un,.int .i64 ro,.int .i64 pr,.bool sh] 76):=by rw[hgrow.block _ (by simp) (by simp[Value.ownBlock])];exact heap_alloc_new _ _
      have hs1:wr.heap.size+1<=w1.heap.size:=by have:=hgrow.size;simpa using this
      have hstr:=GO (by simpa using hown1) Hsz.out;have t0:w1.cell? ⟨wr.heap.size,0,none⟩=some (Value.int .i64 kd):=cell_of_row w1 _ 0 _ _ _ hr1;have t1:w1.cell? ⟨wr.heap.size,1,none⟩=some (Value.slice (some az) zs.length cz):=cell_of_row w1 _ 1 _ _ _ hr1;have t2:w1.cell? ⟨wr.heap.size,2,none⟩=some (Value.int .i64 un):=cell_of_row w1 _ 2 _ _ _ hr1;have t3:w1.cell? ⟨wr.heap.size,3,none⟩=some (Value.int .i64 ro):=cell_of_row w1 _ 3 _ _ _ hr1;have t4:w1.cell? ⟨wr.heap.size,4,none⟩=some (Value.int .i64 pr):=cell_of_row w1 _ 4 _ _ _ hr1;have t5:w1.cell? ⟨wr.heap.size,5,none⟩=some (Value.bool sh):=cell_of_row w1 _ 5 _ _ _ hr1;have f1:w1.frozen? ⟨wr.heap.size,1,none⟩=false:=by simp[World.frozen?,hr1]
      clear hown1 hgrow hr1;obtain⟨av1,cap1,rfl,-,-,-⟩:=id hstr;have Hstr:=zb hstr;clear hstr;go_upto_region 6 with(fail);obtain⟨Y,hY⟩:∃Y,Y=w1.setCell ⟨wr.heap.size,1,none⟩ (.slice av1 zs.length cap1):=⟨_,rfl⟩;have hbY:Below W.heap.size W Y:=by rw[hY];exact hb1.setCell (by rw[Hz.out];dsimp only;omega) _
      have hzY:Y.heap.size=w1.heap.size:=by rw[hY];simp[World.setCell]
      have oldY:∀b,b<wr.heap.size->Y.heap[b]?=wr.heap[b]?:=fun b hb=>by rw[hY,Below.heap_setCell _ _ _ _ (by dsimp only;omega)];exact old1 b hb
      have newY:∀b,wr.heap.size+1<=b->Y.heap[b]?=w1.heap[b]?:=fun b hb=>by rw[hY,Below.heap_setCell _ _ _ _ (by dsimp only;omega)]
      have ownY:Y.ownsRow (w.heap.size+2) 76 6 u3 qs.length (qs.flatMap kr):=by
       refine zd Hown.out ⟨?_,?_,?_,by omega,oldY⟩;· exact hbY.os.trans hb.os.symm
       · exact hbY.tape.trans hb.tape.symm
       exact hbY.output.trans hb.output.symm
      have y0:Y.cell? ⟨wr.heap.size,0,none⟩=some (Value.int .i64 kd):=by rw[hY];simp[go_sem,t0]
      have y1:Y.cell? ⟨wr.heap.size,1,none⟩=some (.slice av1 zs.length cap1):=by rw[hY];simp[go_sem,t1]
      have y2:Y.cell? ⟨wr.heap.size,2,none⟩=some (Value.int .i64 un):=by rw[hY];simp[go_sem,t2]
      have y3:Y.cell? ⟨wr.heap.size,3,none⟩=some (Value.int .i64 ro):=by rw[hY];simp[go_sem,t3]
      have y4:Y.cell? ⟨wr.heap.size,4,none⟩=some (Value.int .i64 pr):=by rw[hY];simp[go_sem,t4]
      have y5:Y.cell? ⟨wr.heap.size,5,none⟩=some (Value.bool sh):=by rw[hY];simp[go_sem,t5]
      rw[<-hY];clear hY t0 t1 t2 t3 t4 t5 f1;have OwnY:=zb ownY;have OldY:=zb oldY;have NewY:=zb newY;have HzY:=zb hzY;have Hbl:=zb (fun g hg=>zg Hown.out g hg);obtain⟨i1,hj,hj0,hj1,hj2⟩:=info_parts Tryz.bundleInfo;have Hj:=zb (And.intro hj (And.intro hj0 (And.intro hj1 hj2)));clear hj hj0 hj1 hj2 ownY oldY newY hzY old1;go_wp2_with (at_builtin;refine wpList_append_lies _ rfl _ _ 70 rfl (w.heap.size+2) 76 i1 _ 6 64 Tryz.underlying70 Hj.out.1 Hj.out.2.1 Hj.out.2.2.1 Hj.out.2.2.2 rfl (by decide) _ _ _ rfl (OwnY.out.alloc _) ⟨Y.heap.size,0,none⟩ 1 1 [.int .i64 kd,.slice av1 zs.length cap1,.int .i64 un,.int .i64 ro,.int .i64 pr,.bool sh] rfl rfl ?d1 ?d2 (by omega) ?d3 ?d4 ?d5 (Y.heap.size+1) ?d6 ?_);case d1=>exact World.news_of_block (cs:=#[.int .i64 kd,.slice av1 zs.length cap1,.int .i64 un,.int .i64 ro,.int .i64 pr,.bool sh]) (t:=76) (fr:=(0,0)) (heap_alloc_new _ _)
      case d2=>simp[Value.oneCell']
      case d3=>unfold maxLen;omega
      case d4=>omega
      case d5=>have:=hbY.size;rw[Hz.out]at this;simp;omega
      case d6=>simp
      intro g cap' w2 hown2 hgrow hg hglt;have hb4:=(hbY.alloc hbY.size (Obj.cells #[.int .i64 kd,.slice av1 zs.length cap1,.int .i64 un,.int .i64 ro,.int .i64 pr,.bool sh] 76)).grown hgrow (by have:=hbY.size;simp;omega) (fun g hg=>by rw[Hz.out];exact(Hbl.out g hg).1);have old2:∀b,b<wr.heap.size->some b≠u3.ownBlock->w2.heap[b]?=wr.heap[b]?:=fun b hb hne=>by
       rw[hgrow.block b (by have:=HzY.out;simp;omega) hne,Below.heap_alloc _ _ _ (by have:=HzY.out;omega)];exact OldY.out b hb
      have new2:∀b,wr.heap.size+1<=b->b<w1.heap.size->w2.heap[b]?=w1.heap[b]?:=fun b hb hb'=>by
       have hne:some b≠u3.ownBlock:=fun e=>by have:=(Hbl.out b e.symm).2;omega
       rw[hgrow.block b (by have:=HzY.out;simp;omega) hne,Below.heap_alloc _ _ _ (by have:=HzY.out;omega)];exact NewY.out b hb
      have hs2:Y.heap.size+1<=w2.heap.size:=by have:=hgrow.size;simpa using this
      have Hq2:=zb (show ∀q∈qs++[((⟨kd,zs,un,ro,pr,sh⟩:Bd),Value.slice av1 zs.length cap1)],vT (fun b=>w.heap.size+2<=b/\some b≠some g) w2 q.2 q.1.zs from fun q hq=>by
       have hzY:=HzY.out;rcases List.mem_append.1 hq with hq|hq
       · refine vT.keep (Hqa.out q hq) (by omega) fun b hP hB=>⟨⟨hP.1,?_⟩,old2 b hB hP.2⟩
         rcases hg with hg|hg;· rw[<-hg];exact hP.2
         intro e;injection e with e;omega
       rw[List.mem_singleton.1 hq];refine vT.keep Hstr.out (by omega) fun b hP hB=>⟨⟨by omega,?_⟩,new2 b hP hB⟩;rcases hg with hg|hg;· intro e;rw[<-hg]at e;have:=(Hbl.out b e.symm).2;omega
       intro e;injection e with e;omega);have Hown2:=zb hown2;clear hown2 hgrow old2 new2 hg;go_wp2;refine⟨⟨k+1,qs++[(⟨kd,zs,un,ro,pr,sh⟩,.slice av1 zs.length cap1)],by omega,by go_num,?_,?_,?_,hb4⟩,by simp[intOf];omega⟩
      · have:=Hown2.out
        simpa [List.flatMap_append,kr]using this
      · rw[HT.out,List.map_append,Hqs.out];rfl
      exact Hq2.out
  have hall:bs.take k=bs:=List.take_of_length_le (by omega);rw[hall]at hqs;have hbf:=NY (base':=w.heap.size+2) (Nat.le_refl _) hown (fun q hq=>vT.keep (hqa q hq) (Nat.le_refl _) fun b hP _=>⟨hP.1,rfl⟩);rw[hqs]at hbf;have hlq:qs.length=bs.length:=by rw[<-hqs,List.length_map]
  obtain⟨ax,cx,rfl,-,-⟩:=zf hown;rw[hlq]at hbf;have q0:=(hb.block w.heap.size (by rw[Hz.out];omega)).trans Hr.out.1;have q1:=(hb.block (w.heap.size+1) (by rw[Hz.out];omega)).trans Hr.out.2;have k0:wr.cell? ⟨w.heap.size,0,none⟩=some (Value.string nm):=cell_of_row wr _ 0 _ _ _ q0;have n0:wr.cell? ⟨w.heap.size+1,0,none⟩=some (Value.string ⟨#[]⟩):=cell_of_row wr _ 0 _ _ _ q1;have f0:wr.frozen? ⟨w.heap.size,0,none⟩=false:=by simp[World.frozen?,q0]
  have e0:wr.frozen? ⟨w.heap.size+1,0,none⟩=false:=by simp[World.frozen?,q1]
  have k1:wr.cell? ⟨w.heap.size,1,none⟩=some (Value.int .i64 fm):=cell_of_row wr _ 1 _ _ _ q0;have n1:wr.cell? ⟨w.heap.size+1,1,none⟩=some (Value.int .i64 0):=cell_of_row wr _ 1 _ _ _ q1;have f1:wr.frozen? ⟨w.heap.size,1,none⟩=false:=by simp[World.frozen?,q0]
  have e1:wr.frozen? ⟨w.heap.size+1,1,none⟩=false:=by simp[World.frozen?,q1]
  have k2:wr.cell? ⟨w.heap.size,2,none⟩=some (Value.int .i64 fe):=cell_of_row wr _ 2 _ _ _ q0;have n2:wr.cell? ⟨w.heap.size+1,2,none⟩=some (Value.int .i64 0):=cell_of_row wr _ 2 _ _ _ q1;have f2:wr.frozen? ⟨w.heap.size,2,none⟩=false:=by simp[World.frozen?,q0]
  have e2:wr.frozen? ⟨w.heap.size+1,2,none⟩=false:=by simp[World.frozen?,q1]
  have k3:wr.cell? ⟨w.heap.size,3,none⟩=some (Value.string ct):=cell_of_row wr _ 3 _ _ _ q0;have n3:wr.cell? ⟨w.heap.size+1,3,none⟩=some (Value.string ⟨#[]⟩):=cell_of_row wr _ 3 _ _ _ q1;have f3:wr.frozen? ⟨w.heap.size,3,none⟩=false:=by simp[World.frozen?,q0]
  have e3:wr.frozen? ⟨w.heap.size+1,3,none⟩=false:=by simp[World.frozen?,q1]
  have k4:wr.cell? ⟨w.heap.size,4,none⟩=some (Value.bool pro):=cell_of_row wr _ 4 _ _ _ q0;have n4:wr.cell? ⟨w.heap.size+1,4,none⟩=some (Value.bool false):=cell_of_row wr _ 4 _ _ _ q1;have f4:wr.frozen? ⟨w.heap.size,4,none⟩=false:=by simp[World.frozen?,q0]
  have e4:wr.frozen? ⟨w.heap.size+1,4,none⟩=false:=by simp[World.frozen?,q1]
  have k5:wr.cell? ⟨w.heap.size,5,none⟩=some (Value.slice av bs.length cap):=cell_of_row wr _ 5 _ _ _ q0;have n5:wr.cell? ⟨w.heap.size+1,5,none⟩=some (Value.slice none 0 0):=cell_of_row wr _ 5 _ _ _ q1;have f5:wr.frozen? ⟨w.heap.size,5,none⟩=false:=by simp[World.frozen?,q0]
  have e5:wr.frozen? ⟨w.heap.size+1,5,none⟩=false:=by simp[World.frozen?,q1]
  have Hbf:=zb hbf;clear q0 q1 hbf hqs hqa hown hall;rw[hlq];go_wp2;refine bodyPost_ret (v:=.agg #[.string nm,.int .i64 fm,.int .i64 fe,.string ct,.bool pro,.slice ax bs.length cx]) (by simp[results,Tryz.results129,go_sem,n0,n1,n2,n3,n4,n5]) rfl ⟨.slice ax bs.length cx,rfl,?_,?_⟩
  · have hq:=Hbf.out
    exact(((((((hq.setCell (by simp) _).setCell (by simp) _).setCell (by simp) _).setCell (by simp) _).setCell (by simp) _).setCell (by simp) _).setCell (by simp) _).mono (by omega)
  go_grown
def ji (s:ByteArray) (t:Int) (x:Pd):Bool:=eqS x.nm s&&decide (x.fm<=t)
def atL (l:List Pd) (s:ByteArray) (t:Int):Option Pd:=(l.filter (ji s t)).getLast?
def FewP (l:List Pd):Prop:=l.length<=4096/\∀p∈l,p.bs.length<=100/\∀b∈p.bs,b.zs.length<=100
def xx (w:World) (p:Pd) (e:Ending) (w':World):Prop:=∃bv,e=.returned (.tuple #[ky p bv,.bool true])/\qR w' bv p.bs/\Below w.heap.size w w'
def AtNo (w:World) (e:Ending) (w':World):Prop:=e=.returned (.tuple #[.agg #[.string ⟨#[]⟩,.int .i64 0,.int .i64 0,.string ⟨#[]⟩,.bool false,.slice none 0 0],.bool false])/\Below w.heap.size w w'
theorem at_no (v:Value) (l:List Pd) (s:ByteArray) (t:Int) (w:World) (h:qu w v l) (hf:FewP l) (ha:atL l s t=none):
 Calls Tryz.prog 77 #[v,.string s,.int .i64 t] w (AtNo w):=by
 have hh:=h;obtain⟨av,cap,rfl,-,-,-⟩:=h;have hF:l.filter (ji s t)=[]:=List.getLast?_eq_none_iff.1 ha;obtain⟨W,hW⟩:∃W,W=((w.alloc (Obj.cells #[Value.string s] 9)).alloc (Obj.cells #[Value.int .i64 t] 3)).alloc (Obj.cells #[Value.string ⟨#[]⟩,Value.int .i64 0,Value.int .i64 0,Value.string ⟨#[]⟩,Value.bool false,Value.slice none 0 0] 72):=⟨_,rfl⟩;have hw0:Below w.heap.size w W:=by rw[hW];go_grown
 have hz:W.heap.size=w.heap.size+3:=by rw[hW];simp
 have m0:W.cell? ⟨w.heap.size,0,none⟩=some (.string s):=by rw[hW];simp[go_sem]
 have m1:W.cell? ⟨w.heap.size+1,0,none⟩=some (.int .i64 t):=by rw[hW];simp[go_sem]
 have r2:W.heap[w.heap.size+2]?=some (Obj.cells #[Value.string ⟨#[]⟩,Value.int .i64 0,Value.int .i64 0,Value.string ⟨#[]⟩,Value.bool false,Value.slice none 0 0] 72):=by rw[hW];simpa using heap_alloc_new ((w.alloc _).alloc _) _
 have Hc:=zb (uC _ l s t w.heap.size (w.heap.size+1) W (hh.below hw0) hf.1 m0 m1);have HW:=zb hW;have Hr:=zb r2;have Hz:=zb hz;clear hW m0 m1 r2 hz hh;go_enter Tryz.func77,Tryz.ntmps77;go_wp2_with fail;rw[<-HW.out];refine Hc.out.mono ?_;rintro e w1 ⟨v1,rfl,hp,hb⟩;rw[show l.filter (fun x:Pd=>eqS x.nm s&&decide (x.fm<=t))=[] from hF]at hp;obtain⟨a1,c1,rfl,-,-,-⟩:=hp;have q2:=(hb.block (w.heap.size+2) (by rw[Hz.out];omega)).trans Hr.out;have n0:w1.cell? ⟨w.heap.size+2,0,none⟩=some (Value.string ⟨#[]⟩):=cell_of_row w1 _ 0 _ _ _ q2;have n1:w1.cell? ⟨w.heap.size+2,1,none⟩=some (Value.int .i64 0):=cell_of_row w1 _ 1 _ _ _ q2;have n2:w1.cell? ⟨w.heap.size+2,2,none⟩=some (Value.int .i64 0):=cell_of_row w1 _ 2 _ _ _ q2;have n3:w1.cell? ⟨w.heap.size+2,3,none⟩=some (Value.string ⟨#[]⟩):=cell_of_row w1 _ 3 _ _ _ q2;have n4:w1.cell? ⟨w.heap.size+2,4,none⟩=some (Value.bool false):=cell_of_row w1 _ 4 _ _ _ q2;have n5:w1.cell? ⟨w.heap.size+2,5,none⟩=some (Value.slice none 0 0):=cell_of_row w1 _ 5 _ _ _ q2;have e0:w1.frozen? ⟨w.heap.size+2,0,none⟩=false:=by simp[World.frozen?,q2]
 have e1:w1.frozen? ⟨w.heap.size+2,1,none⟩=false:=by simp[World.frozen?,q2]
 have e2:w1.frozen? ⟨w.heap.size+2,2,none⟩=false:=by simp[World.frozen?,q2]
 have e3:w1.frozen? ⟨w.heap.size+2,3,none⟩=false:=by simp[World.frozen?,q2]
 have e4:w1.frozen? ⟨w.heap.size+2,4,none⟩=false:=by simp[World.frozen?,q2]
 have e5:w1.frozen? ⟨w.heap.size+2,5,none⟩=false:=by simp[World.frozen?,q2]
 have hb2:=hw0.trans (hb.mono hw0.size);clear q2 hb;simp only[List.length_nil];go_wp2;refine bodyPost_ret (v:=.tuple #[.agg #[.string ⟨#[]⟩,.int .i64 0,.int .i64 0,.string ⟨#[]⟩,.bool false,.slice none 0 0],.bool false]) (by simp[results,Tryz.results77,go_sem,n0,n1,n2,n3,n4,n5]) rfl ⟨rfl,?_⟩;go_grown
theorem gi (v:Value) (l:List Pd) (s:ByteArray) (t:Int) (p:Pd) (w:World) (h:qu w v l) (hf:FewP l) (ha:atL l s t=some p):
 Calls Tryz.prog 77 #[v,.string s,.int .i64 t] w (xx w p):=by
 have hh:=h;obtain⟨av,cap,rfl,-,-,-⟩:=h;obtain⟨W,hW⟩:∃W,W=((w.alloc (Obj.cells #[Value.string s] 9)).alloc (Obj.cells #[Value.int .i64 t] 3)).alloc (Obj.cells #[Value.string ⟨#[]⟩,Value.int .i64 0,Value.int .i64 0,Value.string ⟨#[]⟩,Value.bool false,Value.slice none 0 0] 72):=⟨_,rfl⟩;have hw0:Below w.heap.size w W:=by rw[hW];go_grown
 have hz:W.heap.size=w.heap.size+3:=by rw[hW];simp
 have m0:W.cell? ⟨w.heap.size,0,none⟩=some (.string s):=by rw[hW];simp[go_sem]
 have m1:W.cell? ⟨w.heap.size+1,0,none⟩=some (.int .i64 t):=by rw[hW];simp[go_sem]
 have r2:W.heap[w.heap.size+2]?=some (Obj.cells #[Value.string ⟨#[]⟩,Value.int .i64 0,Value.int .i64 0,Value.string ⟨#[]⟩,Value.bool false,Value.slice none 0 0] 72):=by rw[hW];simpa using heap_alloc_new ((w.alloc _).alloc _) _
 have Hc:=zb (uC _ l s t w.heap.size (w.heap.size+1) W (hh.below hw0) hf.1 m0 m1);have hmem:p∈l:=(List.mem_filter.1 (List.mem_of_getLast? ha)).1;obtain⟨hp1,hp2⟩:=hf.2 p hmem;have Hp:=zb (And.intro hp1 hp2);have HW:=zb hW;have Hr:=zb r2;have Hz:=zb hz;have Ha:=zb ha;have hlen:=List.length_filter_le (ji s t) l;have hl:=hf.1;clear hW m0 m1 r2 hz hh hp1 hp2 hf ha hmem;go_enter Tryz.func77,Tryz.ntmps77;go_wp2_with fail;rw[<-HW.out];refine Hc.out.mono ?_;rintro e w1 ⟨v1,rfl,hp,hb⟩;change qu w1 v1 (l.filter (ji s t))at hp;have ha:=Ha.out;unfold atL at ha;generalize l.filter (ji s t)=F at *;obtain⟨a1,c1,rfl,hFc,-,hx⟩:=hp;have hne:F≠[]:=by rintro rfl;cases ha
 have h0:0<F.length:=by cases F with
  |nil=>exact absurd rfl hne
  |cons a r=>simp
 obtain⟨b,o,rfl,hB,hx⟩:=hx hne;obtain⟨⟨c0,s0⟩,d1,d2,⟨d3,s3⟩,d4,bv,d5,hbs⟩:=hx (F.length-1) (by omega);have ep:F[F.length-1]'(by omega)=p:=by have:=List.getLast?_eq_getElem? (l:=F);rw[ha,List.getElem?_eq_getElem (by omega)]at this;exact(Option.some.inj this).symm
 rw[ep]at c0 s0 d1 d2 d3 s3 d4 hbs;have Hcl:=zb (Jl p bv w1 hbs Hp.out.1 Hp.out.2);obtain⟨az,cz,rfl,-,-,-⟩:=hbs;have q2:=(hb.block (w.heap.size+2) (by rw[Hz.out];omega)).trans Hr.out;have hsz:=hb.size;rw[Hz.out]at hsz;have hb2:=hw0.trans (hb.mono hw0.size);have Q2:=zb q2;have Hx:=zb ep;obtain⟨n,hn⟩:∃n,n=F.length-1:=⟨_,rfl⟩;rw[<-hn]at c0 d1 d2 d3 d4 d5;have hn1:F.length=n+1:=by omega
 have hF0:((F.length:Int)==0)=false:=beq_eq_false_iff_ne.2 (by omega);have hn2:((F.length:Int)-1)=(n:Int):=by omega
 clear hx ep q2 hb ha hn hne;unfold ky at Hcl;go_wp2_with fail;refine Hcl.out.mono ?_;rintro e w2 ⟨bv2,rfl,hbf,hb3⟩;obtain⟨a2,c2,rfl,-,-,-⟩:=id hbf;unfold ky;have q3:=(hb3.block (w.heap.size+2) (by omega)).trans Q2.out;have n0:w2.cell? ⟨w.heap.size+2,0,none⟩=some (Value.string ⟨#[]⟩):=cell_of_row w2 _ 0 _ _ _ q3;have e0:w2.frozen? ⟨w.heap.size+2,0,none⟩=false:=by simp[World.frozen?,q3]
 have n1:w2.cell? ⟨w.heap.size+2,1,none⟩=some (Value.int .i64 0):=cell_of_row w2 _ 1 _ _ _ q3;have e1:w2.frozen? ⟨w.heap.size+2,1,none⟩=false:=by simp[World.frozen?,q3]
 have n2:w2.cell? ⟨w.heap.size+2,2,none⟩=some (Value.int .i64 0):=cell_of_row w2 _ 2 _ _ _ q3;have e2:w2.frozen? ⟨w.heap.size+2,2,none⟩=false:=by simp[World.frozen?,q3]
 have n3:w2.cell? ⟨w.heap.size+2,3,none⟩=some (Value.string ⟨#[]⟩):=cell_of_row w2 _ 3 _ _ _ q3;have e3:w2.frozen? ⟨w.heap.size+2,3,none⟩=false:=by simp[World.frozen?,q3]
 have n4:w2.cell? ⟨w.heap.size+2,4,none⟩=some (Value.bool false):=cell_of_row w2 _ 4 _ _ _ q3;have e4:w2.frozen? ⟨w.heap.size+2,4,none⟩=false:=by simp[World.frozen?,q3]
 have n5:w2.cell? ⟨w.heap.size+2,5,none⟩=some (Value.slice none 0 0):=cell_of_row w2 _ 5 _ _ _ q3;have e5:w2.frozen? ⟨w.heap.size+2,5,none⟩=false:=by simp[World.frozen?,q3]
 have hb4:=hb2.trans (hb3.mono hb2.size);have hs2:=hb3.size;have Hbf:=zb hbf;clear q3 hbf hb3 hb2 c0 d1 d2 d3 d4 d5;go_wp2;refine bodyPost_ret (v:=.tuple #[.agg #[.string p.nm,.int .i64 p.fm,.int .i64 p.fe,.string p.ct,.bool p.pro,.slice a2 p.bs.length c2],.bool true]) (by simp[results,Tryz.results77,go_sem,n0,n1,n2,n3,n4,n5]) rfl ⟨.slice a2 p.bs.length c2,rfl,?_,?_⟩
 · have hq:=Hbf.out
   exact((((((hq.setCell (by simp;omega) _).setCell (by simp;omega) _).setCell (by simp;omega) _).setCell (by simp;omega) _).setCell (by simp;omega) _).setCell (by simp;omega) _).at
 go_grown
end Go.Proofs.YtngippiilgdnoaaGreat
namespace Go.Proofs.YtngippiilgdnoaaGreat
open Go.RowKit
open Go.RowKit
end Go.Proofs.YtngippiilgdnoaaGreat
