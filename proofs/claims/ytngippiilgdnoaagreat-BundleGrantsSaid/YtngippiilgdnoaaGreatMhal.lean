/-
  Records of one size in memory, read cell by cell: rows of them, their parts, and the append of a whole list.
-/
import Derived.Test.YtngippiilgdnoaaGreatMhah
import Derived.Laws.AppendOwnNone
import Derived.Laws.OwnMore
set_option maxRecDepth 100000
set_option maxHeartbeats 25600000
namespace Go.Proofs.YtngippiilgdnoaaGreat
open Go.RowKit
section
variable {α:Type} {c:α->List Value} {sz:Nat}
def RecR (c:α->List Value) (sz:Nat) (w:World) (b o:Nat) (x:α):Prop:=∀j,j<sz->w.cell? ⟨b,o+j,none⟩=(c x)[j]?
theorem RecR.stays:Yl (RecR c sz):=fun _ _ b _ _ hb hB h j hj=>(hb.cell (p:=⟨b,_,none⟩) hB).trans (h j hj)
def zi (c:α->List Value) (sz:Nat) (w:World) (v:Value) (l:List α):Prop:=zz sz (RecR c sz) w v l
theorem zi.below {w w':World} {v:Value} {l:List α} (h:zi c sz w v l) (hb:Below w.heap.size w w'):zi c sz w' v l:=zz.below RecR.stays h hb
theorem zi.own {w:World} {base:Nat} {e:TypeId} {v:Value} {l:List α} (hc:∀a,(c a).length=sz) (h:w.ownsRow base e sz v l.length (l.flatMap c)):zi c sz w v l:=zz.own c hc h fun _ _ _ _ h=>h
theorem zi.one (w:World) (x:α) (t:TypeId) (cs:Array Value) (h:cs=(c x).toArray):zi c sz (w.alloc (Obj.cells cs t)) (.slice (some ⟨w.heap.size,0,none⟩) 1 1) [x]:=by
 subst h;refine⟨_,1,rfl,Nat.le_refl _,⟨by decide,fun h=>by cases h⟩,fun _=>⟨w.heap.size,0,rfl,by simp,fun i hi=>?_⟩⟩;obtain rfl:i=0:=by simpa using hi
 intro j hj;rw[cell_of_row _ _ _ _ _ _ (heap_alloc_new _ _)];simp
theorem yD {R:World->Nat->Nat->α->Prop} {w:World} {a:Option Addr} {c:Nat} {N:List α} (h:zz sz R w (.slice a N.length c) N) (j:Nat) (hj:j<=N.length):zz sz R w (.slice a j c) (N.take j):=by
 obtain⟨av,cap,e,hl,hm,hx⟩:=h;cases e;have hlt:(N.take j).length=j:=by rw[List.length_take];omega
 refine⟨a,c,by rw[hlt],by omega,hm,fun hne=>?_⟩;have hN:N≠[]:=by rintro rfl;simp at hne
 obtain⟨b,o,rfl,hB,hx⟩:=hx hN;refine⟨b,o,rfl,hB,fun i hi=>?_⟩;rw[List.getElem_take];exact hx i (by omega)
theorem yE {R:World->Nat->Nat->α->Prop} {w:World} {a:Option Addr} {c:Nat} {N:List α} (h:zz sz R w (.slice a N.length c) N) (j:Nat) (hj:j<=N.length):
 zz sz R w (.slice (if c=j then a else a.map (·.add (j*sz))) (N.length-j) (c-j)) (N.drop j):=by
 obtain⟨av,cap,e,hl,hm,hx⟩:=h;cases e;have hlt:(N.drop j).length=N.length-j:=List.length_drop;by_cases hc:c=j
 · rw[if_pos hc]
   have hN:N.drop j=[]:=List.drop_eq_nil_of_le (by omega);refine⟨a,c-j,by rw[hlt],by omega,⟨by have:=hm.1;omega,fun e=>by have:=hm.2 e;omega⟩,fun hne=>absurd hN hne⟩
 rw[if_neg hc];cases a with
 |none=>have:=hm.2 rfl;omega
 |some ad=>
   refine⟨some (ad.add (j*sz)),c-j,by rw[hlt];rfl,by omega,⟨by have:=hm.1;omega,fun e=>by cases e⟩,fun hne=>?_⟩;have hN:N≠[]:=by rintro rfl;simp at hne
   obtain⟨b,o,e,hB,hx2⟩:=hx hN;cases e;refine⟨b,o+j*sz,by unfold Addr.add;split<;>simp_all,hB,fun i hi=>?_⟩;rw[List.getElem_drop];have:=hx2 (j+i) (by omega);rwa[Nat.add_assoc,<-Nat.add_mul]
theorem zx {w:World} {b b':Nat} {e:TypeId} {n:Nat} {v:Value} {xs:List Value} (h:w.ownsRow b e sz v n xs) (hb:b'<=b):w.ownsRow b' e sz v n xs:=by
 obtain⟨h1,h2⟩:=h;refine⟨h1,?_⟩;rcases h2 with h2|⟨g,cap,cur,hv,hg,r⟩;· exact Or.inl h2
 exact Or.inr ⟨g,cap,cur,hv,Nat.le_trans hb hg,r⟩
theorem vu (w:World) (e:TypeId):(w.alloc (Obj.cells #[] e)).ownsRow w.heap.size e sz (.slice (some ⟨w.heap.size,0,none⟩) 0 0) 0 []:=
 ⟨by simp,Or.inr ⟨w.heap.size,0,#[],rfl,Nat.le_refl _,heap_alloc_new _ _,Nat.le_refl _,by decide,by simp,by simp⟩⟩
theorem ZG {P:Program} (hc:∀a,(c a).length=sz) (h1c:∀a,∀u∈c a,u.oneCell'=true) (E S:TypeId) (z:Value) (bytes:Nat) (hU:P.underlying S=some (.slice E)) (hI:(P.info? E).map (fun i=>(i.zero,i.size,i.bytes))=some (some z,sz,bytes)) (hzs:z.cells.size=sz) (hsz:0<sz)
 {w:World} {ops:Array Oper} {rest:List Oper} {o:Oper} {a:Act} {Q:Exit->Act->World->Prop} (hgd:o.guard=none) (s x:Operand)
 (ho:o.op=.call { callee:=.builtin .append,args:=#[s,x],argTypes:=#[S,S] })
 (base:Nat) (hbase:base<=w.heap.size) (v vx:Value) (L X:List α) (hs:a.eval s=v) (hx:a.eval x=vx) (hown:w.ownsRow base E sz v L.length (L.flatMap c)) (hX:zi c sz w vx X) (hlen:L.length+X.length<=maxLen) (hby:(L.length+X.length)*bytes<=140737488355328)
 (h:∀R:List α,RowKit.Hid (R=L++X)->∀v' w',w'.ownsRow base E sz v' R.length (R.flatMap c)->Below base w w'->wpList P ops Q rest (a.put o.dst v') w'):wpList P ops Q (o::rest) a w:=by
 obtain⟨i0,hi,hz0,hz1,hz2⟩:=info_parts hI;obtain⟨av,cap,rfl,hlc,hm,hX⟩:=hX;cases av with
 |none=>
   obtain rfl:=hm.2 rfl;obtain rfl:X=[]:=by
    cases X with
    |nil=>rfl
    |cons p r=>obtain⟨b,o,e,-⟩:=hX (by simp);cases e
   refine wpList_append_own_none hgd s x _ ho base E i0 sz hU hi v L.length _ hs hown hx (h L (zb (List.append_nil _).symm) v w hown (Below.refl _ _))
 |some ad=>
   refine wpList_append_own _ hgd s x _ ho base E i0 _ sz bytes hU hi hz0 hz1 hz2 hzs hsz v L.length _ hs hown ad X.length cap (X.flatMap c) hx (zN c sz hc X) ?_ ?_ hlen hby hbase ?_
   · intro j u hj
     have hjl:j<X.length*sz:=by rw[<-zN c sz hc X];exact(List.getElem?_eq_some_iff.1 hj).1
     have hi2:j / sz<X.length:=(Nat.div_lt_iff_lt_mul hsz).2 hjl;have hjm:j % sz<sz:=Nat.mod_lt _ hsz;have hjd:j / sz*sz+j % sz=j:=by rw[Nat.mul_comm];exact Nat.div_add_mod j sz
     obtain⟨b,o,e,-,hx2⟩:=hX (by rintro rfl;simp at hjl);cases e;have c0:=hx2 (j / sz) hi2 (j % sz) hjm;have hg:=vJ c sz hc X (j / sz) (j % sz) hi2 hjm;rw[hjd,hj]at hg;rw[show(⟨b,o,none⟩:Addr).add j=⟨b,o+j / sz*sz+j % sz,none⟩ by rw[Nat.add_assoc,hjd];unfold Addr.add;split<;>simp_all];exact c0.trans hg.symm
   · intro u hu
     obtain⟨r,-,hr⟩:=List.mem_flatMap.1 hu;exact h1c r u hr
   intro v' w' h1 h2 _;refine h _ (zb rfl) v' w' ?_ ((Below.refl base w).grown h2 hbase (fun g hg=>(zg hown g hg).1));rw[List.length_append,List.flatMap_append];exact h1
end
end Go.Proofs.YtngippiilgdnoaaGreat
