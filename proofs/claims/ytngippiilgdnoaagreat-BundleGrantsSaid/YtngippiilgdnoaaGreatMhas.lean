/-
  A list of records copied: appended to a slice that has no room.
-/
import Derived.Test.YtngippiilgdnoaaGreatMhal
import Derived.Deep.RegionLawGrows
set_option maxRecDepth 100000
set_option maxHeartbeats 25600000
namespace Go.Proofs.YtngippiilgdnoaaGreat
open Go.RowKit
theorem XA {w w':World} (h:w.grownBy w' none):Below w.heap.size w w':=(Below.refl _ w).grown h (Nat.le_refl _) (fun g hg=>by cases hg)
theorem zZ {α:Type} {c:α->List Value} {sz:Nat} {P:Program} (hc:∀a,(c a).length=sz) (h1c:∀a,∀u∈c a,u.oneCell'=true) (E S:TypeId) (z:Value) (bytes:Nat) (hU:P.underlying S=some (.slice E)) (hI:(P.info? E).map (fun i=>(i.zero,i.size,i.bytes))=some (some z,sz,bytes)) (hzs:z.cells.size=sz) (hsz:0<sz)
 {w:World} {o:Oper} {a:Act} {K:Act->World->Prop} {Q:Exit->Act->World->Prop} (hgd:o.guard=none) (s x:Operand)
 (ho:o.op=.call { callee:=.builtin .append,args:=#[s,x],argTypes:=#[S,S] })
 (base:Nat) (hbase:base<=w.heap.size) (av:Option Addr) (vx:Value) (X:List α) (hs:a.eval s=.slice av 0 0) (hx:a.eval x=vx) (hown:w.ownsRow base E sz (.slice av 0 0) 0 []) (hX:zi c sz w vx X) (hlen:X.length<=maxLen) (hby:X.length*bytes<=140737488355328)
 (h:∀v' w',w'.ownsRow base E sz v' X.length (X.flatMap c)->Below w.heap.size w w'->K (a.put o.dst v') w'):o.wp P a w K Q:=by
 obtain⟨i0,hi,hz0,hz1,hz2⟩:=info_parts hI;by_cases hne:X=[]
 · subst hne
   obtain⟨ax,cap,e,hlc,hm,-⟩:=hX;subst e;have hr:(Builtin.append_ #[S,S] o.type #[.slice av 0 0,.slice ax 0 cap]).run P w=.ok (.slice av 0 0) w:=by
    cases av<;>cases ax<;>simp[Builtin.append_,run_underlying hU,sizeOf,typeInfo,hi,Builtin.lenOf,Builtin.firstCells,storeCells,loadCells,loadCellsFrom]
   unfold Oper.wp execOp;simp only[ho,resolve,invoke,builtin,Sem.run_bind,Sem.run_pure,Result.andThen_ok,List.map_toArray,List.map_cons,List.map_nil,hs,hx];rw[show(([]:List α).length)=0 from rfl,hr];exact h _ w hown (Below.refl _ _)
 obtain⟨ax,cap,e,hlc,hm,hX⟩:=hX;subst e;obtain⟨b,off,rfl,hB,hx2⟩:=hX hne;have hpos:0<X.length:=List.length_pos_iff.2 hne;have:=step_append_grows (P:=P) (ops:=#[]) (o:=o) (a:=a) (w:=w) (K:=K) (Q:=Q) (E:=True) hgd s x S ho E i0 z sz bytes hU hi hz0 hz1 hz2 hzs hsz av 0 0 [] hs (fun _=>⟨rfl,rfl⟩) (by simp) (fun _ _ j u hu=>by simp at hu) ⟨b,off,none⟩ X.length cap (X.flatMap c) hx (zN c sz hc X) (fun j u hj=>by
  have hjl:j<X.length*sz:=by rw[<-zN c sz hc X];exact(List.getElem?_eq_some_iff.1 hj).1
  have hi2:j / sz<X.length:=(Nat.div_lt_iff_lt_mul hsz).2 hjl;have hjm:j % sz<sz:=Nat.mod_lt _ hsz;have hjd:j / sz*sz+j % sz=j:=by rw[Nat.mul_comm];exact Nat.div_add_mod j sz
  have c0:=hx2 (j / sz) hi2 (j % sz) hjm;have hg:=vJ c sz hc X (j / sz) (j % sz) hi2 hjm;rw[hjd,hj]at hg;rw[show(⟨b,off,none⟩:Addr).add j=⟨b,off+j / sz*sz+j % sz,none⟩ by rw[Nat.add_assoc,hjd];unfold Addr.add;split<;>simp_all];exact c0.trans hg.symm) (fun u hu=>by
  obtain⟨r,-,hr⟩:=List.mem_flatMap.1 hu;exact h1c r u hr) (by omega) (by omega) (by rw[Nat.zero_add];exact hby) (fun v' w' h1 h2=>h v' w' (zx (by simpa using h1) hbase) (XA h2));rw[if_pos (by simp[Region.wanted,hgd])]at this;exact this
theorem zX {α:Type} {c:α->List Value} {sz:Nat} {P:Program} (hc:∀a,(c a).length=sz) (h1c:∀a,∀u∈c a,u.oneCell'=true) (E S:TypeId) (z:Value) (bytes:Nat) (hU:P.underlying S=some (.slice E)) (hI:(P.info? E).map (fun i=>(i.zero,i.size,i.bytes))=some (some z,sz,bytes)) (hzs:z.cells.size=sz) (hsz:0<sz)
 {w:World} {ops:Array Oper} {rest:List Oper} {o:Oper} {a:Act} {Q:Exit->Act->World->Prop} (hgd:o.guard=none) (s x:Operand)
 (ho:o.op=.call { callee:=.builtin .append,args:=#[s,x],argTypes:=#[S,S] })
 (base:Nat) (hbase:base<=w.heap.size) (v vx:Value) (L X:List α) (hs:a.eval s=v) (hx:a.eval x=vx) (hown:w.ownsRow base E sz v L.length (L.flatMap c)) (hX:zi c sz w vx X) (hlen:L.length+X.length<=maxLen) (hby:(L.length+X.length)*bytes<=140737488355328)
 (h:∀R:List α,RowKit.Hid (R=L++X)->∀v' w',w'.ownsRow base E sz v' R.length (R.flatMap c)->w.grownBy w' v.ownBlock->wpList P ops Q rest (a.put o.dst v') w'):wpList P ops Q (o::rest) a w:=by
 obtain⟨i0,hi,hz0,hz1,hz2⟩:=info_parts hI;obtain⟨av,cap,rfl,hlc,hm,hX⟩:=hX;cases av with
 |none=>
   obtain rfl:=hm.2 rfl;obtain rfl:X=[]:=by
    cases X with
    |nil=>rfl
    |cons p r=>obtain⟨b,o,e,-⟩:=hX (by simp);cases e
   refine wpList_append_own_none hgd s x _ ho base E i0 sz hU hi v L.length _ hs hown hx (h L (zb (List.append_nil _).symm) v w hown ⟨rfl,rfl,rfl,Nat.le_refl _,fun _ _ _=>rfl⟩)
 |some ad=>
   refine wpList_append_own _ hgd s x _ ho base E i0 _ sz bytes hU hi hz0 hz1 hz2 hzs hsz v L.length _ hs hown ad X.length cap (X.flatMap c) hx (zN c sz hc X) ?_ ?_ hlen hby hbase ?_
   · intro j u hj
     have hjl:j<X.length*sz:=by rw[<-zN c sz hc X];exact(List.getElem?_eq_some_iff.1 hj).1
     have hi2:j / sz<X.length:=(Nat.div_lt_iff_lt_mul hsz).2 hjl;have hjm:j % sz<sz:=Nat.mod_lt _ hsz;have hjd:j / sz*sz+j % sz=j:=by rw[Nat.mul_comm];exact Nat.div_add_mod j sz
     obtain⟨b,o,e,-,hx2⟩:=hX (by rintro rfl;simp at hjl);cases e;have c0:=hx2 (j / sz) hi2 (j % sz) hjm;have hg:=vJ c sz hc X (j / sz) (j % sz) hi2 hjm;rw[hjd,hj]at hg;rw[show(⟨b,o,none⟩:Addr).add j=⟨b,o+j / sz*sz+j % sz,none⟩ by rw[Nat.add_assoc,hjd];unfold Addr.add;split<;>simp_all];exact c0.trans hg.symm
   · intro u hu
     obtain⟨r,-,hr⟩:=List.mem_flatMap.1 hu;exact h1c r u hr
   intro v' w' h1 h2 _;refine h _ (zb rfl) v' w' ?_ h2;rw[List.length_append,List.flatMap_append];exact h1
theorem zk {w:World} {base:Nat} {e:TypeId} {sz n:Nat} {v:Value} {xs:List Value} {g:Nat} {cs:Array Value} {t:TypeId} {fr:Nat×Nat} (h:w.ownsRow base e sz v n xs) (hg:w.heap[g]?=some (.cells cs t fr)) (hte:t≠e):v.ownBlock≠some g:=by
 rcases h.2 with⟨rfl,-⟩|⟨g',cap,cur,rfl,-,hh,-⟩;· intro h;cases h
 intro hq;simp only[Value.ownBlock,Option.some.injEq]at hq;subst hq;rw[hh]at hg;cases hg;exact hte rfl
theorem yk {w:World} {base base':Nat} {e e':TypeId} {sz sz' n n':Nat} {v v':Value} {xs xs':List Value} (h:w.ownsRow base e sz v n xs) (h':w.ownsRow base' e' sz' v' n' xs') (hte:e'≠e):v.ownBlock=none\/v.ownBlock≠v'.ownBlock:=by
 rcases h'.2 with⟨rfl,-⟩|⟨g',cap,cur,rfl,-,hh,-⟩
 · cases hv:v.ownBlock with
   |none=>exact Or.inl rfl
   |some k=>exact Or.inr (by intro h;cases h)
 exact Or.inr (zk h hh hte)
end Go.Proofs.YtngippiilgdnoaaGreat
