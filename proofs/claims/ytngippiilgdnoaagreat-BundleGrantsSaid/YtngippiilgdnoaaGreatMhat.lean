/-
  One record appended to a row of the call's own: which blocks turn, and where the row lies then.
-/
import Derived.Test.YtngippiilgdnoaaGreatMhar
import Derived.Test.YtngippiilgdnoaaGreatMhas
set_option maxRecDepth 100000
set_option maxHeartbeats 25600000
namespace Go.Proofs.YtngippiilgdnoaaGreat
open Go.RowKit
theorem kz {α:Type} {c:α->List Value} {sz:Nat} (hc:∀a,(c a).length=sz) {w:World} {base:Nat} {e:TypeId} {a:Option Addr} {n cp:Nat} {M:List α} {q:α} (h:w.ownsRow base e sz (.slice a n cp) (M++[q]).length ((M++[q]).flatMap c)):
 ∃g,a=some ⟨g,0,none⟩/\n=M.length+1/\base<=g/\g<w.heap.size/\w.ownsRow base e sz (.slice (some ⟨g,0,none⟩) (M.length+1) cp) (M.length+1) ((M++[q]).flatMap c)/\∀j,j<sz->w.cell? ⟨g,M.length*sz+j,none⟩=(c q)[j]?:=by
 have hl:(M++[q]).length=M.length+1:=by simp
 rw[hl]at h;have h0:=h;rcases h0.2 with⟨-,h1⟩|⟨g,cap,cur,hv,hB,hh,-⟩;· omega
 simp only[Value.slice.injEq]at hv;obtain⟨rfl,rfl,rfl⟩:=hv;refine⟨g,rfl,rfl,hB,(zu hh),h,fun j hj=>?_⟩;rw[h.cellAt (M.length*sz+j) (by rw[Nat.add_mul,Nat.one_mul];omega)];have:=vJ c sz hc (M++[q]) M.length j (by simp) hj;rw[List.getElem_concat_length rfl]at this;exact this
theorem WQ {α:Type} (A vs:List α) (d:Nat) (h:d+vs.length=A.length):VR A d vs=A.take d++vs:=by
 apply List.ext_getElem?;intro j;rw[uO _ _ _ _ (by omega)];by_cases h1:j<d;· rw[if_neg (by omega),List.getElem?_append_left (by rw[List.length_take];omega),List.getElem?_take_of_lt h1]
 rw[List.getElem?_append_right (by rw[List.length_take];omega),List.length_take,show min d A.length=d by omega];by_cases h2:j<d+vs.length;· rw[if_pos (by omega)]
 rw[if_neg (by omega),List.getElem?_eq_none (by omega),List.getElem?_eq_none (by omega)]
theorem js {α:Type} {c:α->List Value} {sz:Nat} (hc:∀a,(c a).length=sz) (M:List α) (q q':α) (d:Nat) (vs:List Value) (hd:d+vs.length=sz) (h:c q'=(c q).take d++vs):
 VR ((M++[q]).flatMap c) (M.length*sz+d) vs=(M++[q']).flatMap c:=by
 have e1:=zN c sz hc M;have e2:(M++[q]).flatMap c=M.flatMap c++c q:=by rw[List.flatMap_append];simp
 have e3:(M++[q']).flatMap c=M.flatMap c++c q':=by rw[List.flatMap_append];simp
 rw[WQ _ _ _ (by rw[e2,List.length_append,hc,e1];omega),e2,e3,h,List.take_append,e1];rw[List.take_of_length_le (by rw[e1];omega),show M.length*sz+d-M.length*sz=d by omega,List.append_assoc]
theorem vw {w w':World} {base:Nat} {e:TypeId} {sz n:Nat} {v:Value} {xs:List Value} {k:Option Nat} (h:w.ownsRow base e sz v n xs) (hg:w.grownBy w' k) (hk:v.ownBlock=none\/v.ownBlock≠k):w'.ownsRow base e sz v n xs:=by
 obtain⟨h1,h2⟩:=h;refine⟨h1,?_⟩;rcases h2 with h2|⟨g,cap,cur,hv,hg1,hh,r⟩;· exact Or.inl h2
 refine Or.inr ⟨g,cap,cur,hv,hg1,?_,r⟩;rw[hg.block g (zu hh) ?_];· exact hh
 rcases hk with hk|hk;· rw[hv]at hk;cases hk
 rw[hv]at hk;exact hk
theorem kS {w:World} {base:Nat} {e:TypeId} {sz n g cap:Nat} {xs:List Value} (h:w.ownsRow base e sz (.slice (some ⟨g,0,none⟩) n cap) n xs) (o k:Nat) (hk:o+k<=n*sz):w.there g o k:=fun j hj=>by
 refine⟨?_,h.frozenAt _⟩;rw[h.cellAt _ (by omega),List.getElem?_eq_getElem (by rw[h.1];omega)];rfl
theorem j8 {α:Type} {c:α->List Value} {sz:Nat} {P:Program} (hc:∀a,(c a).length=sz) (h1c:∀a,∀u∈c a,u.oneCell'=true) (E S:TypeId) (z:Value) (bytes:Nat) (hU:P.underlying S=some (.slice E)) (hI:(P.info? E).map (fun i=>(i.zero,i.size,i.bytes))=some (some z,sz,bytes)) (hzs:z.cells.size=sz) (hsz:0<sz)
 {w:World} {ops:Array Oper} {rest:List Oper} {o:Oper} {a:Act} {Q:Exit->Act->World->Prop} (hgd:o.guard=none) (s x:Operand)
 (ho:o.op=.call { callee:=.builtin .append,args:=#[s,x],argTypes:=#[S,S] })
 (base:Nat) (hbase:base<=w.heap.size) (v vx:Value) (L:List α) (r:α) (hs:a.eval s=v) (hx:a.eval x=vx) (hown:w.ownsRow base E sz v L.length (L.flatMap c)) (hX:zi c sz w vx [r]) (hlen:L.length+1<=maxLen) (hby:(L.length+1)*bytes<=140737488355328)
 (h:∀R:List α,RowKit.Hid (R=L++[r])->∀v' w',w'.ownsRow base E sz v' R.length (R.flatMap c)->w.grownBy w' v.ownBlock->RowKit.Hid (∀g,v'.ownBlock=some g->v.ownBlock=some g\/w.heap.size<=g)->wpList P ops Q rest (a.put o.dst v') w'):wpList P ops Q (o::rest) a w:=by
 obtain⟨i0,hi,hz0,hz1,hz2⟩:=info_parts hI;obtain⟨av,cap,rfl,hlc,hm,hX⟩:=hX;obtain⟨b,off,rfl,-,hx2⟩:=hX (by simp);refine wpList_append_lies _ hgd s x _ ho base E i0 _ sz bytes hU hi hz0 hz1 hz2 hzs hsz v L.length _ hs hown ⟨b,off,none⟩ 1 cap (c r) hx (by rw[hc,Nat.one_mul]) ?_ (h1c r) (by decide) hlen hby hbase w.heap.size rfl ?_
 · intro j u hj
   have hjl:j<sz:=by rw[<-hc r];exact(List.getElem?_eq_some_iff.1 hj).1
   have c0:=hx2 0 (by simp) j hjl;rw[Nat.zero_mul,Nat.add_zero]at c0;rw[show(⟨b,off,none⟩:Addr).add j=⟨b,off+j,none⟩ by unfold Addr.add;split<;>simp_all];exact c0.trans hj
 intro g cp w' h1 h2 h3 h4;refine h _ (zb rfl) _ w' ?_ h2 (zb fun g' hg'=>?_)
 · rw[List.length_append,List.length_singleton,List.flatMap_append]
   have e:[r].flatMap c=c r:=by simp
   rw[e];exact h1
 simp only[Value.ownBlock,Option.some.injEq]at hg';subst hg';rcases h3 with h3|h3;· exact Or.inl h3
 exact Or.inr (by omega)
end Go.Proofs.YtngippiilgdnoaaGreat
