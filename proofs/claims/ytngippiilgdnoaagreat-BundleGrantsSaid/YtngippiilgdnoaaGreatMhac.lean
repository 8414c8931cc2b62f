/-
  A region that draws its order, as wp_region_free3; but one of its first operations, the p-th, turns the world's law: ahead of it C false holds, behind it C true (an append in place). It is done once.
-/
import Derived.Test.YtngippiilgdnoaaGreatMhaa
import Derived.Orders
set_option maxRecDepth 100000
set_option maxHeartbeats 25600000
namespace Go.Proofs.YtngippiilgdnoaaGreat
open Go.RowKit
def zC:List (Option Nat)->(Nat->Value)->Nat->Array Value->Array Value
 | [],_,_,t=>t
 |none::r,v,k,t=>zC r v (k+1) t
 |some d::r,v,k,t=>zC r v (k+1) (t.setIfInBounds d (v k))
def updV (v:Nat->Value) (i:Nat) (x:Value):Nat->Value:=fun j=>if j=i then x else v j
theorem kk {v:Nat->Value} {i:Nat} {x:Value}:∀(ds:List (Option Nat)) (k:Nat) (t:Array Value),i<k->zC ds (updV v i x) k t=zC ds v k t
 | [],_,_,_=>rfl
 |none::r,k,t,h=>kk r (k+1) t (by omega)
 |some d::r,k,t,h=>by
   show zC r (updV v i x) (k+1) (t.setIfInBounds d (updV v i x k))=zC r v (k+1) (t.setIfInBounds d (v k));rw[kk r (k+1) _ (by omega)];have e:updV v i x k=v k:=if_neg (by omega);rw[e]
theorem kP {v:Nat->Value} {d:Nat} {x:Value}:∀(ds:List (Option Nat)) (k:Nat) (t:Array Value),(∀d'∈ds,d'≠some d)->zC ds v k (t.setIfInBounds d x)=(zC ds v k t).setIfInBounds d x
 | [],_,_,_=>rfl
 |none::r,k,t,h=>kP r (k+1) t (fun d' hd=>h d' (List.mem_cons_of_mem _ hd))
 |some d'::r,k,t,h=>by
   have hne:d'≠d:=fun e=>h (some d') List.mem_cons_self (by rw[e]);show zC r v (k+1) ((t.setIfInBounds d x).setIfInBounds d' (v k))=(zC r v (k+1) (t.setIfInBounds d' (v k))).setIfInBounds d x;rw[<-kP r (k+1) _ (fun d' hd=>h d' (List.mem_cons_of_mem _ hd))]
   congr 1
   exact Array.setIfInBounds_comm _ _ (Ne.symm hne)
def ZI:List (Option Nat)->Bool
 | []=>true
 |none::r=>ZI r
 |some d::r=>(r.all fun d'=>decide (d'≠some d))&&ZI r
theorem jM {v:Nat->Value} {x:Value} {d:Nat}:∀(ds:List (Option Nat)) (k i:Nat) (t:Array Value),ZI ds=true->ds[i]?=some (some d)->zC ds (updV v (k+i) x) k t=(zC ds v k t).setIfInBounds d x
 | [],_,_,_,_,h=>by simp at h
 |none::r,k,0,t,_,h=>by simp at h
 |none::r,k,i+1,t,hn,h=>by
   have:=jM (v:=v) (x:=x) (d:=d) r (k+1) i t hn (by simpa using h);show zC r (updV v (k+(i+1)) x) (k+1) t=_;rw[show k+(i+1)=k+1+i by omega];exact this
 |some d'::r,k,0,t,hn,h=>by
   obtain rfl:d'=d:=by simpa using h
   have h1:∀d''∈r,d''≠some d':=by have:=(Bool.and_eq_true _ _▸hn:_/\_).1;intro d'' hd;have:=List.all_eq_true.1 this d'' hd;simpa using this
   show zC r (updV v (k+0) x) (k+1) (t.setIfInBounds d' (updV v (k+0) x k))=(zC r v (k+1) (t.setIfInBounds d' (v k))).setIfInBounds d' x;rw[kk r (k+1) _ (by omega),kP r _ _ h1,kP r _ _ h1];have e:updV v (k+0) x k=x:=if_pos rfl;rw[e];simp
 |some d'::r,k,i+1,t,hn,h=>by
   have hn2:ZI r=true:=(Bool.and_eq_true _ _▸hn:_/\_).2;have:=jM (v:=v) (x:=x) (d:=d) r (k+1) i (t.setIfInBounds d' (v k)) hn2 (by simpa using h);show zC r (updV v (k+(i+1)) x) (k+1) (t.setIfInBounds d' (updV v (k+(i+1)) x k))=_;have e:updV v (k+(i+1)) x k=v k:=if_neg (by omega);rw[e,show k+(i+1)=k+1+i by omega];exact this
theorem jg {v:Nat->Value} {x:Value}:∀(ds:List (Option Nat)) (k i:Nat) (t:Array Value),ds[i]?=some none->zC ds (updV v (k+i) x) k t=zC ds v k t
 | [],_,_,_,h=>by simp at h
 |none::r,k,0,t,h=>kk r (k+1) t (by omega)
 |none::r,k,i+1,t,h=>by
   have:=jg (v:=v) (x:=x) r (k+1) i t (by simpa using h);show zC r (updV v (k+(i+1)) x) (k+1) t=_;rw[show k+(i+1)=k+1+i by omega];exact this
 |some d'::r,k,0,t,h=>by simp at h
 |some d'::r,k,i+1,t,h=>by
   have:=jg (v:=v) (x:=x) r (k+1) i (t.setIfInBounds d' (v k)) (by simpa using h);show zC r (updV v (k+(i+1)) x) (k+1) (t.setIfInBounds d' (updV v (k+(i+1)) x k))=_;have e:updV v (k+(i+1)) x k=v k:=if_neg (by omega);rw[e,show k+(i+1)=k+1+i by omega];exact this
def oldV (ds:List (Option Nat)) (t:Array Value) (i:Nat):Value:=match ds[i]? with|some (some d)=>t.getD d undef|_=>undef
theorem jN (t:Array Value) (v:Nat->Value):∀(ds:List (Option Nat)) (k:Nat),(∀i d,ds[i]?=some (some d)->v (k+i)=t.getD d undef)->zC ds v k t=t
 | [],_,_=>rfl
 |none::r,k,h=>jN t v r (k+1) (fun i d hd=>by
   have:=h (i+1) d (by simpa using hd);rwa[show k+(i+1)=k+1+i by omega]at this)
 |some d::r,k,h=>by
   have e:t.setIfInBounds d (v k)=t:=by
    have h0:v k=t.getD d undef:=h 0 d (by simp);rw[h0];apply Array.ext;· simp
    intro j h1 h2;rw[Array.getElem_setIfInBounds];split
    · rename_i hj
      subst hj;simp[Array.getD,h2]
    rfl
   show zC r v (k+1) (t.setIfInBounds d (v k))=t;rw[e];exact jN t v r (k+1) (fun i d hd=>by
    have:=h (i+1) d (by simpa using hd);rwa[show k+(i+1)=k+1+i by omega]at this)
def Wo (ops:Array Oper):Bool:=
 ((List.range ops.size).all fun i=>(ops.getD i default).guard.isNone&&(ops.getD i default).after.all fun e=>decide (e.on<i)||!Region.binds .any e)&&
 ((List.range (ops.size-1)).all fun i=>(List.range ops.size).any fun j=>decide (i<j)&&(ops.getD j default).after.any fun e=>e.on==i&&Region.binds .any e)&&
 ZI (ops.toList.map (·.dst))
section
variable {P:Program} {ops:Array Oper} {Q:Exit->Act->World->Prop} {a0:Act} {C:World->Prop} {φ:Nat->Value->World->Prop} {L:Nat}
structure xf (ops:Array Oper) (a0:Act) (C:World->Prop) (φ:Nat->Value->World->Prop) (L:Nat) (l:Array Bool) (a:Act) (w:World):Prop where
 size:l.size=ops.size
 last:l.getD L true=false
 closed:∀i,i<ops.size->l.getD i true=true->∀e∈(ops.getD i default).after,Region.binds .any e=true->l.getD e.on false=true
 c:C w
 ex:∃v,a={ a0 with tmps:=zC (ops.toList.map (·.dst)) v 0 a0.tmps }/\∀i,i<L->l.getD i true=true->φ i (v i) w
theorem yJ {l:Array Bool} {i:Nat}:i∈Region.ready .any ops l↔i<ops.size/\l.getD i true=false/\∀e∈(ops.getD i default).after,Region.binds .any e=true->l.getD e.on false=true:=by
 unfold Region.ready;rw[List.mem_filter,List.mem_range];constructor
 · rintro⟨h1,h2⟩
   have e:ops[i]?=some (ops.getD i default):=by simp[Array.getD,h1]
   rw[e]at h2;simp only[Option.map_some,Option.getD_some,Bool.and_eq_true,Bool.not_eq_true',Array.all_eq_true']at h2;refine⟨h1,h2.1,fun e he hb=>?_⟩;have:=h2.2 e he;rw[hb]at this;simpa using this
 rintro⟨h1,h2,h3⟩;have e:ops[i]?=some (ops.getD i default):=by simp[Array.getD,h1]
 rw[e];refine⟨h1,?_⟩;simp only[Option.map_some,Option.getD_some,Bool.and_eq_true,Bool.not_eq_true',Array.all_eq_true'];refine⟨h2,fun e he=>?_⟩;cases hb:Region.binds .any e with
 |false=>rfl
 |true=>simp[h3 e he hb]
theorem yl {l:Array Bool} {i:Nat} {b:Bool} (h:i<l.size):l.getD i b=l[i]:=by simp[Array.getD,h]
theorem vy {l:Array Bool} {i j:Nat} {b:Bool} (hi:i<l.size):(l.setIfInBounds i true).getD j b=if j=i then true else l.getD j b:=by
 rw[Array.getD_eq_getD_getElem?,Array.getD_eq_getD_getElem?,Array.getElem?_setIfInBounds];by_cases h:i=j
 · subst h
   simp[hi]
 rw[if_neg h,if_neg (Ne.symm h)]
theorem Et (hL:ops.size=L+1) (hf:Wo ops=true)
 (hop:∀i,i<L->∀v w,C w->(∀e∈(ops.getD i default).after,Region.binds .any e=true->φ e.on (v e.on) w)->
  (ops.getD i default).wp P { a0 with tmps:=zC (ops.toList.map (·.dst)) v 0 a0.tmps } w (fun a' w'=>∃x,a'=({ a0 with tmps:=zC (ops.toList.map (·.dst)) v 0 a0.tmps }:Act).put (ops.getD i default).dst x/\C w'/\(∀j y,φ j y w->φ j y w')/\φ i x w') Q)
 (hlast:∀v w,C w->(∀i,i<L->φ i (v i) w)->(ops.getD L default).wp P { a0 with tmps:=zC (ops.toList.map (·.dst)) v 0 a0.tmps } w (fun a' w'=>Q .normal a' w') Q):
 ∀(fuel:Nat) (l:Array Bool) (a:Act) (w:World),ops.size<=fuel+l.toList.count true->xf ops a0 C φ L l a w->wpAny P .any ops Q fuel l a w:=by
 unfold Wo at hf;rw[Bool.and_eq_true,Bool.and_eq_true]at hf;obtain⟨⟨f1,f2⟩,f3⟩:=hf;have hg:∀i,i<ops.size->(ops.getD i default).guard=none/\∀e∈(ops.getD i default).after,Region.binds .any e=true->e.on<i:=fun i hi=>by
  have:=List.all_eq_true.1 f1 i (List.mem_range.2 hi);rw[Bool.and_eq_true]at this;refine⟨Option.isNone_iff_eq_none.1 this.1,fun e he=>?_⟩;have h2:=(Array.all_eq_true'.1 this.2) e he;intro hb;rw[hb]at h2;simpa using h2
 have hs:∀i,i<L->∃j,i<j/\j<ops.size/\∃e∈(ops.getD j default).after,e.on=i/\Region.binds .any e=true:=fun i hi=>by
  have:=List.all_eq_true.1 f2 i (List.mem_range.2 (by omega));obtain⟨j,hj,h⟩:=List.any_eq_true.1 this;rw[Bool.and_eq_true,decide_eq_true_eq]at h;obtain⟨e,he,h3⟩:=Array.any_eq_true'.1 h.2;rw[Bool.and_eq_true]at h3;exact⟨j,h.1,List.mem_range.1 hj,e,he,beq_iff_eq.1 h3.1,h3.2⟩
 intro fuel;induction fuel with
 |zero=>
   intro l a w hc hI;exfalso;have h1:l.toList.count true=l.toList.length:=by have:=List.count_le_length (a:=true) (l:=l.toList);have:=hI.size;simp at *;omega
   have h2:=List.count_eq_length.1 h1;have h3:=hI.last;have hlt:L<l.size:=by rw[hI.size];omega
   have h4:=h2 l[L] (by simp);rw[yl hlt,<-h4]at h3;cases h3
 |succ fuel ih=>
   intro l a w hc hI;refine⟨fun hr=>?_,fun i hi=>?_⟩
   · exfalso
     have key:∀n,∀i,i<=n->i<ops.size->l.getD i true=true:=by
      intro n;induction n with
      |zero=>
        intro i hin hi;obtain rfl:i=0:=by omega
        cases hb:l.getD 0 true with
        |true=>rfl
        |false=>have:(0:Nat)∈Region.ready .any ops l:=yJ.2 ⟨hi,hb,fun e he hb=>absurd ((hg 0 hi).2 e he hb) (by omega)⟩;rw[hr]at this;cases this
      |succ n ihn=>
        intro i hin hi;cases hb:l.getD i true with
        |true=>rfl
        |false=>
          have:i∈Region.ready .any ops l:=yJ.2 ⟨hi,hb,fun e he hb=>by
           have h1:=(hg i hi).2 e he hb;have h2:=ihn e.on (by omega) (by omega);have h3:e.on<l.size:=by rw[hI.size];omega
           rw[yl h3]at h2⊢;exact h2⟩;rw[hr]at this;cases this
     have:=key L L (Nat.le_refl _) (by omega);rw[hI.last]at this;cases this
   obtain⟨h1,h2,h3⟩:=yJ.1 hi;have hil:i<l.size:=by rw[hI.size];exact h1
   have hoi:ops[i]?=some (ops.getD i default):=by simp[Array.getD,h1]
   have hdsi:(ops.toList.map (·.dst))[i]?=some (ops.getD i default).dst:=by rw[List.getElem?_map,Array.getElem?_toList,hoi];rfl
   obtain⟨v,rfl,hv⟩:=hI.ex;have hdeps:∀e∈(ops.getD i default).after,Region.binds .any e=true->l.getD e.on false=true:=h3;have hcount:ops.size<=fuel+(l.setIfInBounds i true).toList.count true:=by
    have e1:l.toList[i]'(by simpa using hil)=false:=by rw[yl hil]at h2;simpa using h2
    rw[Array.toList_setIfInBounds,List.count_set (by simpa using hil)];rw[e1];show ops.size<=fuel+(List.count true l.toList-0+1);omega
   unfold wpOp;simp only[hoi];rw[if_pos (by unfold Region.wanted;rw[(hg i h1).1])];left;by_cases hiL:i<L
   · have hd2:∀e∈(ops.getD i default).after,Region.binds .any e=true->φ e.on (v e.on) w:=fun e he hb=>by
      have q:=(hg i h1).2 e he hb;refine hv e.on (by omega) ?_;have h5:=hdeps e he hb;have h6:e.on<l.size:=by rw[hI.size];omega
      rw[yl h6]at h5⊢;exact h5
     refine Oper.wp_mono (fun a' w'=>?_) (hop i hiL v w hI.c hd2);rintro⟨x,rfl,hC',hst,hφ⟩;refine ih _ _ _ hcount ⟨by simp[hI.size],?_,?_,hC',updV v i x,?_,?_⟩
     · rw[vy hil,if_neg (by omega)]
       exact hI.last
     · intro k hk hlk e he hb
       rw[vy hil]at hlk⊢;by_cases hki:k=i
       · subst hki
         have:=hdeps e he hb;split;· rfl
         exact this
       rw[if_neg hki]at hlk;have:=hI.closed k hk hlk e he hb;split;· rfl
       exact this
     · cases hd:(ops.getD i default).dst with
       |none=>rw[hd]at hdsi;have:=jg (v:=v) (x:=x) _ 0 i a0.tmps hdsi;rw[Nat.zero_add]at this;rw[this];rfl
       |some d=>rw[hd]at hdsi;have:=jM (v:=v) (x:=x) _ 0 i a0.tmps f3 hdsi;rw[Nat.zero_add]at this;rw[this];rfl
     intro k hk hlk;rw[vy hil]at hlk;by_cases hki:k=i
     · subst hki
       have e:updV v k x k=x:=if_pos rfl;rw[e];exact hφ
     rw[if_neg hki]at hlk;have e:updV v i x k=v k:=if_neg hki;rw[e];exact hst _ _ (hv k hk hlk)
   obtain rfl:i=L:=by omega
   have hall:∀n,∀k,k<i->i<=k+n->l.getD k true=true:=by
    intro n;induction n with
    |zero=>intro k hk hkn;omega
    |succ n ihn=>
      intro k hk hkn;obtain⟨j,hj1,hj2,e,he,rfl,hb⟩:=hs k hk;have hlt:e.on<l.size:=by rw[hI.size];omega
      have:l.getD e.on false=true:=by
       by_cases hji:j=i;· subst hji;exact hdeps e he hb
       exact hI.closed j hj2 (ihn j (by omega) (by omega)) e he hb
      rw[yl hlt]at this⊢;exact this
   refine Oper.wp_mono (fun a' w' hQ=>?_) (hlast v w hI.c (fun k hk=>hv k hk (hall i k hk (by omega))));have hr:Region.ready .any ops (l.setIfInBounds i true)=[]:=by
    apply List.eq_nil_iff_forall_not_mem.2;intro k hk;obtain⟨g1,g2,-⟩:=yJ.1 hk;rw[vy hil]at g2;by_cases hki:k=i;· rw[if_pos hki]at g2;cases g2
    rw[if_neg hki,hall i k (by omega) (by omega)]at g2;cases g2
   cases fuel with
   |zero=>exact⟨hr,hQ⟩
   |succ fuel=>exact⟨fun _=>hQ,fun k hk=>by rw[hr]at hk;cases hk⟩
theorem VB {id:Nat} {w:World} (hm:P.follows .mixedOrders=true) (hL:ops.size=L+1) (hf:Wo ops=true) (hC:C { w with drawn:=w.drawn+1 })
 (hop:∀i,i<L->∀v w,C w->(∀e∈(ops.getD i default).after,Region.binds .any e=true->φ e.on (v e.on) w)->
  (ops.getD i default).wp P { a0 with tmps:=zC (ops.toList.map (·.dst)) v 0 a0.tmps } w (fun a' w'=>∃x,a'=({ a0 with tmps:=zC (ops.toList.map (·.dst)) v 0 a0.tmps }:Act).put (ops.getD i default).dst x/\C w'/\(∀j y,φ j y w->φ j y w')/\φ i x w') Q)
 (hlast:∀v w,C w->(∀i,i<L->φ i (v i) w)->(ops.getD L default).wp P { a0 with tmps:=zC (ops.toList.map (·.dst)) v 0 a0.tmps } w (fun a' w'=>Q .normal a' w') Q):
 (Code.region id ops true).wp P Q a0 w:=by
 refine wp_region_any hm (Et (C:=C) (φ:=φ) hL hf hop hlast _ _ _ _ (by omega) ⟨by simp,?_,?_,hC,oldV (ops.toList.map (·.dst)) a0.tmps,?_,?_⟩);· simp[Array.getD,hL]
 · intro i hi hl
   simp[Array.getD,hi]at hl
 · rw[jN]
   intro i d hd;rw[Nat.zero_add];unfold oldV;rw[hd]
 intro i hi hl;simp[Array.getD,hL,show i<L+1 by omega]at hl
def kL (φ:Nat->Value->World->Prop) (v:Nat->Value) (w:World):List Edge->Prop
 | []=>True
 |e::r=>φ e.on (v e.on) w/\kL φ v w r
theorem kL.of {v:Nat->Value} {w:World}:∀(l:List Edge),(∀e∈l,φ e.on (v e.on) w)->kL φ v w l
 | [],_=>trivial
 |e::r,h=>⟨h e List.mem_cons_self,kL.of r (fun e he=>h e (List.mem_cons_of_mem _ he))⟩
def AllL (φ:Nat->Value->World->Prop) (v:Nat->Value) (w:World):Nat->Prop
 |0=>True
 |n+1=>AllL φ v w n/\φ n (v n) w
theorem AllL.of {v:Nat->Value} {w:World}:∀n,(∀i,i<n->φ i (v i) w)->AllL φ v w n
 |0,_=>trivial
 |n+1,h=>⟨AllL.of n (fun i hi=>h i (by omega)),h n (by omega)⟩
def yY (P:Program) (Q:Exit->Act->World->Prop) (C:World->Prop) (φ:Nat->Value->World->Prop) (fr:(Nat->Value)->Act):List Oper->Nat->Prop
 | [],_=>True
 | [o],k=>∀v w,C w->AllL φ v w k->o.wp P (fr v) w (fun a' w'=>Q .normal a' w') Q
 |o::o2::rest,k=>(∀v w,C w->kL φ v w (o.after.toList.filter (Region.binds .any))->∀K:Act->World->Prop,(∀x w',C w'->(∀j y,φ j y w->φ j y w')->φ k x w'->K ((fr v).put o.dst x) w')->o.wp P (fr v) w K Q)/\yY P Q C φ fr (o2::rest) (k+1)
theorem yY.at {fr:(Nat->Value)->Act}:∀(l:List Oper) (k i:Nat) (o:Oper),yY P Q C φ fr l k->l[i]?=some o->i+1<l.length->
 ∀v w,C w->kL φ v w (o.after.toList.filter (Region.binds .any))->∀K:Act->World->Prop,(∀x w',C w'->(∀j y,φ j y w->φ j y w')->φ (k+i) x w'->K ((fr v).put o.dst x) w')->o.wp P (fr v) w K Q
 | [],_,_,_,_,_,h=>by simp at h
 | [_],_,_,_,_,_,h=>by simp at h
 |o1::o2::rest,k,0,o,hf,ho,_=>by
   obtain rfl:o1=o:=by simpa using ho
   exact hf.1
 |o1::o2::rest,k,i+1,o,hf,ho,hlt=>by
   have:=yY.at (o2::rest) (k+1) i o hf.2 (by simpa using ho) (by simpa using hlt);rw[show k+1+i=k+(i+1) by omega]at this;exact this
theorem yY.end {fr:(Nat->Value)->Act}:∀(l:List Oper) (k i:Nat) (o:Oper),yY P Q C φ fr l k->l[i]?=some o->i+1=l.length->
 ∀v w,C w->AllL φ v w (k+i)->o.wp P (fr v) w (fun a' w'=>Q .normal a' w') Q
 | [],_,_,_,_,_,h=>by simp at h
 | [o1],k,i,o,hf,ho,h=>by
   obtain rfl:i=0:=by simpa using h
   obtain rfl:o1=o:=by simpa using ho
   exact hf
 |o1::o2::rest,k,i,o,hf,ho,h=>by
   obtain⟨i,rfl⟩:∃j,i=j+1:=⟨i-1,by simp at h;omega⟩;have:=yY.end (o2::rest) (k+1) i o hf.2 (by simpa using ho) (by simpa using h);rw[show k+1+i=k+(i+1) by omega]at this;exact this
theorem yq {id:Nat} {w:World} (C:World->Prop) (φ:Nat->Value->World->Prop) (hm:P.follows .mixedOrders=true) (hL:0<ops.size) (hf:Wo ops=true) (hC:C { w with drawn:=w.drawn+1 })
 (h:yY P Q C φ (fun v=>{ a0 with tmps:=zC (ops.toList.map (·.dst)) v 0 a0.tmps }) ops.toList 0):(Code.region id ops true).wp P Q a0 w:=by
 obtain⟨L,hL2⟩:∃L,ops.size=L+1:=⟨ops.size-1,by omega⟩;refine VB (C:=C) (φ:=φ) hm hL2 hf hC (fun i hi v w hc hd=>?_) (fun v w hc hall=>?_)
 · have ho:ops.toList[i]?=some (ops.getD i default):=by
    rw[Array.getElem?_toList];simp[Array.getD,show i<ops.size by omega]
   refine yY.at ops.toList 0 i _ h ho (by simp;omega) v w hc (kL.of _ (fun e he=>hd e (by simpa using(List.mem_filter.1 he).1) (List.mem_filter.1 he).2)) _ (fun x w' h1 h2 h3=>⟨x,rfl,h1,h2,?_⟩);rwa[Nat.zero_add]at h3
 have ho:ops.toList[L]?=some (ops.getD L default):=by rw[Array.getElem?_toList];simp[Array.getD,hL2]
 refine yY.end ops.toList 0 L _ h ho (by simp;omega) v w hc ?_;rw[Nat.zero_add];exact AllL.of _ hall
end
def Vb (ops:Array Oper) (L:Nat):Bool:=
 decide (L<ops.size)&&
 ((List.range L).all fun i=>(ops.getD i default).guard.isNone)&&
 ((List.range ops.size).all fun i=>(ops.getD i default).after.all fun e=>decide (e.on<i)||!Region.binds .any e)&&
 ((List.range L).all fun i=>(List.range (L+1)).any fun j=>decide (i<j)&&(ops.getD j default).after.any fun e=>e.on==i&&Region.binds .any e)&&
 ((List.range ops.size).all fun i=>decide (i<=L)||(ops.getD i default).after.any fun e=>e.on+1==i&&Region.binds .any e)&&
 ZI ((ops.toList.take L).map (·.dst))
section
variable {P:Program} {ops:Array Oper} {Q:Exit->Act->World->Prop} {a0:Act} {C:World->Prop} {φ:Nat->Value->World->Prop} {L:Nat}
structure Nd (ops:Array Oper) (a0:Act) (C:World->Prop) (φ:Nat->Value->World->Prop) (L:Nat) (l:Array Bool) (a:Act) (w:World):Prop where
 size:l.size=ops.size
 last:∀i,L<=i->i<ops.size->l.getD i true=false
 closed:∀i,i<ops.size->l.getD i true=true->∀e∈(ops.getD i default).after,Region.binds .any e=true->l.getD e.on false=true
 c:C w
 ex:∃v,a={ a0 with tmps:=zC ((ops.toList.take L).map (·.dst)) v 0 a0.tmps }/\∀i,i<L->l.getD i true=true->φ i (v i) w
theorem WE (i:Nat) (hi:i<ops.size) {rest:List Oper} {K:Act->World->Prop} {a:Act} {w:World} (h:wpList P ops Q (ops.getD i default::rest) a w) (hK:∀a w,wpList P ops Q rest a w->K a w):wpOp P ops Q i K a w:=by
 have hoi:ops[i]?=some (ops.getD i default):=by simp[Array.getD,hi]
 generalize ops.getD i default=o at hoi h;unfold wpOp;simp only[hoi];unfold wpList at h;split
 · rename_i hw
   rw[if_pos hw]at h;exact h.imp (Oper.wp_mono hK) id
 rename_i hw;rw[if_neg hw]at h;exact hK _ _ h
theorem JG (ht:∀i,i<ops.size->L<i->∃e∈(ops.getD i default).after,e.on+1=i/\Region.binds .any e=true) (hb:∀i,i<ops.size->∀e∈(ops.getD i default).after,Region.binds .any e=true->e.on<i):
 ∀(n m:Nat),L<=m->m+n=ops.size->∀(fuel:Nat) (l:Array Bool) (a:Act) (w:World),n<=fuel->l.size=ops.size->(∀i,i<m->l.getD i false=true)->(∀i,m<=i->i<ops.size->l.getD i true=false)->wpList P ops Q (ops.toList.drop m) a w->wpAny P .any ops Q fuel l a w:=by
 intro n;induction n with
 |zero=>
   intro m hm hn fuel l a w hf hs h1 h2 h;have hr:Region.ready .any ops l=[]:=by
    apply List.eq_nil_iff_forall_not_mem.2;intro k hk;obtain⟨g1,g2,-⟩:=yJ.1 hk;have:=h1 k (by omega);have hkl:k<l.size:=by omega
    rw[yl hkl]at this g2;rw[this]at g2;cases g2
   rw[List.drop_eq_nil_of_le (by simp;omega)]at h;have hQ:Q .normal a w:=h;cases fuel with
   |zero=>exact⟨hr,hQ⟩
   |succ fuel=>exact⟨fun _=>hQ,fun k hk=>by rw[hr]at hk;cases hk⟩
 |succ n ih=>
   intro m hm hn fuel l a w hf hs h1 h2 h;obtain⟨fuel,rfl⟩:∃f,fuel=f+1:=⟨fuel-1,by omega⟩;have hml:m<ops.size:=by omega
   have hdone:∀k,k<m->l.getD k false=true:=h1;have hrm:m∈Region.ready .any ops l:=yJ.2 ⟨hml,h2 m (Nat.le_refl _) hml,fun e he hbe=>hdone _ (hb m hml e he hbe)⟩;refine⟨fun hr=>(by rw[hr]at hrm;cases hrm),fun i hi=>?_⟩;obtain⟨g1,g2,g3⟩:=yJ.1 hi;have him:i=m:=by
    rcases Nat.lt_or_ge i m with hlt|hge
    · have:=hdone i hlt
      have hil:i<l.size:=by omega
      rw[yl hil]at this g2;rw[this]at g2;cases g2
    rcases Nat.eq_or_lt_of_le hge with he|hgt;· exact he.symm
    obtain⟨e,he,heq,hbe⟩:=ht i g1 (by omega);have:=g3 e he hbe;have hel:e.on<l.size:=by omega
    have h4:=h2 e.on (by omega) (by omega);rw[yl hel]at this h4;rw[this]at h4;cases h4
   subst him;have hdrop:ops.toList.drop i=ops.getD i default::ops.toList.drop (i+1):=by rw[List.drop_eq_getElem_cons (by simpa using hml)];simp[Array.getD,hml]
   rw[hdrop]at h;refine WE i hml h fun a' w' hk=>?_;refine ih (i+1) (by omega) (by omega) fuel _ a' w' (by omega) (by simpa using hs) (fun k hk1=>?_) (fun k hk1 hk2=>?_) hk
   · rw[vy (by omega)]
     split;· rfl
     exact hdone k (by omega)
   rw[vy (by omega),if_neg (by omega)];exact h2 k (by omega) hk2
theorem Gi (hf:Vb ops L=true)
 (hop:∀i,i<L->∀v w,C w->(∀e∈(ops.getD i default).after,Region.binds .any e=true->φ e.on (v e.on) w)->
  (ops.getD i default).wp P { a0 with tmps:=zC ((ops.toList.take L).map (·.dst)) v 0 a0.tmps } w (fun a' w'=>∃x,a'=({ a0 with tmps:=zC ((ops.toList.take L).map (·.dst)) v 0 a0.tmps }:Act).put (ops.getD i default).dst x/\C w'/\(∀j y,φ j y w->φ j y w')/\φ i x w') Q)
 (hlast:∀v w,C w->(∀i,i<L->φ i (v i) w)->wpList P ops Q (ops.toList.drop L) { a0 with tmps:=zC ((ops.toList.take L).map (·.dst)) v 0 a0.tmps } w):
 ∀(fuel:Nat) (l:Array Bool) (a:Act) (w:World),ops.size<=fuel+l.toList.count true->Nd ops a0 C φ L l a w->wpAny P .any ops Q fuel l a w:=by
 unfold Vb at hf;simp only[Bool.and_eq_true]at hf;obtain⟨⟨⟨⟨⟨f0,f1⟩,f2⟩,f3⟩,f4⟩,f5⟩:=hf;have f0:L<ops.size:=of_decide_eq_true f0;have hg:∀i,i<L->(ops.getD i default).guard=none:=fun i hi=>Option.isNone_iff_eq_none.1 (List.all_eq_true.1 f1 i (List.mem_range.2 hi));have hb:∀i,i<ops.size->∀e∈(ops.getD i default).after,Region.binds .any e=true->e.on<i:=fun i hi e he hbe=>by
  have:=(Array.all_eq_true'.1 (List.all_eq_true.1 f2 i (List.mem_range.2 hi))) e he;rw[hbe]at this;simpa using this
 have hs:∀i,i<L->∃j,i<j/\j<=L/\∃e∈(ops.getD j default).after,e.on=i/\Region.binds .any e=true:=fun i hi=>by
  have:=List.all_eq_true.1 f3 i (List.mem_range.2 hi);obtain⟨j,hj,h⟩:=List.any_eq_true.1 this;rw[Bool.and_eq_true,decide_eq_true_eq]at h;obtain⟨e,he,h3⟩:=Array.any_eq_true'.1 h.2;rw[Bool.and_eq_true]at h3;have:=List.mem_range.1 hj;exact⟨j,h.1,by omega,e,he,beq_iff_eq.1 h3.1,h3.2⟩
 have ht:∀i,i<ops.size->L<i->∃e∈(ops.getD i default).after,e.on+1=i/\Region.binds .any e=true:=fun i hi hl=>by
  have:=List.all_eq_true.1 f4 i (List.mem_range.2 hi);rw[Bool.or_eq_true,decide_eq_true_eq]at this;rcases this with h|h;· omega
  obtain⟨e,he,h3⟩:=Array.any_eq_true'.1 h;rw[Bool.and_eq_true]at h3;exact⟨e,he,beq_iff_eq.1 h3.1,h3.2⟩
 intro fuel;induction fuel with
 |zero=>
   intro l a w hc hI;exfalso;have h1:l.toList.count true=l.toList.length:=by have:=List.count_le_length (a:=true) (l:=l.toList);have:=hI.size;simp at *;omega
   have h2:=List.count_eq_length.1 h1;have h3:=hI.last L (Nat.le_refl _) f0;have hlt:L<l.size:=by rw[hI.size];omega
   have h4:=h2 l[L] (by simp);rw[yl hlt,<-h4]at h3;cases h3
 |succ fuel ih=>
   intro l a w hc hI;by_cases hall:∀k,k<L->l.getD k false=true
   · -- only the line is left
     obtain⟨v,rfl,hv⟩:=hI.ex;have hv2:∀i,i<L->φ i (v i) w:=fun i hi=>hv i hi (by
      have:=hall i hi;have hil:i<l.size:=by rw[hI.size];omega
      rwa[yl hil]at this⊢);refine JG (L:=L) ht hb (ops.size-L) L (Nat.le_refl _) (by omega) (fuel+1) l _ w ?_ hI.size hall hI.last (hlast v w hI.c hv2);have hcnt:l.toList.count true<=L:=by
      have e1:l.toList=l.toList.take L++l.toList.drop L:=(List.take_append_drop _ _).symm;have e2:(l.toList.drop L).count true=0:=by rw[List.count_eq_zero];intro hm;obtain⟨j,hj,he⟩:=List.mem_iff_getElem.1 hm;rw[List.getElem_drop]at he;rw[List.length_drop,Array.length_toList,hI.size]at hj;have:=hI.last (L+j) (by omega) (by omega);rw[yl (by rw[hI.size];omega)]at this;rw[Array.getElem_toList]at he;rw[this]at he;cases he
      rw[e1,List.count_append,e2,Nat.add_zero];exact Nat.le_trans (List.count_le_length) (List.length_take_le _ _)
     omega
   refine⟨fun hr=>?_,fun i hi=>?_⟩
   · exfalso
     apply hall;have key:∀n,∀i,i<=n->i<L->l.getD i false=true:=by
      intro n;induction n with
      |zero=>
        intro i hin hi;obtain rfl:i=0:=by omega
        have h0l:0<l.size:=by rw[hI.size];omega
        cases hb0:l.getD 0 true with
        |true=>rw[yl h0l]at hb0⊢;exact hb0
        |false=>have:(0:Nat)∈Region.ready .any ops l:=yJ.2 ⟨by omega,hb0,fun e he hbe=>absurd (hb 0 (by omega) e he hbe) (by omega)⟩;rw[hr]at this;cases this
      |succ n ihn=>
        intro i hin hi;have hil:i<l.size:=by rw[hI.size];omega
        cases hb0:l.getD i true with
        |true=>rw[yl hil]at hb0⊢;exact hb0
        |false=>
          have:i∈Region.ready .any ops l:=yJ.2 ⟨by omega,hb0,fun e he hbe=>by
           have h1:=hb i (by omega) e he hbe;exact ihn e.on (by omega) (by omega)⟩;rw[hr]at this;cases this
     exact fun k hk=>key k k (Nat.le_refl _) hk
   obtain⟨h1,h2,h3⟩:=yJ.1 hi;have hiL:i<L:=by
    rcases Nat.lt_or_ge i L with h|h;· exact h
    exfalso;apply hall;have hLr:i=L:=by
     rcases Nat.eq_or_lt_of_le h with h|h;· exact h.symm
     obtain⟨e,he,heq,hbe⟩:=ht i h1 h;have q:=h3 e he hbe;have hel:e.on<l.size:=by rw[hI.size];omega
     have h4:=hI.last e.on (by omega) (by omega);rw[yl hel]at q h4;rw[q]at h4;cases h4
    subst hLr;have hdn:∀n,∀k,k<i->i<=k+n->l.getD k false=true:=by
     intro n;induction n with
     |zero=>intro k hk hkn;omega
     |succ n ihn=>
       intro k hk hkn;obtain⟨j,hj1,hj2,e,he,rfl,hbe⟩:=hs k hk;by_cases hji:j=i;· subst hji;exact h3 e he hbe
       have q:=ihn j (by omega) (by omega);have hjl:j<l.size:=by rw[hI.size];omega
       exact hI.closed j (by omega) (by rw[yl hjl]at q⊢;exact q) e he hbe
    exact fun k hk=>hdn i k hk (by omega)
   have hil:i<l.size:=by rw[hI.size];exact h1
   have hoi:ops[i]?=some (ops.getD i default):=by simp[Array.getD,h1]
   have hdsi:((ops.toList.take L).map (·.dst))[i]?=some (ops.getD i default).dst:=by rw[List.getElem?_map,List.getElem?_take_of_lt hiL,Array.getElem?_toList,hoi];rfl
   obtain⟨v,rfl,hv⟩:=hI.ex;have hcount:ops.size<=fuel+(l.setIfInBounds i true).toList.count true:=by
    have e1:l.toList[i]'(by simpa using hil)=false:=by rw[yl hil]at h2;simpa using h2
    rw[Array.toList_setIfInBounds,List.count_set (by simpa using hil)];rw[e1];show ops.size<=fuel+(List.count true l.toList-0+1);omega
   unfold wpOp;simp only[hoi];rw[if_pos (by unfold Region.wanted;rw[hg i hiL])];left;have hd2:∀e∈(ops.getD i default).after,Region.binds .any e=true->φ e.on (v e.on) w:=fun e he hbe=>by
    have q:=hb i h1 e he hbe;refine hv e.on (by omega) ?_;have h5:=h3 e he hbe;have h6:e.on<l.size:=by rw[hI.size];omega
    rw[yl h6]at h5⊢;exact h5
   refine Oper.wp_mono (fun a' w'=>?_) (hop i hiL v w hI.c hd2);rintro⟨x,rfl,hC',hst,hφ⟩;refine ih _ _ _ hcount ⟨by simp[hI.size],?_,?_,hC',updV v i x,?_,?_⟩
   · intro k hk1 hk2
     rw[vy hil,if_neg (by omega)];exact hI.last k hk1 hk2
   · intro k hk hlk e he hbe
     rw[vy hil]at hlk⊢;by_cases hki:k=i
     · subst hki
       have:=h3 e he hbe;split;· rfl
       exact this
     rw[if_neg hki]at hlk;have:=hI.closed k hk hlk e he hbe;split;· rfl
     exact this
   · cases hd:(ops.getD i default).dst with
     |none=>rw[hd]at hdsi;have:=jg (v:=v) (x:=x) _ 0 i a0.tmps hdsi;rw[Nat.zero_add]at this;rw[this];rfl
     |some d=>rw[hd]at hdsi;have:=jM (v:=v) (x:=x) _ 0 i a0.tmps f5 hdsi;rw[Nat.zero_add]at this;rw[this];rfl
   intro k hk hlk;rw[vy hil]at hlk;by_cases hki:k=i
   · subst hki
     have e:updV v k x k=x:=if_pos rfl;rw[e];exact hφ
   rw[if_neg hki]at hlk;have e:updV v i x k=v k:=if_neg hki;rw[e];exact hst _ _ (hv k hk hlk)
def yR (P:Program) (Q:Exit->Act->World->Prop) (C:World->Prop) (φ:Nat->Value->World->Prop) (fr:(Nat->Value)->Act):List Oper->Nat->Prop
 | [],_=>True
 |o::rest,k=>(∀v w,C w->kL φ v w (o.after.toList.filter (Region.binds .any))->∀K:Act->World->Prop,(∀x w',C w'->(∀j y,φ j y w->φ j y w')->φ k x w'->K ((fr v).put o.dst x) w')->o.wp P (fr v) w K Q)/\yR P Q C φ fr rest (k+1)
theorem yR.at {fr:(Nat->Value)->Act}:∀(l:List Oper) (k i:Nat) (o:Oper),yR P Q C φ fr l k->l[i]?=some o->
 ∀v w,C w->kL φ v w (o.after.toList.filter (Region.binds .any))->∀K:Act->World->Prop,(∀x w',C w'->(∀j y,φ j y w->φ j y w')->φ (k+i) x w'->K ((fr v).put o.dst x) w')->o.wp P (fr v) w K Q
 | [],_,_,_,_,h=>by simp at h
 |o1::rest,k,0,o,hf,ho=>by
   obtain rfl:o1=o:=by simpa using ho
   exact hf.1
 |o1::rest,k,i+1,o,hf,ho=>by
   have:=yR.at rest (k+1) i o hf.2 (by simpa using ho);rw[show k+1+i=k+(i+1) by omega]at this;exact this
theorem yi {id:Nat} {w:World} (L:Nat) (C:World->Prop) (φ:Nat->Value->World->Prop) (hm:P.follows .mixedOrders=true) (hf:Vb ops L=true) (hC:C { w with drawn:=w.drawn+1 })
 (h:yR P Q C φ (fun v=>{ a0 with tmps:=zC ((ops.toList.take L).map (·.dst)) v 0 a0.tmps }) (ops.toList.take L) 0)
 (hlast:∀v w,C w->AllL φ v w L->wpList P ops Q (ops.toList.drop L) { a0 with tmps:=zC ((ops.toList.take L).map (·.dst)) v 0 a0.tmps } w):(Code.region id ops true).wp P Q a0 w:=by
 have f0:L<ops.size:=by unfold Vb at hf;simp only[Bool.and_eq_true]at hf;exact of_decide_eq_true hf.1.1.1.1.1
 refine wp_region_any hm (Gi (L:=L) (C:=C) (φ:=φ) hf (fun i hi v w hc hd=>?_) (fun v w hc hall=>hlast v w hc (AllL.of L hall)) _ _ _ _ (by omega) ⟨by simp,?_,?_,hC,oldV ((ops.toList.take L).map (·.dst)) a0.tmps,?_,?_⟩)
 · have ho:(ops.toList.take L)[i]?=some (ops.getD i default):=by
    rw[List.getElem?_take_of_lt hi,Array.getElem?_toList];simp[Array.getD,show i<ops.size by omega]
   refine yR.at _ 0 i _ h ho v w hc (kL.of _ (fun e he=>hd e (by simpa using(List.mem_filter.1 he).1) (List.mem_filter.1 he).2)) _ (fun x w' h1 h2 h3=>⟨x,rfl,h1,h2,?_⟩);rwa[Nat.zero_add]at h3
 · intro i h1 h2
   simp[Array.getD,h2]
 · intro i hi hl
   simp[Array.getD,hi]at hl
 · rw[jN]
   intro i d hd;rw[Nat.zero_add];unfold oldV;rw[hd]
 intro i hi hl;simp[Array.getD,show i<ops.size by omega]at hl
end
def Ew (ops:Array Oper):Bool:=
 ((List.range ops.size).all fun i=>(ops.getD i default).guard.isNone&&(ops.getD i default).after.all fun e=>decide (e.on<i)||!Region.binds .any e)&&ZI (ops.toList.map (·.dst))
section
variable {P:Program} {ops:Array Oper} {Q:Exit->Act->World->Prop} {a0:Act} {C:World->Prop} {φ:Nat->(Nat->Value)->World->Prop}
structure QO (ops:Array Oper) (a0:Act) (C:World->Prop) (φ:Nat->(Nat->Value)->World->Prop) (l:Array Bool) (a:Act) (w:World):Prop where
 size:l.size=ops.size
 closed:∀i,i<ops.size->l.getD i true=true->∀e∈(ops.getD i default).after,Region.binds .any e=true->l.getD e.on false=true
 c:C w
 ex:∃v,a={ a0 with tmps:=zC (ops.toList.map (·.dst)) v 0 a0.tmps }/\∀i,i<ops.size->l.getD i true=true->φ i v w
theorem Eu (hf:Ew ops=true)
 (hloc:∀k i x v w,k≠i->(∀e∈(ops.getD k default).after,Region.binds .any e=true->e.on≠i)->φ k v w->φ k (updV v i x) w)
 (hop:∀i,i<ops.size->∀v w,C w->(∀e∈(ops.getD i default).after,Region.binds .any e=true->φ e.on v w)->
  (ops.getD i default).wp P { a0 with tmps:=zC (ops.toList.map (·.dst)) v 0 a0.tmps } w (fun a' w'=>∃x,a'=({ a0 with tmps:=zC (ops.toList.map (·.dst)) v 0 a0.tmps }:Act).put (ops.getD i default).dst x/\C w'/\(∀j,φ j v w->φ j v w')/\φ i (updV v i x) w') Q)
 (hend:∀v w,C w->(∀i,i<ops.size->φ i v w)->Q .normal { a0 with tmps:=zC (ops.toList.map (·.dst)) v 0 a0.tmps } w):
 ∀(fuel:Nat) (l:Array Bool) (a:Act) (w:World),ops.size<=fuel+l.toList.count true->QO ops a0 C φ l a w->wpAny P .any ops Q fuel l a w:=by
 unfold Ew at hf;rw[Bool.and_eq_true]at hf;obtain⟨f1,f3⟩:=hf;have hg:∀i,i<ops.size->(ops.getD i default).guard=none/\∀e∈(ops.getD i default).after,Region.binds .any e=true->e.on<i:=fun i hi=>by
  have:=List.all_eq_true.1 f1 i (List.mem_range.2 hi);rw[Bool.and_eq_true]at this;refine⟨Option.isNone_iff_eq_none.1 this.1,fun e he=>?_⟩;have h2:=(Array.all_eq_true'.1 this.2) e he;intro hb;rw[hb]at h2;simpa using h2
 have hdone:∀(l:Array Bool) (a:Act) (w:World),QO ops a0 C φ l a w->(∀i,i<ops.size->l.getD i true=true)->Q .normal a w:=fun l a w hI hall=>by
  obtain⟨v,rfl,hv⟩:=hI.ex;exact hend v w hI.c fun i hi=>hv i hi (hall i hi)
 have hempty:∀(l:Array Bool) (a:Act) (w:World),QO ops a0 C φ l a w->Region.ready .any ops l=[]->∀i,i<ops.size->l.getD i true=true:=fun l a w hI hr=>by
  have key:∀n,∀i,i<=n->i<ops.size->l.getD i true=true:=by
   intro n;induction n with
   |zero=>
     intro i hin hi;obtain rfl:i=0:=by omega
     cases hb:l.getD 0 true with
     |true=>rfl
     |false=>have:(0:Nat)∈Region.ready .any ops l:=yJ.2 ⟨hi,hb,fun e he hb=>absurd ((hg 0 hi).2 e he hb) (by omega)⟩;rw[hr]at this;cases this
   |succ n ihn=>
     intro i hin hi;cases hb:l.getD i true with
     |true=>rfl
     |false=>
       have:i∈Region.ready .any ops l:=yJ.2 ⟨hi,hb,fun e he hb=>by
        have h1:=(hg i hi).2 e he hb;have h2:=ihn e.on (by omega) (by omega);have h3:e.on<l.size:=by rw[hI.size];omega
        rw[yl h3]at h2⊢;exact h2⟩;rw[hr]at this;cases this
  exact fun i hi=>key i i (Nat.le_refl _) hi
 intro fuel;induction fuel with
 |zero=>
   intro l a w hc hI;have h1:l.toList.count true=l.toList.length:=by have:=List.count_le_length (a:=true) (l:=l.toList);have:=hI.size;simp at *;omega
   have h2:=List.count_eq_length.1 h1;have hall:∀i,i<ops.size->l.getD i true=true:=fun i hi=>by
    have hlt:i<l.size:=by rw[hI.size];exact hi
    rw[yl hlt];exact(h2 l[i] (by simp)).symm
   refine⟨List.eq_nil_iff_forall_not_mem.2 fun k hk=>?_,hdone l a w hI hall⟩;obtain⟨g1,g2,-⟩:=yJ.1 hk;rw[hall k g1]at g2;cases g2
 |succ fuel ih=>
   intro l a w hc hI;refine⟨fun hr=>hdone l a w hI (hempty l a w hI hr),fun i hi=>?_⟩
   · obtain⟨h1,h2,h3⟩:=yJ.1 hi
     have hil:i<l.size:=by rw[hI.size];exact h1
     have hoi:ops[i]?=some (ops.getD i default):=by simp[Array.getD,h1]
     have hdsi:(ops.toList.map (·.dst))[i]?=some (ops.getD i default).dst:=by rw[List.getElem?_map,Array.getElem?_toList,hoi];rfl
     obtain⟨v,rfl,hv⟩:=hI.ex;have hdeps:∀e∈(ops.getD i default).after,Region.binds .any e=true->l.getD e.on false=true:=h3;have hcount:ops.size<=fuel+(l.setIfInBounds i true).toList.count true:=by
      have e1:l.toList[i]'(by simpa using hil)=false:=by rw[yl hil]at h2;simpa using h2
      rw[Array.toList_setIfInBounds,List.count_set (by simpa using hil)];rw[e1];show ops.size<=fuel+(List.count true l.toList-0+1);omega
     unfold wpOp;simp only[hoi];rw[if_pos (by unfold Region.wanted;rw[(hg i h1).1])];left;have hd2:∀e∈(ops.getD i default).after,Region.binds .any e=true->φ e.on v w:=fun e he hb=>by
      have q:=(hg i h1).2 e he hb;refine hv e.on (by omega) ?_;have h5:=hdeps e he hb;have h6:e.on<l.size:=by rw[hI.size];omega
      rw[yl h6]at h5⊢;exact h5
     refine Oper.wp_mono (fun a' w'=>?_) (hop i h1 v w hI.c hd2);rintro⟨x,rfl,hC',hst,hφ⟩;refine ih _ _ _ hcount ⟨by simp[hI.size],?_,hC',updV v i x,?_,?_⟩
     · intro k hk hlk e he hb
       rw[vy hil]at hlk⊢;by_cases hki:k=i
       · subst hki
         have:=hdeps e he hb;split;· rfl
         exact this
       rw[if_neg hki]at hlk;have:=hI.closed k hk hlk e he hb;split;· rfl
       exact this
     · cases hd:(ops.getD i default).dst with
       |none=>rw[hd]at hdsi;have:=jg (v:=v) (x:=x) _ 0 i a0.tmps hdsi;rw[Nat.zero_add]at this;rw[this];rfl
       |some d=>rw[hd]at hdsi;have:=jM (v:=v) (x:=x) _ 0 i a0.tmps f3 hdsi;rw[Nat.zero_add]at this;rw[this];rfl
     intro k hk hlk;rw[vy hil]at hlk;by_cases hki:k=i
     · subst hki
       exact hφ
     rw[if_neg hki]at hlk;refine hloc k i x v w' hki (fun e he hb hei=>?_) (hst _ (hv k hk hlk));have:=hI.closed k hk hlk e he hb;rw[hei]at this;rw[yl hil]at this h2;rw[h2]at this;cases this
def QQ (φ:Nat->(Nat->Value)->World->Prop) (v:Nat->Value) (w:World):List Edge->Prop
 | []=>True
 |e::r=>φ e.on v w/\QQ φ v w r
theorem QQ.of {v:Nat->Value} {w:World}:∀(l:List Edge),(∀e∈l,φ e.on v w)->QQ φ v w l
 | [],_=>trivial
 |e::r,h=>⟨h e List.mem_cons_self,QQ.of r (fun e he=>h e (List.mem_cons_of_mem _ he))⟩
def jD (P:Program) (Q:Exit->Act->World->Prop) (C:World->Prop) (φ:Nat->(Nat->Value)->World->Prop) (fr:(Nat->Value)->Act):List Oper->Nat->Prop
 | [],_=>True
 |o::rest,k=>(∀v w,C w->QQ φ v w (o.after.toList.filter (Region.binds .any))->∀K:Act->World->Prop,(∀x w',C w'->(∀j,φ j v w->φ j v w')->φ k (updV v k x) w'->K ((fr v).put o.dst x) w')->o.wp P (fr v) w K Q)/\jD P Q C φ fr rest (k+1)
theorem jD.at {fr:(Nat->Value)->Act}:∀(l:List Oper) (k i:Nat) (o:Oper),jD P Q C φ fr l k->l[i]?=some o->
 ∀v w,C w->QQ φ v w (o.after.toList.filter (Region.binds .any))->∀K:Act->World->Prop,(∀x w',C w'->(∀j,φ j v w->φ j v w')->φ (k+i) (updV v (k+i) x) w'->K ((fr v).put o.dst x) w')->o.wp P (fr v) w K Q
 | [],_,_,_,_,h=>by simp at h
 |o1::rest,k,0,o,hf,ho=>by
   obtain rfl:o1=o:=by simpa using ho
   exact hf.1
 |o1::rest,k,i+1,o,hf,ho=>by
   have:=jD.at rest (k+1) i o hf.2 (by simpa using ho);rw[show k+1+i=k+(i+1) by omega]at this;exact this
def depB (ops:Array Oper) (k i:Nat):Bool:=(ops.getD k default).after.any fun e=>Region.binds .any e&&e.on==i
theorem ue {id:Nat} {w:World} (C:World->Prop) (φ:Nat->(Nat->Value)->World->Prop) (hm:P.follows .mixedOrders=true) (hf:Ew ops=true)
 (hloc:∀k i x v w,k≠i->depB ops k i=false->φ k v w->φ k (updV v i x) w) (hC:C { w with drawn:=w.drawn+1 })
 (h:jD P Q C φ (fun v=>{ a0 with tmps:=zC (ops.toList.map (·.dst)) v 0 a0.tmps }) ops.toList 0)
 (hend:∀v w,C w->(∀i,i<ops.size->φ i v w)->Q .normal { a0 with tmps:=zC (ops.toList.map (·.dst)) v 0 a0.tmps } w):(Code.region id ops true).wp P Q a0 w:=by
 refine wp_region_any hm (Eu (C:=C) (φ:=φ) hf (fun k i x v w hki hd=>hloc k i x v w hki (by
  unfold depB;refine Array.any_eq_false'.2 fun e he hq=>?_;rw[Bool.and_eq_true]at hq;exact hd e he hq.1 (beq_iff_eq.1 hq.2))) (fun i hi v w hc hd=>?_) hend _ _ _ _ (by omega) ⟨by simp,?_,hC,oldV (ops.toList.map (·.dst)) a0.tmps,?_,?_⟩)
 · have ho:ops.toList[i]?=some (ops.getD i default):=by
    rw[Array.getElem?_toList];simp[Array.getD,hi]
   refine jD.at ops.toList 0 i _ h ho v w hc (QQ.of _ (fun e he=>hd e (by simpa using(List.mem_filter.1 he).1) (List.mem_filter.1 he).2)) _ (fun x w' h1 h2 h3=>⟨x,rfl,h1,h2,?_⟩);rwa[Nat.zero_add]at h3
 · intro i hi hl
   simp[Array.getD,hi]at hl
 · rw[jN]
   intro i d hd;rw[Nat.zero_add];unfold oldV;rw[hd]
 intro i hi hl;simp[Array.getD,hi]at hl
end
section
variable {P:Program} {ops:Array Oper} {Q:Exit->Act->World->Prop} {a0:Act} {C:Bool->World->Prop} {φ:Nat->Value->World->Prop} {L p:Nat}
structure Nc (ops:Array Oper) (a0:Act) (C:Bool->World->Prop) (φ:Nat->Value->World->Prop) (L p:Nat) (l:Array Bool) (a:Act) (w:World):Prop where
 size:l.size=ops.size
 last:∀i,L<=i->i<ops.size->l.getD i true=false
 closed:∀i,i<ops.size->l.getD i true=true->∀e∈(ops.getD i default).after,Region.binds .any e=true->l.getD e.on false=true
 c:C (l.getD p false) w
 ex:∃v,a={ a0 with tmps:=zC ((ops.toList.take L).map (·.dst)) v 0 a0.tmps }/\∀i,i<L->l.getD i true=true->φ i (v i) w
theorem Gh (hp:p<L) (hf:Vb ops L=true)
 (hop:∀i,i<L->∀b v w,(i=p->b=false)->C b w->(∀e∈(ops.getD i default).after,Region.binds .any e=true->φ e.on (v e.on) w)->
  (ops.getD i default).wp P { a0 with tmps:=zC ((ops.toList.take L).map (·.dst)) v 0 a0.tmps } w (fun a' w'=>∃x,a'=({ a0 with tmps:=zC ((ops.toList.take L).map (·.dst)) v 0 a0.tmps }:Act).put (ops.getD i default).dst x/\C ((i==p)||b) w'/\(∀j y,j≠i->φ j y w->φ j y w')/\φ i x w') Q)
 (hlast:∀v w,C true w->(∀i,i<L->φ i (v i) w)->wpList P ops Q (ops.toList.drop L) { a0 with tmps:=zC ((ops.toList.take L).map (·.dst)) v 0 a0.tmps } w):
 ∀(fuel:Nat) (l:Array Bool) (a:Act) (w:World),ops.size<=fuel+l.toList.count true->Nc ops a0 C φ L p l a w->wpAny P .any ops Q fuel l a w:=by
 unfold Vb at hf;simp only[Bool.and_eq_true]at hf;obtain⟨⟨⟨⟨⟨f0,f1⟩,f2⟩,f3⟩,f4⟩,f5⟩:=hf;have f0:L<ops.size:=of_decide_eq_true f0;have hg:∀i,i<L->(ops.getD i default).guard=none:=fun i hi=>Option.isNone_iff_eq_none.1 (List.all_eq_true.1 f1 i (List.mem_range.2 hi));have hb:∀i,i<ops.size->∀e∈(ops.getD i default).after,Region.binds .any e=true->e.on<i:=fun i hi e he hbe=>by
  have:=(Array.all_eq_true'.1 (List.all_eq_true.1 f2 i (List.mem_range.2 hi))) e he;rw[hbe]at this;simpa using this
 have hs:∀i,i<L->∃j,i<j/\j<=L/\∃e∈(ops.getD j default).after,e.on=i/\Region.binds .any e=true:=fun i hi=>by
  have:=List.all_eq_true.1 f3 i (List.mem_range.2 hi);obtain⟨j,hj,h⟩:=List.any_eq_true.1 this;rw[Bool.and_eq_true,decide_eq_true_eq]at h;obtain⟨e,he,h3⟩:=Array.any_eq_true'.1 h.2;rw[Bool.and_eq_true]at h3;have:=List.mem_range.1 hj;exact⟨j,h.1,by omega,e,he,beq_iff_eq.1 h3.1,h3.2⟩
 have ht:∀i,i<ops.size->L<i->∃e∈(ops.getD i default).after,e.on+1=i/\Region.binds .any e=true:=fun i hi hl=>by
  have:=List.all_eq_true.1 f4 i (List.mem_range.2 hi);rw[Bool.or_eq_true,decide_eq_true_eq]at this;rcases this with h|h;· omega
  obtain⟨e,he,h3⟩:=Array.any_eq_true'.1 h;rw[Bool.and_eq_true]at h3;exact⟨e,he,beq_iff_eq.1 h3.1,h3.2⟩
 intro fuel;induction fuel with
 |zero=>
   intro l a w hc hI;exfalso;have h1:l.toList.count true=l.toList.length:=by have:=List.count_le_length (a:=true) (l:=l.toList);have:=hI.size;simp at *;omega
   have h2:=List.count_eq_length.1 h1;have h3:=hI.last L (Nat.le_refl _) f0;have hlt:L<l.size:=by rw[hI.size];omega
   have h4:=h2 l[L] (by simp);rw[yl hlt,<-h4]at h3;cases h3
 |succ fuel ih=>
   intro l a w hc hI;by_cases hall:∀k,k<L->l.getD k false=true
   · -- only the line is left
     obtain⟨v,rfl,hv⟩:=hI.ex;have hv2:∀i,i<L->φ i (v i) w:=fun i hi=>hv i hi (by
      have:=hall i hi;have hil:i<l.size:=by rw[hI.size];omega
      rwa[yl hil]at this⊢);refine JG (L:=L) ht hb (ops.size-L) L (Nat.le_refl _) (by omega) (fuel+1) l _ w ?_ hI.size hall hI.last (hlast v w (by have h:=hI.c;rwa[hall p hp]at h) hv2);have hcnt:l.toList.count true<=L:=by
      have e1:l.toList=l.toList.take L++l.toList.drop L:=(List.take_append_drop _ _).symm;have e2:(l.toList.drop L).count true=0:=by rw[List.count_eq_zero];intro hm;obtain⟨j,hj,he⟩:=List.mem_iff_getElem.1 hm;rw[List.getElem_drop]at he;rw[List.length_drop,Array.length_toList,hI.size]at hj;have:=hI.last (L+j) (by omega) (by omega);rw[yl (by rw[hI.size];omega)]at this;rw[Array.getElem_toList]at he;rw[this]at he;cases he
      rw[e1,List.count_append,e2,Nat.add_zero];exact Nat.le_trans (List.count_le_length) (List.length_take_le _ _)
     omega
   refine⟨fun hr=>?_,fun i hi=>?_⟩
   · exfalso
     apply hall;have key:∀n,∀i,i<=n->i<L->l.getD i false=true:=by
      intro n;induction n with
      |zero=>
        intro i hin hi;obtain rfl:i=0:=by omega
        have h0l:0<l.size:=by rw[hI.size];omega
        cases hb0:l.getD 0 true with
        |true=>rw[yl h0l]at hb0⊢;exact hb0
        |false=>have:(0:Nat)∈Region.ready .any ops l:=yJ.2 ⟨by omega,hb0,fun e he hbe=>absurd (hb 0 (by omega) e he hbe) (by omega)⟩;rw[hr]at this;cases this
      |succ n ihn=>
        intro i hin hi;have hil:i<l.size:=by rw[hI.size];omega
        cases hb0:l.getD i true with
        |true=>rw[yl hil]at hb0⊢;exact hb0
        |false=>
          have:i∈Region.ready .any ops l:=yJ.2 ⟨by omega,hb0,fun e he hbe=>by
           have h1:=hb i (by omega) e he hbe;exact ihn e.on (by omega) (by omega)⟩;rw[hr]at this;cases this
     exact fun k hk=>key k k (Nat.le_refl _) hk
   obtain⟨h1,h2,h3⟩:=yJ.1 hi;have hiL:i<L:=by
    rcases Nat.lt_or_ge i L with h|h;· exact h
    exfalso;apply hall;have hLr:i=L:=by
     rcases Nat.eq_or_lt_of_le h with h|h;· exact h.symm
     obtain⟨e,he,heq,hbe⟩:=ht i h1 h;have q:=h3 e he hbe;have hel:e.on<l.size:=by rw[hI.size];omega
     have h4:=hI.last e.on (by omega) (by omega);rw[yl hel]at q h4;rw[q]at h4;cases h4
    subst hLr;have hdn:∀n,∀k,k<i->i<=k+n->l.getD k false=true:=by
     intro n;induction n with
     |zero=>intro k hk hkn;omega
     |succ n ihn=>
       intro k hk hkn;obtain⟨j,hj1,hj2,e,he,rfl,hbe⟩:=hs k hk;by_cases hji:j=i;· subst hji;exact h3 e he hbe
       have q:=ihn j (by omega) (by omega);have hjl:j<l.size:=by rw[hI.size];omega
       exact hI.closed j (by omega) (by rw[yl hjl]at q⊢;exact q) e he hbe
    exact fun k hk=>hdn i k hk (by omega)
   have hil:i<l.size:=by rw[hI.size];exact h1
   have hoi:ops[i]?=some (ops.getD i default):=by simp[Array.getD,h1]
   have hdsi:((ops.toList.take L).map (·.dst))[i]?=some (ops.getD i default).dst:=by rw[List.getElem?_map,List.getElem?_take_of_lt hiL,Array.getElem?_toList,hoi];rfl
   obtain⟨v,rfl,hv⟩:=hI.ex;have hcount:ops.size<=fuel+(l.setIfInBounds i true).toList.count true:=by
    have e1:l.toList[i]'(by simpa using hil)=false:=by rw[yl hil]at h2;simpa using h2
    rw[Array.toList_setIfInBounds,List.count_set (by simpa using hil)];rw[e1];show ops.size<=fuel+(List.count true l.toList-0+1);omega
   unfold wpOp;simp only[hoi];rw[if_pos (by unfold Region.wanted;rw[hg i hiL])];left;have hd2:∀e∈(ops.getD i default).after,Region.binds .any e=true->φ e.on (v e.on) w:=fun e he hbe=>by
    have q:=hb i h1 e he hbe;refine hv e.on (by omega) ?_;have h5:=h3 e he hbe;have h6:e.on<l.size:=by rw[hI.size];omega
    rw[yl h6]at h5⊢;exact h5
   refine Oper.wp_mono (fun a' w'=>?_) (hop i hiL (l.getD p false) v w (fun e=>by subst e;rw[yl hil]at h2⊢;exact h2) hI.c hd2);rintro⟨x,rfl,hC',hst,hφ⟩;have hC2:C ((l.setIfInBounds i true).getD p false) w':=by
    rw[vy hil];by_cases hpi:p=i
    · subst hpi
      rw[if_pos rfl];rwa[beq_self_eq_true,Bool.true_or]at hC'
    rw[if_neg hpi];rwa[show(i==p)=false from beq_eq_false_iff_ne.2 (fun e=>hpi e.symm),Bool.false_or]at hC'
   refine ih _ _ _ hcount ⟨by simp[hI.size],?_,?_,hC2,updV v i x,?_,?_⟩
   · intro k hk1 hk2
     rw[vy hil,if_neg (by omega)];exact hI.last k hk1 hk2
   · intro k hk hlk e he hbe
     rw[vy hil]at hlk⊢;by_cases hki:k=i
     · subst hki
       have:=h3 e he hbe;split;· rfl
       exact this
     rw[if_neg hki]at hlk;have:=hI.closed k hk hlk e he hbe;split;· rfl
     exact this
   · cases hd:(ops.getD i default).dst with
     |none=>rw[hd]at hdsi;have:=jg (v:=v) (x:=x) _ 0 i a0.tmps hdsi;rw[Nat.zero_add]at this;rw[this];rfl
     |some d=>rw[hd]at hdsi;have:=jM (v:=v) (x:=x) _ 0 i a0.tmps f5 hdsi;rw[Nat.zero_add]at this;rw[this];rfl
   intro k hk hlk;rw[vy hil]at hlk;by_cases hki:k=i
   · subst hki
     have e:updV v k x k=x:=if_pos rfl;rw[e];exact hφ
   rw[if_neg hki]at hlk;have e:updV v i x k=v k:=if_neg hki;rw[e];exact hst _ _ hki (hv k hk hlk)
def jm (P:Program) (Q:Exit->Act->World->Prop) (C:Bool->World->Prop) (φ:Nat->Value->World->Prop) (p:Nat) (fr:(Nat->Value)->Act):List Oper->Nat->Prop
 | [],_=>True
 |o::rest,k=>(∀b v w,(k=p->b=false)->C b w->kL φ v w (o.after.toList.filter (Region.binds .any))->∀K:Act->World->Prop,(∀x w',C ((k==p)||b) w'->(∀j y,j≠k->φ j y w->φ j y w')->φ k x w'->K ((fr v).put o.dst x) w')->o.wp P (fr v) w K Q)/\jm P Q C φ p fr rest (k+1)
theorem jm.at {fr:(Nat->Value)->Act}:∀(l:List Oper) (k i:Nat) (o:Oper),jm P Q C φ p fr l k->l[i]?=some o->
 ∀b v w,(k+i=p->b=false)->C b w->kL φ v w (o.after.toList.filter (Region.binds .any))->∀K:Act->World->Prop,(∀x w',C ((k+i==p)||b) w'->(∀j y,j≠k+i->φ j y w->φ j y w')->φ (k+i) x w'->K ((fr v).put o.dst x) w')->o.wp P (fr v) w K Q
 | [],_,_,_,_,h=>by simp at h
 |o1::rest,k,0,o,hf,ho=>by
   obtain rfl:o1=o:=by simpa using ho
   exact hf.1
 |o1::rest,k,i+1,o,hf,ho=>by
   have:=jm.at rest (k+1) i o hf.2 (by simpa using ho);rw[show k+1+i=k+(i+1) by omega]at this;exact this
theorem Vl {id:Nat} {w:World} (L p:Nat) (hp:p<L) (C:Bool->World->Prop) (φ:Nat->Value->World->Prop) (hm:P.follows .mixedOrders=true) (hf:Vb ops L=true) (hC:C false { w with drawn:=w.drawn+1 })
 (h:jm P Q C φ p (fun v=>{ a0 with tmps:=zC ((ops.toList.take L).map (·.dst)) v 0 a0.tmps }) (ops.toList.take L) 0)
 (hlast:∀v w,C true w->AllL φ v w L->wpList P ops Q (ops.toList.drop L) { a0 with tmps:=zC ((ops.toList.take L).map (·.dst)) v 0 a0.tmps } w):(Code.region id ops true).wp P Q a0 w:=by
 have f0:L<ops.size:=by unfold Vb at hf;simp only[Bool.and_eq_true]at hf;exact of_decide_eq_true hf.1.1.1.1.1
 refine wp_region_any hm (Gh (L:=L) (p:=p) (C:=C) (φ:=φ) hp hf (fun i hi b v w hb hc hd=>?_) (fun v w hc hall=>hlast v w hc (AllL.of L hall)) _ _ _ _ (by omega) ⟨by simp,?_,?_,?_,oldV ((ops.toList.take L).map (·.dst)) a0.tmps,?_,?_⟩)
 · have ho:(ops.toList.take L)[i]?=some (ops.getD i default):=by
    rw[List.getElem?_take_of_lt hi,Array.getElem?_toList];simp[Array.getD,show i<ops.size by omega]
   refine jm.at _ 0 i _ h ho b v w (fun e=>hb (by omega)) hc (kL.of _ (fun e he=>hd e (by simpa using(List.mem_filter.1 he).1) (List.mem_filter.1 he).2)) _ (fun x w' h1 h2 h3=>⟨x,rfl,?_,fun j y hj=>h2 j y (by omega),?_⟩);· rwa[Nat.zero_add]at h1
   rwa[Nat.zero_add]at h3
 · intro i h1 h2
   simp[Array.getD,h2]
 · intro i hi hl
   simp[Array.getD,hi]at hl
 · have e:(Array.replicate ops.size false).getD p false=false:=by simp[Array.getD]
   rw[e];exact hC
 · rw[jN]
   intro i d hd;rw[Nat.zero_add];unfold oldV;rw[hd]
 intro i hi hl;simp[Array.getD,show i<ops.size by omega]at hl
end
end Go.Proofs.YtngippiilgdnoaaGreat
