/-
  What accepted events say of accounts: each is opened once and closed once; the cycle of an instant, plainly.
-/
import Derived.Test.YtngippiilgdnoaaGreatMhab
import Derived.Test.YtngippiilgdnoaaGreatMhad
set_option maxRecDepth 100000
set_option maxHeartbeats 25600000
namespace Go.Proofs.YtngippiilgdnoaaGreat
def qA (n:Int) (e:Ev):Bool:=decide (e.kd=1)&&decide (e.ac=n)
def NJ (n:Int) (e:Ev):Bool:=decide (e.kd=2)&&decide (e.ac=n)
theorem Qe {n:Int} {e:Ev}:qA n e=true↔e.kd=1/\e.ac=n:=by unfold qA;rw[Bool.and_eq_true,decide_eq_true_eq,decide_eq_true_eq]
def km (l:List Ev) (n:Int):Option Ev:=l.find? (qA n)
def xT (l:List Ev) (n:Int):Int:=match l.find? (NJ n)with|some e=>e.tm|none=>12622780800
theorem Ue {α:Type} (p:α->Bool) (l:List α):ixOf p l=ixOf id (l.map p):=by unfold ixOf;rw[List.any_map,List.findIdx_map];rfl
theorem ux {α:Type} {p:α->Bool} {l:List α} (r:List α) (h:0<=ixOf p l):ixOf p (l++r)=ixOf p l:=by
 obtain⟨k,hk,e,hp,hn⟩:=ZZ h;rw[e];refine Z5 (k:=k) (by rw[List.length_append];omega) ?_ ?_;· rw[List.take_append_of_le_length (by omega)];exact hn
 rw[List.getElem_append_left hk];exact hp
theorem uw {α:Type} {p:α->Bool} {f:α->α} (hf:∀a,p (f a)=p a) (l:List α) (k:Nat):ixOf p (l.modify k f)=ixOf p l:=by
 rw[Ue,Ue p l]
 congr 1
 apply List.ext_getElem;· simp
 intro i h1 h2;rw[List.getElem_map,List.getElem_map,List.getElem_modify];split;· exact hf _
 rfl
def VA (b:Bk) (n:Int):Prop:=∃k,∃h:k<b.accs.length,qm b n=k/\(b.accs[k]).clo=true
theorem YI {b:Bk} {e:Ev} (h1:e.kd≠1) (h2:e.kd≠2):(zM b e).accs=b.accs:=by
 unfold zM;rw[if_neg h1,if_neg h2];split;· rfl
 split<;>rfl
theorem kJ {b:Bk} {e:Ev} (h:e.kd=1):(zM b e).accs=b.accs++[⟨e.ac,e.tm,e.vl,yt e.nm jU,false⟩]:=by unfold zM;rw[if_pos h]
theorem ud {b:Bk} {e:Ev} (h:e.kd=2):(zM b e).accs=b.accs.modify (qm b e.ac).toNat fun a=>{ a with clo:=true }:=by unfold zM;rw[if_neg (by omega),if_pos h]
theorem Zw {b:Bk} {e:Ev} {n:Int} (h:0<=qm b n):qm (zM b e) n=qm b n:=by
 unfold qm at *;by_cases h1:e.kd=1;· rw[kJ h1];exact ux _ h
 by_cases h2:e.kd=2;· rw[ud h2];exact uw (p:=fun a:Ac=>decide (a.id=n)) (f:=fun a:Ac=>{ a with clo:=true }) (fun _=>rfl) _ _
 rw[YI h1 h2]
theorem Ga {b:Bk} {e:Ev} (h:e.kd=1):0<=qm (zM b e) e.ac:=by
 unfold qm;rw[kJ h];rcases jk (fun a:Ac=>decide (a.id=e.ac)) (b.accs++[⟨e.ac,e.tm,e.vl,yt e.nm jU,false⟩])with⟨-,h1⟩|⟨k,_,e1,-⟩
 · rw[List.any_append]at h1
   simp at h1
 rw[e1];exact Int.natCast_nonneg _
theorem Jz {l:List Ev}:∀k:Nat,k<=l.length->∀j (hj:j<l.length),j<k->(l[j]).kd=1->0<=qm (zQ (l.take k)) (l[j]).ac
 |0,_,j,_,h,_=>absurd h (by omega)
 |k+1,hk,j,hj,h,hkd=>by
   rw[vM l k (by omega)];by_cases hjk:j=k;· subst hjk;exact Ga hkd
   have h2:=Jz k (by omega) j hj (by omega) hkd;rw[Zw h2];exact h2
theorem Uy {b:Bk} {e:Ev} {n:Int} (h:VA b n):VA (zM b e) n:=by
 obtain⟨k,hk,e1,e2⟩:=h;have hix:=Zw (b:=b) (e:=e) (n:=n) (by rw[e1];exact Int.natCast_nonneg _);by_cases h1:e.kd=1
 · refine⟨k,by rw[kJ h1,List.length_append];omega,hix.trans e1,?_⟩
   have:=kJ (b:=b) h1;simp only[this];rw[List.getElem_append_left hk];exact e2
 by_cases h2:e.kd=2
 · have:=ud (b:=b) h2
   refine⟨k,by rw[this,List.length_modify];exact hk,hix.trans e1,?_⟩;simp only[this];rw[List.getElem_modify];split;· rfl
   exact e2
 have:=YI (b:=b) h1 h2;refine⟨k,by rw[this];exact hk,hix.trans e1,?_⟩;simp only[this];exact e2
theorem Xu {b:Bk} {e:Ev} (h:e.kd=2) (hk:∃k,∃h:k<b.accs.length,qm b e.ac=k/\(b.accs[k]).clo=false):VA (zM b e) e.ac:=by obtain⟨k,hk,e1,-⟩:=hk;have hix:=Zw (b:=b) (e:=e) (n:=e.ac) (by rw[e1];exact Int.natCast_nonneg _);have:=ud (b:=b) h;refine⟨k,by rw[this,List.length_modify];exact hk,hix.trans e1,?_⟩;simp only[this];rw[List.getElem_modify,if_pos (by rw[e1];simp)]
theorem Qv {l:List Ev} (hr:yp l):∀k:Nat,k<=l.length->∀j (hj:j<l.length),j<k->(l[j]).kd=2->VA (zQ (l.take k)) (l[j]).ac
 |0,_,j,_,h,_=>absurd h (by omega)
 |k+1,hk,j,hj,h,hkd=>by
   rw[vM l k (by omega)];by_cases hjk:j=k
   · subst hjk
     exact Xu hkd ((hr j hj).acc (by rw[hkd];rfl) (by rw[hkd];decide))
   exact Uy (Qv hr k (by omega) j hj (by omega) hkd)
structure Nh (l:List Ev):Prop where
 op:∀i (h:i<l.length),(l[i]).kd=1->0<=(l[i]).tm/\(l[i]).tm<12622780800/\1<=(l[i]).vl/\(l[i]).vl<=28
 o1:∀i j (hi:i<l.length) (hj:j<l.length),(l[i]).kd=1->(l[j]).kd=1->(l[i]).ac=(l[j]).ac->i=j
 cl:∀i (h:i<l.length),(l[i]).kd=2->0<=(l[i]).tm/\(l[i]).tm<12622780800
 c1:∀i j (hi:i<l.length) (hj:j<l.length),(l[i]).kd=2->(l[j]).kd=2->(l[i]).ac=(l[j]).ac->i=j
theorem xp {l:List Ev} (hr:yp l):Nh l:=by
 have o1:∀i j (hi:i<l.length) (hj:j<l.length),(l[i]).kd=1->(l[j]).kd=1->(l[i]).ac=(l[j]).ac->¬i<j:=fun i j hi hj h1 h2 he hlt=>by
  have g1:=Jz j (by omega) i hi hlt h1;have g2:=(hr j hj).opn h2;rw[he]at g1;omega
 have c1:∀i j (hi:i<l.length) (hj:j<l.length),(l[i]).kd=2->(l[j]).kd=2->(l[i]).ac=(l[j]).ac->¬i<j:=fun i j hi hj h1 h2 he hlt=>by
  obtain⟨k,hk,g1,g2⟩:=Qv hr j (by omega) i hi hlt h1;obtain⟨k',hk',g3,g4⟩:=(hr j hj).acc (by rw[h2];rfl) (by rw[h2];decide);rw[he]at g1;have:k=k':=by omega
  subst this;rw[g2]at g4;cases g4
 refine⟨fun i h hk=>?_,fun i j hi hj h1 h2 he=>?_,fun i h hk=>⟨(hr i h).t0,(hr i h).t1⟩,fun i j hi hj h1 h2 he=>?_⟩
 · obtain⟨v1,v2⟩:=(hr i h).v1 hk
   exact⟨(hr i h).t0,(hr i h).t1,v1,v2⟩
 · have:=o1 i j hi hj h1 h2 he
   have:=o1 j i hj hi h2 h1 he.symm;omega
 have:=c1 i j hi hj h1 h2 he;have:=c1 j i hj hi h2 h1 he.symm;omega
theorem Zr {l:List Ev} {n:Int} {e:Ev} (h:km l n=some e):e∈l/\e.kd=1/\e.ac=n:=⟨List.mem_of_find?_eq_some h,Qe.1 (List.find?_some h)⟩
theorem W4 {l:List Ev} (h:Nh l) {e:Ev} (he:e∈l) (hk:e.kd=1):km l e.ac=some e:=by
 cases hf:km l e.ac with
 | none => 
   have:=List.find?_eq_none.1 hf e he;exact absurd (Qe.2 ⟨hk,rfl⟩) this
 |some e'=>obtain⟨h1,h2,h3⟩:=Zr hf;obtain⟨i,hi,rfl⟩:=List.mem_iff_getElem.1 he;obtain⟨j,hj,rfl⟩:=List.mem_iff_getElem.1 h1;have:=h.o1 i j hi hj hk h2 h3.symm;subst this;rfl
theorem Wa {l:List Ev} (h:Nh l) {e:Ev} (he:e∈l) (hk:e.kd=1):0<=e.tm/\e.tm<12622780800/\1<=e.vl/\e.vl<=28:=by obtain⟨i,hi,rfl⟩:=List.mem_iff_getElem.1 he;exact h.op i hi hk
def xL (f t:Int) (c:Int×Int):Bool:=decide (max f c.1<min t c.2)
end Go.Proofs.YtngippiilgdnoaaGreat
