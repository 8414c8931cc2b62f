/-
  What accepted events say of accounts: each is opened once and closed once; the cycle of an instant, plainly.
-/
import Derived.Test.YtngippiilgdnoaaGreatMiab
import Derived.Test.YtngippiilgdnoaaGreatMiad
set_option maxRecDepth 100000
set_option maxHeartbeats 25600000
namespace Go.Proofs.YtngippiilgdnoaaGreat
def qQ (n:Int) (e:Ev):Bool:=decide (e.kd=1)&&decide (e.ac=n)
def xX (n:Int) (e:Ev):Bool:=decide (e.kd=2)&&decide (e.ac=n)
theorem Wk {n:Int} {e:Ev}:qQ n e=true↔e.kd=1/\e.ac=n:=by unfold qQ;rw[Bool.and_eq_true,decide_eq_true_eq,decide_eq_true_eq]
def Yj (l:List Ev) (n:Int):Option Ev:=l.find? (qQ n)
def z8b (l:List Ev) (n:Int):Int:=match l.find? (xX n)with|some e=>e.tm|none=>12622780800
theorem U6 {α:Type} (p:α->Bool) (l:List α):ixOf p l=ixOf id (l.map p):=by unfold ixOf;rw[List.any_map,List.findIdx_map];rfl
theorem uP {α:Type} {p:α->Bool} {l:List α} (r:List α) (h:0<=ixOf p l):ixOf p (l++r)=ixOf p l:=by
 obtain⟨k,hk,e,hp,hn⟩:=Yn h;rw[e];refine uO (k:=k) (by rw[List.length_append];omega) ?_ ?_;· rw[List.take_append_of_le_length (by omega)];exact hn
 rw[List.getElem_append_left hk];exact hp
theorem uN {α:Type} {p:α->Bool} {f:α->α} (hf:∀a,p (f a)=p a) (l:List α) (k:Nat):ixOf p (l.modify k f)=ixOf p l:=by
 rw[U6,U6 p l]
 congr 1
 apply List.ext_getElem;· simp
 intro i h1 h2;rw[List.getElem_map,List.getElem_map,List.getElem_modify];split;· exact hf _
 rfl
def VU (b:Bk) (n:Int):Prop:=∃k,∃h:k<b.accs.length,qM b n=k/\(b.accs[k]).clo=true
theorem Kv {b:Bk} {e:Ev} (h1:e.kd≠1) (h2:e.kd≠2):(zX b e).accs=b.accs:=by
 unfold zX;rw[if_neg h1,if_neg h2];split;· rfl
 split<;>rfl
theorem Zt {b:Bk} {e:Ev} (h:e.kd=1):(zX b e).accs=b.accs++[⟨e.ac,e.tm,e.vl,ye e.nm kl,false⟩]:=by unfold zX;rw[if_pos h]
theorem Z9 {b:Bk} {e:Ev} (h:e.kd=2):(zX b e).accs=b.accs.modify (qM b e.ac).toNat fun a=>{ a with clo:=true }:=by unfold zX;rw[if_neg (by omega),if_pos h]
theorem ZT {b:Bk} {e:Ev} {n:Int} (h:0<=qM b n):qM (zX b e) n=qM b n:=by
 unfold qM at *;by_cases h1:e.kd=1;· rw[Zt h1];exact uP _ h
 by_cases h2:e.kd=2;· rw[Z9 h2];exact uN (p:=fun a:Ac=>decide (a.id=n)) (f:=fun a:Ac=>{ a with clo:=true }) (fun _=>rfl) _ _
 rw[Kv h1 h2]
theorem G9 {b:Bk} {e:Ev} (h:e.kd=1):0<=qM (zX b e) e.ac:=by
 unfold qM;rw[Zt h];rcases jE (fun a:Ac=>decide (a.id=e.ac)) (b.accs++[⟨e.ac,e.tm,e.vl,ye e.nm kl,false⟩])with⟨-,h1⟩|⟨k,_,e1,-⟩
 · rw[List.any_append]at h1
   simp at h1
 rw[e1];exact Int.natCast_nonneg _
theorem J4 {l:List Ev}:∀k:Nat,k<=l.length->∀j (hj:j<l.length),j<k->(l[j]).kd=1->0<=qM (zZ (l.take k)) (l[j]).ac
 |0,_,j,_,h,_=>absurd h (by omega)
 |k+1,hk,j,hj,h,hkd=>by
   rw[vZ l k (by omega)];by_cases hjk:j=k;· subst hjk;exact G9 hkd
   have h2:=J4 k (by omega) j hj (by omega) hkd;rw[ZT h2];exact h2
theorem Xv {b:Bk} {e:Ev} {n:Int} (h:VU b n):VU (zX b e) n:=by
 obtain⟨k,hk,e1,e2⟩:=h;have hix:=ZT (b:=b) (e:=e) (n:=n) (by rw[e1];exact Int.natCast_nonneg _);by_cases h1:e.kd=1
 · refine⟨k,by rw[Zt h1,List.length_append];omega,hix.trans e1,?_⟩
   have:=Zt (b:=b) h1;simp only[this];rw[List.getElem_append_left hk];exact e2
 by_cases h2:e.kd=2
 · have:=Z9 (b:=b) h2
   refine⟨k,by rw[this,List.length_modify];exact hk,hix.trans e1,?_⟩;simp only[this];rw[List.getElem_modify];split;· rfl
   exact e2
 have:=Kv (b:=b) h1 h2;refine⟨k,by rw[this];exact hk,hix.trans e1,?_⟩;simp only[this];exact e2
theorem Wv {b:Bk} {e:Ev} (h:e.kd=2) (hk:∃k,∃h:k<b.accs.length,qM b e.ac=k/\(b.accs[k]).clo=false):VU (zX b e) e.ac:=by obtain⟨k,hk,e1,-⟩:=hk;have hix:=ZT (b:=b) (e:=e) (n:=e.ac) (by rw[e1];exact Int.natCast_nonneg _);have:=Z9 (b:=b) h;refine⟨k,by rw[this,List.length_modify];exact hk,hix.trans e1,?_⟩;simp only[this];rw[List.getElem_modify,if_pos (by rw[e1];simp)]
theorem QW {l:List Ev} (hr:yB l):∀k:Nat,k<=l.length->∀j (hj:j<l.length),j<k->(l[j]).kd=2->VU (zZ (l.take k)) (l[j]).ac
 |0,_,j,_,h,_=>absurd h (by omega)
 |k+1,hk,j,hj,h,hkd=>by
   rw[vZ l k (by omega)];by_cases hjk:j=k
   · subst hjk
     exact Wv hkd ((hr j hj).acc (by rw[hkd];rfl) (by rw[hkd];decide))
   exact Xv (QW hr k (by omega) j hj (by omega) hkd)
structure gW (l:List Ev):Prop where
 op:∀i (h:i<l.length),(l[i]).kd=1->0<=(l[i]).tm/\(l[i]).tm<12622780800/\1<=(l[i]).vl/\(l[i]).vl<=28
 o1:∀i j (hi:i<l.length) (hj:j<l.length),(l[i]).kd=1->(l[j]).kd=1->(l[i]).ac=(l[j]).ac->i=j
 cl:∀i (h:i<l.length),(l[i]).kd=2->0<=(l[i]).tm/\(l[i]).tm<12622780800
 c1:∀i j (hi:i<l.length) (hj:j<l.length),(l[i]).kd=2->(l[j]).kd=2->(l[i]).ac=(l[j]).ac->i=j
theorem gO {l:List Ev} (hr:yB l):gW l:=by
 have o1:∀i j (hi:i<l.length) (hj:j<l.length),(l[i]).kd=1->(l[j]).kd=1->(l[i]).ac=(l[j]).ac->¬i<j:=fun i j hi hj h1 h2 he hlt=>by
  have g1:=J4 j (by omega) i hi hlt h1;have g2:=(hr j hj).opn h2;rw[he]at g1;omega
 have c1:∀i j (hi:i<l.length) (hj:j<l.length),(l[i]).kd=2->(l[j]).kd=2->(l[i]).ac=(l[j]).ac->¬i<j:=fun i j hi hj h1 h2 he hlt=>by
  obtain⟨k,hk,g1,g2⟩:=QW hr j (by omega) i hi hlt h1;obtain⟨k',hk',g3,g4⟩:=(hr j hj).acc (by rw[h2];rfl) (by rw[h2];decide);rw[he]at g1;have:k=k':=by omega
  subst this;rw[g2]at g4;cases g4
 refine⟨fun i h hk=>?_,fun i j hi hj h1 h2 he=>?_,fun i h hk=>⟨(hr i h).t0,(hr i h).t1⟩,fun i j hi hj h1 h2 he=>?_⟩
 · obtain⟨v1,v2⟩:=(hr i h).v1 hk
   exact⟨(hr i h).t0,(hr i h).t1,v1,v2⟩
 · have:=o1 i j hi hj h1 h2 he
   have:=o1 j i hj hi h2 h1 he.symm;omega
 have:=c1 i j hi hj h1 h2 he;have:=c1 j i hj hi h2 h1 he.symm;omega
theorem ZM {l:List Ev} {n:Int} {e:Ev} (h:Yj l n=some e):e∈l/\e.kd=1/\e.ac=n:=⟨List.mem_of_find?_eq_some h,Wk.1 (List.find?_some h)⟩
theorem W7 {l:List Ev} (h:gW l) {e:Ev} (he:e∈l) (hk:e.kd=1):0<=e.tm/\e.tm<12622780800/\1<=e.vl/\e.vl<=28:=by obtain⟨i,hi,rfl⟩:=List.mem_iff_getElem.1 he;exact h.op i hi hk
def z2b (f t:Int) (c:Int×Int):Bool:=decide (max f c.1<min t c.2)
end Go.Proofs.YtngippiilgdnoaaGreat
