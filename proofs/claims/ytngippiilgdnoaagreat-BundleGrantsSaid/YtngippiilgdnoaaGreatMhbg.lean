/-
  Buckets plainly: what precedes what, what is carried over, where a bucket stands, and the fold that makes them.
-/
import Derived.Test.YtngippiilgdnoaaGreatMhaq
import Derived.Test.YtngippiilgdnoaaGreatMhbe
set_option maxRecDepth 100000
set_option maxHeartbeats 25600000
namespace Go.Proofs.YtngippiilgdnoaaGreat
section
variable {α:Type} {r:α->α->Prop}
theorem uQ (hi:∀x,¬r x x) (ht:∀x y z,r x y->r y z->r x z):∀l m:List α,l.Pairwise r->m.Pairwise r->(∀x,x∈l↔x∈m)->l=m
 | [],[],_,_,_=>rfl
 | [],y::q,_,_,h=>absurd ((h y).2 (by simp)) (by simp)
 |x::p,[],_,_,h=>absurd ((h x).1 (by simp)) (by simp)
 |x::p,y::q,hl,hm,h=>by
   have hl1:=List.pairwise_cons.1 hl;have hm1:=List.pairwise_cons.1 hm;have hxy:x=y:=by
    rcases List.mem_cons.1 ((h x).1 (by simp))with e|hx;· exact e
    rcases List.mem_cons.1 ((h y).2 (by simp))with e|hy;· exact e.symm
    exact absurd (ht _ _ _ (hl1.1 y hy) (hm1.1 x hx)) (hi x)
   subst hxy;rw[uQ hi ht p q hl1.2 hm1.2 fun z=>⟨fun hz=>?_,fun hz=>?_⟩]
   · rcases List.mem_cons.1 ((h z).1 (List.mem_cons_of_mem _ hz))with e|hz2
     · subst e;exact absurd (hl1.1 z hz) (hi z)
     exact hz2
   rcases List.mem_cons.1 ((h z).2 (List.mem_cons_of_mem _ hz))with e|hz2;· subst e;exact absurd (hm1.1 z hz) (hi z)
   exact hz2
def KH (r:α->α->Prop) (O:List α) (x:α) (k:Nat):Prop:=k<=O.length/\(∀j (hj:j<O.length),k<=j->r x O[j])/\∀j (hj:j<O.length),j+1=k->¬r x O[j]
theorem J6 (ht:∀x y z,r x y->r y z->r x z) (hto:∀x y,¬r x y->x≠y->r y x) {O:List α} {x:α} {k:Nat} (hO:O.Pairwise r) (hx:x∉O) (hp:KH r O x k):
 (O.take k++[x]++O.drop k).Pairwise r/\∀y,y∈O.take k++[x]++O.drop k↔(y∈O\/y=x):=by
 obtain⟨hk,hb,ha⟩:=hp;have hcut:=List.take_append_drop k O;have hO2:=hO;rw[<-hcut]at hO2;have hsp:=List.pairwise_append.1 hO2;have hbef:∀y∈O.take k,r y x:=fun y hy=>by
  obtain⟨j,hj,rfl⟩:=List.mem_take_iff_getElem.1 hy;have hjl:j<O.length:=by omega
  have hl:k-1<O.length:=by omega
  have h1:r O[k-1] x:=hto _ _ (ha (k-1) hl (by omega)) (fun e=>hx (e▸List.getElem_mem hl));rcases Nat.lt_or_ge j (k-1)with h|h;· exact ht _ _ _ (List.pairwise_iff_getElem.1 hO j (k-1) hjl hl h) h1
  have:j=k-1:=by omega
  subst this;exact h1
 have haft:∀y∈O.drop k,r x y:=fun y hy=>by
  obtain⟨j,hj,rfl⟩:=List.mem_iff_getElem.1 hy;rw[List.length_drop]at hj;rw[List.getElem_drop];exact hb (k+j) (by omega) (by omega)
 refine⟨?_,fun y=>?_⟩
 · refine List.pairwise_append.2 ⟨List.pairwise_append.2 ⟨hsp.1,List.pairwise_singleton _ _,fun a ha1 b hb1=>?_⟩,hsp.2.1,fun a ha1 b hb1=>?_⟩
   · rw[List.mem_singleton]at hb1
     subst hb1;exact hbef a ha1
   rcases List.mem_append.1 ha1 with h|h;· exact hsp.2.2 a h b hb1
   rw[List.mem_singleton]at h;subst h;exact haft b hb1
 rw[List.mem_append,List.mem_append,List.mem_singleton];have:y∈O↔y∈O.take k\/y∈O.drop k:=by rw[<-List.mem_append,hcut]
 rw[this];constructor;iterate 2
  · rintro((h|h)|h)
    · exact Or.inl (Or.inl h)
    · exact Or.inr h
    exact Or.inl (Or.inr h)
end
theorem Ka {a b:ByteArray} (h:¬ltS a b=true) (hne:a≠b):ltS b a=true:=by rw[ZW]at h⊢;refine Classical.byContradiction fun h2=>hne ?_;have e:=List.le_antisymm (List.not_lt.1 h2) (List.not_lt.1 h);exact ByteArray.ext (Array.toList_inj.1 e)
theorem NG {a b:Int} (h:¬a<b) (hne:a≠b):b<a:=by omega
abbrev Had:=Int×ByteArray
def jz (x y:Had):Prop:=x.1<y.1\/(x.1=y.1/\ltS x.2 y.2=true)
theorem kE (x:Had):¬jz x x:=by
 rintro(h|⟨-,h⟩);· omega
 exact Zt _ h
theorem kn (x y z:Had) (h:jz x y) (g:jz y z):jz x z:=by
 rcases h with h|⟨h,h2⟩<;>rcases g with g|⟨g,g2⟩;iterate 3
  · exact Or.inl (by omega)
 · exact Or.inr ⟨h.trans g,jP h2 g2⟩
theorem JF (x y:Had) (h:¬jz x y) (hne:x≠y):jz y x:=by
 unfold jz at *;by_cases h1:y.1<x.1;· exact Or.inl h1
 by_cases h2:x.1=y.1;· refine Or.inr ⟨h2.symm,Ka (fun e=>h (Or.inr ⟨h2,e⟩)) fun e=>hne (Prod.ext h2 e)⟩
 exact absurd (Or.inl (by omega)) h
structure YJ (l:List Ev) (a:Int) (O:List Int):Prop where
 srt:O.Pairwise (·<·)
 mem:∀x,x∈O↔∃e∈l,e.kd=3/\e.ac=a/\e.sb=x
structure jL (l:List Ev) (s:Int) (N:List ByteArray):Prop where
 srt:N.Pairwise (fun a b=>ltS a b=true)
 mem:∀x,x∈N↔∃e∈l,e.kd=8/\e.sb=s/\e.nm=x
structure jI (l:List Ev) (a:Int) (H:List Had):Prop where
 srt:H.Pairwise jz
 mem:∀h,h∈H↔∃e∈l,e.kd=8/\(∃f∈l,f.kd=3/\f.ac=a/\f.sb=e.sb)/\(e.sb,e.nm)=h
theorem jL.one {l:List Ev} {s:Int} {N M:List ByteArray} (h:jL l s N) (g:jL l s M):N=M:=
 uQ (r:=fun a b=>ltS a b=true) (fun x=>Zt x) (fun _ _ _ h g=>jP h g) _ _ h.srt g.srt fun x=>(h.mem x).trans (g.mem x).symm
theorem jI.one {l:List Ev} {a:Int} {N M:List Had} (h:jI l a N) (g:jI l a M):N=M:=
 uQ kE kn _ _ h.srt g.srt fun x=>(h.mem x).trans (g.mem x).symm
theorem jL.skip {l:List Ev} {s:Int} {N:List ByteArray} (h:jL l s N) (e:Ev) (hs:¬(e.kd=8/\e.sb=s)\/e.nm∈N):jL (l++[e]) s N:=
 ⟨h.srt,fun x=>by
  rw[h.mem x];constructor;· rintro⟨f,hf,q⟩;exact⟨f,by simp[hf],q⟩
  rintro⟨f,hf,q1,q2,q3⟩;rcases List.mem_append.1 hf with hf|hf;· exact⟨f,hf,q1,q2,q3⟩
  rw[List.mem_singleton]at hf;subst hf;rcases hs with hs|hs;· exact absurd ⟨q1,q2⟩ hs
  exact(h.mem x).1 (q3▸hs)⟩
theorem jL.ins {l:List Ev} {s:Int} {N:List ByteArray} (h:jL l s N) (e:Ev) (h1:e.kd=8) (h2:e.sb=s) (hn:e.nm∉N) {k:Nat} (hp:KH (fun a b=>ltS a b=true) N e.nm k):jL (l++[e]) s (N.take k++[e.nm]++N.drop k):=by
 obtain⟨q1,q2⟩:=J6 (r:=fun a b=>ltS a b=true) (fun _ _ _ h g=>jP h g) (fun _ _=>Ka) h.srt hn hp;refine⟨q1,fun x=>?_⟩;rw[q2,h.mem x];constructor
 · rintro(⟨f,hf,q⟩|rfl)
   · exact⟨f,by simp[hf],q⟩
   exact⟨e,by simp,h1,h2,rfl⟩
 rintro⟨f,hf,q⟩;rcases List.mem_append.1 hf with hf|hf;· exact Or.inl ⟨f,hf,q⟩
 rw[List.mem_singleton]at hf;subst hf;exact Or.inr q.2.2.symm
theorem YJ.skip {l:List Ev} {a:Int} {O:List Int} (h:YJ l a O) (e:Ev) (hs:¬(e.kd=3/\e.ac=a)):YJ (l++[e]) a O:=
 ⟨h.srt,fun x=>by
  rw[h.mem x];constructor;· rintro⟨f,hf,q⟩;exact⟨f,by simp[hf],q⟩
  rintro⟨f,hf,q1,q2,q3⟩;rcases List.mem_append.1 hf with hf|hf;· exact⟨f,hf,q1,q2,q3⟩
  rw[List.mem_singleton]at hf;subst hf;exact absurd ⟨q1,q2⟩ hs⟩
theorem YJ.ins {l:List Ev} {a:Int} {O:List Int} (h:YJ l a O) (e:Ev) (h1:e.kd=3) (h2:e.ac=a) (hn:e.sb∉O) {k:Nat} (hp:KH (·<·) O e.sb k):YJ (l++[e]) a (O.take k++[e.sb]++O.drop k):=by
 obtain⟨q1,q2⟩:=J6 (r:=fun a b:Int=>a<b) (fun _ _ _ h g=>Int.lt_trans h g) (fun _ _=>NG) h.srt hn hp;refine⟨q1,fun x=>?_⟩;rw[q2,h.mem x];constructor
 · rintro(⟨f,hf,q⟩|rfl)
   · exact⟨f,by simp[hf],q⟩
   exact⟨e,by simp,h1,h2,rfl⟩
 rintro⟨f,hf,q⟩;rcases List.mem_append.1 hf with hf|hf;· exact Or.inl ⟨f,hf,q⟩
 rw[List.mem_singleton]at hf;subst hf;exact Or.inr q.2.2.symm
theorem VM {b:Bk} {last:Int} {e:Ev} (hok:OkEv b last e) (m:Int) (h:0<=zT b m):0<=zT (zM b e) m:=by
 have hk1:=hok.k1;have hk2:=hok.k2;by_cases c1:e.kd=1\/e.kd=2\/14<=e.kd
 · obtain⟨q1,-⟩:=ZF (b:=b) c1
   unfold zT at h⊢;rw[q1];exact h
 by_cases c2:e.kd=3
 · obtain⟨q1,-⟩:=YG (b:=b) c2
   unfold zT at h⊢;rw[q1,ux _ h];exact h
 obtain⟨q1,-⟩:=uG (b:=b) (e:=e) (by omega) (by omega);unfold zT at h⊢;rw[q1,uw (fun a=>by rw[uE]) _ _];exact h
end Go.Proofs.YtngippiilgdnoaaGreat
namespace Go.Proofs.YtngippiilgdnoaaGreat
open Go.RowKit
structure Bu where
 ac:Int
 sb:Int
 pr:ByteArray
 ix:Int
 kd:Int
 zs:List ByteArray
 f:Int
 t:Int
 un:Int
 lf:Int
 pt:Int
 sh:Bool
def yx (a b:Bu):Bool:=decide (a.sb=b.sb)&&yt a.pr b.pr&&decide (a.ix=b.ix)&&decide (a.kd=b.kd)&&decide (a.t=b.f)
def yz (a b:Bu):Bool:=decide (a.sb=b.sb)&&yt a.pr b.pr&&decide (a.ix=b.ix)&&decide (a.f=b.f)
def yB (a b:Bu):Bool:=
 if a.ac≠b.ac then decide (a.ac<b.ac) else if a.sb≠b.sb then decide (a.sb<b.sb) else if yt a.pr b.pr=false then ltS a.pr b.pr else if a.ix≠b.ix then decide (a.ix<b.ix) else decide (a.f<b.f)
def KU (o:Bu) (r:Int):Int:=max 0 (min o.lf r)
def addN (b:Bu) (n:Int):Bu:={ b with un:=wrap64 (b.un+n),lf:=wrap64 (b.lf+n) }
def ZD (o b:Bu) (r:Int):Bu:=if yx o b=true then addN b (KU o r) else b
def kT {α:Type} (p:α->Bool) (l:List α):Nat:=(l.takeWhile p).length
def insT {α:Type} (p:α->Bool) (x:α) (l:List α):List α:=l.take (kT p l)++[x]++l.drop (kT p l)
theorem Ef {α:Type} (p:α->Bool) (l:List α):kT p l<=l.length:=List.Sublist.length_le (List.takeWhile_sublist _)
theorem Eg {α:Type} {p:α->Bool} {l:List α} {k:Nat} (hk:k<l.length) (h:∀j (hj:j<k),p (l[j])=true) (hn:p l[k]=false):kT p l=k:=by
 unfold kT;have e:l=l.take k++(l[k]::l.drop (k+1)):=by rw[<-List.drop_eq_getElem_cons hk,List.take_append_drop]
 have h2:(l.takeWhile p)=((l.take k++(l[k]::l.drop (k+1))).takeWhile p):=congrArg _ e;rw[h2,List.takeWhile_append_of_pos,List.takeWhile_cons_of_neg (by simp[hn]),List.append_nil,List.length_take];· omega
 intro x hx;obtain⟨j,hj,rfl⟩:=List.mem_take_iff_getElem.1 hx;exact h j (by omega)
theorem Xh {α:Type} {p:α->Bool} {l:List α} (h:∀j (hj:j<l.length),p l[j]=true):kT p l=l.length:=by
 unfold kT;have h2:((l++[]).takeWhile p)=l++([]:List α).takeWhile p:=List.takeWhile_append_of_pos (by
  intro x hx;obtain⟨j,hj,rfl⟩:=List.mem_iff_getElem.1 hx;exact h j hj);rw[List.append_nil,List.takeWhile_nil,List.append_nil]at h2;rw[h2]
theorem Yx {α:Type} (p:α->Bool):∀(l:List α) (j:Nat) (hj:j<l.length),j<kT p l->p l[j]=true
 | [],j,hj,_=>by cases hj
 |x::r,j,hj,h=>by
   unfold kT at h;rw[List.takeWhile_cons]at h;split at h
   · rename_i hx
     cases j with
     |zero=>exact hx
     |succ j=>exact Yx p r j (by simpa using hj) (by simpa [kT]using h)
   simp at h
theorem Kd {α:Type} (p:α->Bool):∀(l:List α) (h:kT p l<l.length),p l[kT p l]=false
 | [],h=>by cases h
 |x::r,h=>by
   by_cases hx:p x=true
   · have e:kT p (x::r)=kT p r+1:=by unfold kT;rw[List.takeWhile_cons,if_pos hx,List.length_cons]
     simp only[e,List.getElem_cons_succ];exact Kd p r (by rw[e]at h;simpa using h)
   have e:kT p (x::r)=0:=by unfold kT;rw[List.takeWhile_cons,if_neg hx];rfl
   simp only[e,List.getElem_cons_zero];simpa using hx
theorem kD {α:Type} (p:α->Bool) (x:α) (l:List α):(insT p x l).length=l.length+1:=by have:=Ef p l;unfold insT;simp only[List.length_append,List.length_take,List.length_drop,List.length_singleton];omega
theorem jY {α:Type} {p:α->Bool} {x y:α} {l:List α}:y∈insT p x l↔y∈l\/y=x:=by
 unfold insT;rw[List.mem_append,List.mem_append,List.mem_singleton];have:y∈l↔y∈l.take (kT p l)\/y∈l.drop (kT p l):=by rw[<-List.mem_append,List.take_append_drop]
 rw[this];constructor
 · rintro((h|h)|h)
   · exact Or.inl (Or.inl h)
   · exact Or.inr h
   exact Or.inl (Or.inr h)
 rintro((h|h)|h);· exact Or.inl (Or.inl h)
 · exact Or.inr h
 exact Or.inl (Or.inr h)
def insB (b:Bu) (L:List Bu):List Bu:=insT (fun x=>yB x b) b L
def yF (L:List Bu) (b:Bu):Bool:=L.any fun x=>yz x b
def q9 (L:List Bu) (g:Bu×Int):Bu:=match L.find? (fun x=>yx x g.1)with
 |some o=>ZD o g.1 g.2
 |none=>g.1
def zL (L:List Bu) (g:Bu×Int):List Bu:=if yF L g.1=true then L else insB (q9 L g) L
def yu (G:List (Bu×Int)) (S:List Bu):List Bu:=G.foldl zL S
structure OrdB (L:List Bu):Prop where
 srt:L.Pairwise fun a b=>yB a b=true
 one:L.Pairwise fun a b=>yz a b=false
theorem jf (a:ByteArray):yt a a=true:=(zI a a).2 rfl
theorem GS {a b:ByteArray}:yt a b=false↔a≠b:=by rw[<-Bool.not_eq_true,zI]
theorem qT {a b:Bu}:yz a b=true↔a.sb=b.sb/\a.pr=b.pr/\a.ix=b.ix/\a.f=b.f:=by unfold yz;simp only[Bool.and_eq_true,decide_eq_true_eq,zI,and_assoc]
def Earl (a b:Bu):Prop:=a.ac<b.ac\/a.ac=b.ac/\(a.sb<b.sb\/a.sb=b.sb/\(ltS a.pr b.pr=true/\a.pr≠b.pr\/a.pr=b.pr/\(a.ix<b.ix\/a.ix=b.ix/\a.f<b.f)))
theorem uW {a b:Bu}:yB a b=true↔Earl a b:=by
 unfold yB Earl;by_cases h1:a.ac=b.ac
 · rw[if_neg (by simpa using h1)]
   by_cases h2:a.sb=b.sb
   · rw[if_neg (by simpa using h2)]
     by_cases h3:a.pr=b.pr
     · have h3s:¬yt a.pr b.pr=false:=by rw[(zI _ _).2 h3];decide
       rw[if_neg h3s];by_cases h4:a.ix=b.ix
       · rw[if_neg (by simpa using h4),decide_eq_true_eq]
         simp[h1,h2,h3,h4]
       rw[if_pos (by simpa using h4),decide_eq_true_eq];simp[h1,h2,h3,h4]
     rw[if_pos (GS.2 h3)];simp[h1,h2,h3]
   rw[if_pos (by simpa using h2),decide_eq_true_eq];simp[h1,h2]
 rw[if_pos (by simpa using h1),decide_eq_true_eq];simp[h1]
theorem Earl.irr (a:Bu):¬Earl a a:=by
 unfold Earl;rintro(h|⟨-,h|⟨-,⟨-,h⟩|⟨-,h|⟨-,h⟩⟩⟩⟩);iterate 2
  · omega
 · exact h rfl
 iterate 2
  · omega
theorem Earl.trans (a b c:Bu) (h:Earl a b) (g:Earl b c):Earl a c:=by
 unfold Earl at *;rcases h with h|⟨e1,h⟩
 · rcases g with g|⟨e2,-⟩
   iterate 2
    · exact Or.inl (by omega)
 rcases g with g|⟨e2,g⟩;· exact Or.inl (by omega)
 refine Or.inr ⟨e1.trans e2,?_⟩;rcases h with h|⟨f1,h⟩
 · rcases g with g|⟨f2,-⟩
   iterate 2
    · exact Or.inl (by omega)
 rcases g with g|⟨f2,g⟩;· exact Or.inl (by omega)
 refine Or.inr ⟨f1.trans f2,?_⟩;rcases h with⟨h,h'⟩|⟨g1,h⟩
 · rcases g with⟨g,g'⟩|⟨g2,-⟩
   · exact Or.inl ⟨jP h g,fun e=>Zt b.pr (jP (e▸g:ltS b.pr a.pr=true) h)⟩
   exact Or.inl ⟨g2▸h,g2▸h'⟩
 rcases g with⟨g,g'⟩|⟨g2,g⟩;· exact Or.inl ⟨by rw[g1];exact g,by rw[g1];exact g'⟩
 refine Or.inr ⟨g1.trans g2,?_⟩;rcases h with h|⟨i1,h⟩<;>rcases g with g|⟨i2,g⟩;iterate 3
  · exact Or.inl (by omega)
 · exact Or.inr ⟨by omega,by omega⟩
theorem Earl.tot {a b:Bu} (hne:yz a b=false) (h:¬Earl a b):Earl b a:=by
 unfold Earl at *;by_cases h1:b.ac<a.ac;· exact Or.inl h1
 by_cases e1:a.ac=b.ac
 · refine Or.inr ⟨e1.symm,?_⟩
   by_cases h2:b.sb<a.sb;· exact Or.inl h2
   by_cases e2:a.sb=b.sb
   · refine Or.inr ⟨e2.symm,?_⟩
     by_cases e3:a.pr=b.pr
     · refine Or.inr ⟨e3.symm,?_⟩
       by_cases h4:b.ix<a.ix;· exact Or.inl h4
       by_cases e4:a.ix=b.ix
       · refine Or.inr ⟨e4.symm,?_⟩
         by_cases h5:b.f<a.f;· exact h5
         by_cases e5:a.f=b.f;· rw[qT.2 ⟨e2,e3,e4,e5⟩]at hne;cases hne
         exact absurd (Or.inr ⟨e1,Or.inr ⟨e2,Or.inr ⟨e3,Or.inr ⟨e4,by omega⟩⟩⟩⟩) h
       exact absurd (Or.inr ⟨e1,Or.inr ⟨e2,Or.inr ⟨e3,Or.inl (by omega)⟩⟩⟩) h
     refine Or.inl ⟨Ka (fun hl=>h (Or.inr ⟨e1,Or.inr ⟨e2,Or.inl ⟨hl,e3⟩⟩⟩)) e3,fun e=>e3 e.symm⟩
   exact absurd (Or.inr ⟨e1,Or.inl (by omega)⟩) h
 exact absurd (Or.inl (by omega)) h
theorem YY (a b:Bu):yz a b=yz b a:=by
 cases h:yz a b<;>cases g:yz b a<;>first|rfl|skip
 · obtain⟨h1,h2,h3,h4⟩:=qT.1 g
   rw[qT.2 ⟨h1.symm,h2.symm,h3.symm,h4.symm⟩]at h;cases h
 obtain⟨h1,h2,h3,h4⟩:=qT.1 h;rw[qT.2 ⟨h1.symm,h2.symm,h3.symm,h4.symm⟩]at g;cases g
structure qp (a b:Bu):Prop where
 ac:a.ac=b.ac
 sb:a.sb=b.sb
 pr:a.pr=b.pr
 ix:a.ix=b.ix
 kd:a.kd=b.kd
 zs:a.zs=b.zs
 f:a.f=b.f
 t:a.t=b.t
 pt:a.pt=b.pt
 sh:a.sh=b.sh
theorem qp.refl (a:Bu):qp a a:=⟨rfl,rfl,rfl,rfl,rfl,rfl,rfl,rfl,rfl,rfl⟩
theorem Ky (o b:Bu) (r:Int):qp (ZD o b r) b:=by unfold ZD addN;split<;>exact⟨rfl,rfl,rfl,rfl,rfl,rfl,rfl,rfl,rfl,rfl⟩
theorem qd (L:List Bu) (g:Bu×Int):qp (q9 L g) g.1:=by
 unfold q9;split;· exact Ky _ _ _
 exact qp.refl _
theorem qp.id1 {a b:Bu} (h:qp a b) (c:Bu):yz a c=yz b c:=by unfold yz;rw[h.sb,h.pr,h.ix,h.f]
theorem qp.id2 {a b:Bu} (h:qp a b) (c:Bu):yz c a=yz c b:=by unfold yz;rw[h.sb,h.pr,h.ix,h.f]
theorem qp.prec1 {a b:Bu} (h:qp a b) (c:Bu):yx a c=yx b c:=by unfold yx;rw[h.sb,h.pr,h.ix,h.kd,h.t]
theorem OrdB.earl {L:List Bu} (h:OrdB L):L.Pairwise Earl:=h.srt.imp fun h=>uW.1 h
theorem Ei {b:Bu} {L:List Bu} (h:OrdB L) (hn:yF L b=false):OrdB (insB b L):=by
 have hno:∀x∈L,yz x b=false:=fun x hx=>by
  have:=List.any_eq_false.1 hn x hx;simpa using this
 have hE:=h.earl;have hcut:=List.take_append_drop (kT (fun x=>yB x b) L) L;have hsp:=hE;rw[<-hcut]at hsp;have hsp:=List.pairwise_append.1 hsp;have hsq:=h.one;rw[<-hcut]at hsq;have hsq:=List.pairwise_append.1 hsq;have hkl:=Ef (fun x=>yB x b) L;have hbef:∀y∈L.take (kT (fun x=>yB x b) L),Earl y b:=fun y hy=>by
  obtain⟨j,hj,rfl⟩:=List.mem_take_iff_getElem.1 hy;exact uW.1 (Yx (fun x=>yB x b) L j (by omega) (by omega))
 have haft:∀y∈L.drop (kT (fun x=>yB x b) L),Earl b y:=fun y hy=>by
  obtain⟨j,hj,rfl⟩:=List.mem_iff_getElem.1 hy;rw[List.length_drop]at hj;have h0:=Kd (fun x=>yB x b) L (by omega);have h1:Earl b L[kT (fun x=>yB x b) L]:=Earl.tot (hno _ (List.getElem_mem _)) (fun he=>by rw[uW.2 he]at h0;cases h0);rw[List.getElem_drop];rcases Nat.eq_zero_or_pos j with rfl|hp;· exact h1
  exact Earl.trans _ _ _ h1 (List.pairwise_iff_getElem.1 hE _ _ (by omega) (by omega) (by omega))
 refine⟨?_,?_⟩
 · have:(insB b L).Pairwise Earl:=List.pairwise_append.2 ⟨List.pairwise_append.2 ⟨hsp.1,List.pairwise_singleton _ _,fun a ha1 c hc1=>?_⟩,hsp.2.1,fun a ha1 c hc1=>?_⟩
   · exact this.imp fun h=>uW.2 h
   · rw[List.mem_singleton]at hc1
     subst hc1;exact hbef a ha1
   rcases List.mem_append.1 ha1 with h|h;· exact hsp.2.2 a h c hc1
   rw[List.mem_singleton]at h;subst h;exact haft c hc1
 refine List.pairwise_append.2 ⟨List.pairwise_append.2 ⟨hsq.1,List.pairwise_singleton _ _,fun a ha1 c hc1=>?_⟩,hsq.2.1,fun a ha1 c hc1=>?_⟩
 · rw[List.mem_singleton]at hc1
   subst hc1;exact hno a (List.mem_of_mem_take ha1)
 rcases List.mem_append.1 ha1 with h|h;· exact hsq.2.2 a h c hc1
 rw[List.mem_singleton]at h;subst h;rw[YY];exact hno c (List.mem_of_mem_drop hc1)
theorem uz {b x:Bu} {L:List Bu}:x∈insB b L↔x∈L\/x=b:=jY
theorem Jj {a b:Bu} (h:qp a b) (L:List Bu):yF L a=yF L b:=by
 unfold yF
 congr 1
 funext x
 exact h.id2 x
theorem ko {L:List Bu} {b:Bu}:yF L b=true↔∃x∈L,yz x b=true:=by unfold yF;rw[List.any_eq_true]
theorem qY {L:List Bu} {b c:Bu}:yF (insB b L) c=(yF L c||yz b c):=by
 rw[Bool.eq_iff_iff,Bool.or_eq_true,ko,ko];constructor
 · rintro⟨x,hx,h⟩
   rcases uz.1 hx with hx|rfl;· exact Or.inl ⟨x,hx,h⟩
   exact Or.inr h
 rintro(⟨x,hx,h⟩|h);· exact⟨x,uz.2 (Or.inl hx),h⟩
 exact⟨b,uz.2 (Or.inr rfl),h⟩
theorem vZ {L:List Bu} (h:OrdB L) (g:Bu×Int):OrdB (zL L g):=by
 unfold zL;split;· exact h
 rename_i hn;exact Ei h (by rw[Jj (qd L g)];simpa using hn)
theorem JH:∀(G:List (Bu×Int)) {L:List Bu},OrdB L->OrdB (yu G L)
 | [],_,h=>h
 |g::G,_,h=>JH G (vZ h g)
theorem Kr {L:List Bu} {g:Bu×Int} {x:Bu} (h:x∈L):x∈zL L g:=by
 unfold zL;split;· exact h
 exact uz.2 (Or.inl h)
theorem Qk:∀(G:List (Bu×Int)) {L:List Bu} {x:Bu},x∈L->x∈yu G L
 | [],_,_,h=>h
 |_::G,_,_,h=>Qk G (Kr h)
theorem Kn {L M:List Bu} (h:∀x∈L,x∈M) {b:Bu} (hb:yF L b=true):yF M b=true:=by obtain⟨x,hx,h1⟩:=ko.1 hb;exact ko.2 ⟨x,h x hx,h1⟩
theorem jx (a:Bu):yz a a=true:=qT.2 ⟨rfl,rfl,rfl,rfl⟩
theorem Uu (L:List Bu) (g:Bu×Int):yF (zL L g) g.1=true:=by
 unfold zL;split;· assumption
 rw[qY,(qd L g).id1,jx,Bool.or_true]
theorem YD:∀(G:List (Bu×Int)) {L:List Bu} {g:Bu×Int},g∈G->yF (yu G L) g.1=true
 |g::G,L,x,h=>by
   rcases List.mem_cons.1 h with e|h;· rw[e];exact Kn (fun y hy=>Qk G hy) (Uu L g)
   exact YD G h
theorem ZA:∀(G:List (Bu×Int)) {L:List Bu},(∀g∈G,yF L g.1=true)->yu G L=L
 | [],_,_=>rfl
 |g::G,L,h=>by
   show yu G (zL L g)=L;have e:zL L g=L:=by unfold zL;rw[if_pos (h g List.mem_cons_self)]
   rw[e];exact ZA G fun x hx=>h x (List.mem_cons_of_mem _ hx)
theorem Kk (G H:List (Bu×Int)) (L:List Bu):yu (G++H) L=yu H (yu G L):=List.foldl_append
theorem Ez {p:Bu->Bool} {b:Bu} {L:List Bu} (h:p b=false):(insB b L).find? p=L.find? p:=by unfold insB insT;rw[List.append_assoc,List.find?_append,List.singleton_append,List.find?_cons_of_neg (by simpa using h),<-List.find?_append,List.take_append_drop]
theorem Gv {b:Bu} {L:List Bu} {g:Bu×Int} (h:yx b g.1=false):q9 (insB b L) g=q9 L g:=by unfold q9;rw[Ez (p:=fun x=>yx x g.1) h]
theorem Yh {L:List Bu} {g h:Bu×Int} (hp:yx g.1 h.1=false):q9 (zL L g) h=q9 L h:=by
 unfold zL;split;· rfl
 exact Gv (by rw[(qd L g).prec1];exact hp)
theorem Ea {L M:List Bu} (h:OrdB L) (g:OrdB M) (hm:∀x,x∈L↔x∈M):L=M:=uQ Earl.irr Earl.trans L M h.earl g.earl hm
theorem kq {L:List Bu} {g:Bu×Int} {x:Bu}:x∈zL L g↔x∈L\/(yF L g.1=false/\x=q9 L g):=by
 unfold zL;split;· rename_i hq;rw[hq];simp
 rename_i hq;rw[uz];simp[hq]
theorem Ks {L:List Bu} (hL:OrdB L) {g h:Bu×Int} (hi:yz g.1 h.1=false) (h1:yx g.1 h.1=false) (h2:yx h.1 g.1=false):zL (zL L g) h=zL (zL L h) g:=by
 have q1:q9 (zL L g) h=q9 L h:=Yh h1;have q2:q9 (zL L h) g=q9 L g:=Yh h2;have ex:∀{a b:Bu×Int},yz a.1 b.1=false->yF (zL L a) b.1=yF L b.1:=fun {a b} hi=>by
  unfold zL;split;· rfl
  rw[qY,(qd L a).id1,hi,Bool.or_false]
 have e1:=ex hi;have e2:=ex (by rw[YY];exact hi:yz h.1 g.1=false);refine Ea (vZ (vZ hL g) h) (vZ (vZ hL h) g) fun x=>?_;rw[kq,kq,kq,kq,e1,e2,q1,q2,or_right_comm]
structure QN (G:List (Bu×Int)):Prop where
 one:G.Pairwise fun a b=>yz a.1 b.1=false
 fwd:G.Pairwise fun a b=>yx b.1 a.1=false
theorem Vc {h:Bu×Int}:∀(A:List (Bu×Int)) {L:List Bu},OrdB L->(∀a∈A,yz h.1 a.1=false/\yx h.1 a.1=false/\yx a.1 h.1=false)->yu A (zL L h)=zL (yu A L) h
 | [],_,_,_=>rfl
 |a::A,L,hL,hA=>by
   obtain⟨q1,q2,q3⟩:=hA a List.mem_cons_self;show yu A (zL (zL L h) a)=zL (yu A (zL L a)) h;rw[Ks hL q1 q2 q3];exact Vc A (vZ hL a) fun x hx=>hA x (List.mem_cons_of_mem _ hx)
theorem Zz (P:Bu×Int->Bool):∀(G:List (Bu×Int)) {L:List Bu},OrdB L->QN G->(∀a∈G,∀b∈G,yx a.1 b.1=true->P b=true->P a=true)->yu (G.filter fun g=>!P g) (yu (G.filter P) L)=yu G L
 | [],_,_,_,_=>rfl
 |g::G,L,hL,hG,hP=>by
   have g1:=List.pairwise_cons.1 hG.one;have g2:=List.pairwise_cons.1 hG.fwd;have ih:=fun {M:List Bu} (hM:OrdB M)=>Zz P G hM ⟨g1.2,g2.2⟩ fun a ha b hb=>hP a (List.mem_cons_of_mem _ ha) b (List.mem_cons_of_mem _ hb);by_cases hp:P g=true
   · rw[List.filter_cons_of_pos hp,List.filter_cons_of_neg (by simp[hp])]
     exact ih (vZ hL g)
   rw[List.filter_cons_of_neg hp,List.filter_cons_of_pos (by simp[hp])];show yu (G.filter fun g=>!P g) (zL (yu (G.filter P) L) g)=yu G (zL L g);rw[<-ih (vZ hL g),<-Vc _ hL];intro a ha;obtain⟨ha,hpa⟩:=List.mem_filter.1 ha;refine⟨g1.1 a ha,?_,g2.1 a ha⟩;rw[<-Bool.not_eq_true];intro hpr;exact hp (hP g List.mem_cons_self a (List.mem_cons_of_mem _ ha) hpr hpa)
theorem Gj {P:Bu×Int->Bool} {G:List (Bu×Int)} {L:List Bu} (hL:OrdB L) (hG:QN G) (hP:∀a∈G,∀b∈G,yx a.1 b.1=true->P b=true->P a=true):yu G (yu (G.filter P) L)=yu G L:=by have hM:=JH (G.filter P) hL;rw[<-Zz P G hM hG hP,ZA (G.filter P) (fun g hg=>YD _ hg)];exact Zz P G hL hG hP
end Go.Proofs.YtngippiilgdnoaaGreat
