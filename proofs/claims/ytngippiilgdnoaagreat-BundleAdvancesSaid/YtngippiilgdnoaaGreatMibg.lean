/-
  Buckets plainly: what precedes what, what is carried over, where a bucket stands, and the fold that makes them.
-/
import Derived.Test.YtngippiilgdnoaaGreatMiaq
import Derived.Test.YtngippiilgdnoaaGreatMibe
set_option maxRecDepth 100000
set_option maxHeartbeats 25600000
namespace Go.Proofs.YtngippiilgdnoaaGreat
section
variable {α:Type} {r:α->α->Prop}
theorem Zj (hi:∀x,¬r x x) (ht:∀x y z,r x y->r y z->r x z):∀l m:List α,l.Pairwise r->m.Pairwise r->(∀x,x∈l↔x∈m)->l=m
 | [],[],_,_,_=>rfl
 | [],y::q,_,_,h=>absurd ((h y).2 (by simp)) (by simp)
 |x::p,[],_,_,h=>absurd ((h x).1 (by simp)) (by simp)
 |x::p,y::q,hl,hm,h=>by
   have hl1:=List.pairwise_cons.1 hl;have hm1:=List.pairwise_cons.1 hm;have hxy:x=y:=by
    rcases List.mem_cons.1 ((h x).1 (by simp))with e|hx;· exact e
    rcases List.mem_cons.1 ((h y).2 (by simp))with e|hy;· exact e.symm
    exact absurd (ht _ _ _ (hl1.1 y hy) (hm1.1 x hx)) (hi x)
   subst hxy;rw[Zj hi ht p q hl1.2 hm1.2 fun z=>⟨fun hz=>?_,fun hz=>?_⟩]
   · rcases List.mem_cons.1 ((h z).1 (List.mem_cons_of_mem _ hz))with e|hz2
     · subst e;exact absurd (hl1.1 z hz) (hi z)
     exact hz2
   rcases List.mem_cons.1 ((h z).2 (List.mem_cons_of_mem _ hz))with e|hz2;· subst e;exact absurd (hm1.1 z hz) (hi z)
   exact hz2
def Ya (r:α->α->Prop) (O:List α) (x:α) (k:Nat):Prop:=k<=O.length/\(∀j (hj:j<O.length),k<=j->r x O[j])/\∀j (hj:j<O.length),j+1=k->¬r x O[j]
theorem UM (O:List α) (x:α):∀m,m<=O.length->(∀j (hj:j<O.length),m<=j->r x O[j])->∃k,Ya r O x k
 |0,hm,h=>⟨0,hm,h,fun j _ e=>by omega⟩
 |m+1,hm,h=>by
   by_cases hx:r x O[m]
   · exact UM O x m (by omega) fun j hj hmj=>by
      rcases Nat.lt_or_ge m j with h1|h1;· exact h j hj h1
      have:j=m:=by omega
      subst this;exact hx
   exact⟨m+1,hm,h,fun j hj e=>by
    have:j=m:=by omega
    subst this;exact hx⟩
theorem KO (ht:∀x y z,r x y->r y z->r x z) (hto:∀x y,¬r x y->x≠y->r y x) {O:List α} {x:α} {k:Nat} (hO:O.Pairwise r) (hx:x∉O) (hp:Ya r O x k):
 (O.take k++[x]++O.drop k).Pairwise r/\∀y,y∈O.take k++[x]++O.drop k↔(y∈O\/y=x):=by
 obtain⟨hk,hb,ha⟩:=hp;have hcut:=List.take_append_drop k O;have hO2:=hO;rw[<-hcut]at hO2;have hsp:=List.pairwise_append.1 hO2;have hbef:∀y∈O.take k,r y x:=fun y hy=>by
  obtain⟨j,hj,rfl⟩:=List.mem_take_iff_getElem.1 hy;have hjl:j<O.length:=by omega
  have hl:k-1<O.length:=by omega
  have h1:r O[k-1] x:=hto _ _ (ha (k-1) hl (by omega)) (fun e=>hx (e▸List.getElem_mem hl));rcases Nat.lt_or_ge j (k-1)with h|h;· exact ht _ _ _ (List.pairwise_iff_getElem.1 hO j (k-1) hjl hl h) h1
  have:j=k-1:=by omega
  subst this;exact h1
 have haft:∀y∈O.drop k,r x y:=fun y hy=>by
  obtain⟨j,hj,rfl⟩:=List.mem_iff_getElem.1 hy;rw[List.length_drop]at hj;rw[List.getElem_drop];exact hb (k+j) (by omega) (by omega)
 refine⟨?_,fun y=>?_⟩
 · refine List.pairwise_append.2 ⟨List.pairwise_append.2 ⟨hsp.1,List.pairwise_singleton _ _,fun a ha1 b hb1=>?_⟩,hsp.2.1,fun a ha1 b hb1=>?_⟩
   · rw[List.mem_singleton]at hb1
     subst hb1;exact hbef a ha1
   rcases List.mem_append.1 ha1 with h|h;· exact hsp.2.2 a h b hb1
   rw[List.mem_singleton]at h;subst h;exact haft b hb1
 rw[List.mem_append,List.mem_append,List.mem_singleton];have:y∈O↔y∈O.take k\/y∈O.drop k:=by rw[<-List.mem_append,hcut]
 rw[this];constructor;iterate 2
  · rintro((h|h)|h)
    · exact Or.inl (Or.inl h)
    · exact Or.inr h
    exact Or.inl (Or.inr h)
end
theorem VP {a b:ByteArray} (h:¬ltS a b=true) (hne:a≠b):ltS b a=true:=by rw[Yk]at h⊢;refine Classical.byContradiction fun h2=>hne ?_;have e:=List.le_antisymm (List.not_lt.1 h2) (List.not_lt.1 h);exact ByteArray.ext (Array.toList_inj.1 e)
theorem xT {a b:Int} (h:¬a<b) (hne:a≠b):b<a:=by omega
abbrev Had:=Int×ByteArray
def jR (x y:Had):Prop:=x.1<y.1\/(x.1=y.1/\ltS x.2 y.2=true)
theorem k9 (x:Had):¬jR x x:=by
 rintro(h|⟨-,h⟩);· omega
 exact uq _ h
theorem kF (x y z:Had) (h:jR x y) (g:jR y z):jR x z:=by
 rcases h with h|⟨h,h2⟩<;>rcases g with g|⟨g,g2⟩;iterate 3
  · exact Or.inl (by omega)
 · exact Or.inr ⟨h.trans g,jC h2 g2⟩
theorem Ke (x y:Had) (h:¬jR x y) (hne:x≠y):jR y x:=by
 unfold jR at *;by_cases h1:y.1<x.1;· exact Or.inl h1
 by_cases h2:x.1=y.1;· refine Or.inr ⟨h2.symm,VP (fun e=>h (Or.inr ⟨h2,e⟩)) fun e=>hne (Prod.ext h2 e)⟩
 exact absurd (Or.inl (by omega)) h
structure qr (l:List Ev) (a:Int) (O:List Int):Prop where
 srt:O.Pairwise (·<·)
 mem:∀x,x∈O↔∃e∈l,e.kd=3/\e.ac=a/\e.sb=x
structure yT (l:List Ev) (s:Int) (N:List ByteArray):Prop where
 srt:N.Pairwise (fun a b=>ltS a b=true)
 mem:∀x,x∈N↔∃e∈l,e.kd=8/\e.sb=s/\e.nm=x
structure jw (l:List Ev) (a:Int) (H:List Had):Prop where
 srt:H.Pairwise jR
 mem:∀h,h∈H↔∃e∈l,e.kd=8/\(∃f∈l,f.kd=3/\f.ac=a/\f.sb=e.sb)/\(e.sb,e.nm)=h
theorem yT.one {l:List Ev} {s:Int} {N M:List ByteArray} (h:yT l s N) (g:yT l s M):N=M:=
 Zj (r:=fun a b=>ltS a b=true) (fun x=>uq x) (fun _ _ _ h g=>jC h g) _ _ h.srt g.srt fun x=>(h.mem x).trans (g.mem x).symm
theorem jw.one {l:List Ev} {a:Int} {N M:List Had} (h:jw l a N) (g:jw l a M):N=M:=
 Zj k9 kF _ _ h.srt g.srt fun x=>(h.mem x).trans (g.mem x).symm
theorem yT.skip {l:List Ev} {s:Int} {N:List ByteArray} (h:yT l s N) (e:Ev) (hs:¬(e.kd=8/\e.sb=s)\/e.nm∈N):yT (l++[e]) s N:=
 ⟨h.srt,fun x=>by
  rw[h.mem x];constructor;· rintro⟨f,hf,q⟩;exact⟨f,by simp[hf],q⟩
  rintro⟨f,hf,q1,q2,q3⟩;rcases List.mem_append.1 hf with hf|hf;· exact⟨f,hf,q1,q2,q3⟩
  rw[List.mem_singleton]at hf;subst hf;rcases hs with hs|hs;· exact absurd ⟨q1,q2⟩ hs
  exact(h.mem x).1 (q3▸hs)⟩
theorem yT.ins {l:List Ev} {s:Int} {N:List ByteArray} (h:yT l s N) (e:Ev) (h1:e.kd=8) (h2:e.sb=s) (hn:e.nm∉N) {k:Nat} (hp:Ya (fun a b=>ltS a b=true) N e.nm k):yT (l++[e]) s (N.take k++[e.nm]++N.drop k):=by
 obtain⟨q1,q2⟩:=KO (r:=fun a b=>ltS a b=true) (fun _ _ _ h g=>jC h g) (fun _ _=>VP) h.srt hn hp;refine⟨q1,fun x=>?_⟩;rw[q2,h.mem x];constructor
 · rintro(⟨f,hf,q⟩|rfl)
   · exact⟨f,by simp[hf],q⟩
   exact⟨e,by simp,h1,h2,rfl⟩
 rintro⟨f,hf,q⟩;rcases List.mem_append.1 hf with hf|hf;· exact Or.inl ⟨f,hf,q⟩
 rw[List.mem_singleton]at hf;subst hf;exact Or.inr q.2.2.symm
theorem qr.skip {l:List Ev} {a:Int} {O:List Int} (h:qr l a O) (e:Ev) (hs:¬(e.kd=3/\e.ac=a)):qr (l++[e]) a O:=
 ⟨h.srt,fun x=>by
  rw[h.mem x];constructor;· rintro⟨f,hf,q⟩;exact⟨f,by simp[hf],q⟩
  rintro⟨f,hf,q1,q2,q3⟩;rcases List.mem_append.1 hf with hf|hf;· exact⟨f,hf,q1,q2,q3⟩
  rw[List.mem_singleton]at hf;subst hf;exact absurd ⟨q1,q2⟩ hs⟩
theorem qr.ins {l:List Ev} {a:Int} {O:List Int} (h:qr l a O) (e:Ev) (h1:e.kd=3) (h2:e.ac=a) (hn:e.sb∉O) {k:Nat} (hp:Ya (·<·) O e.sb k):qr (l++[e]) a (O.take k++[e.sb]++O.drop k):=by
 obtain⟨q1,q2⟩:=KO (r:=fun a b:Int=>a<b) (fun _ _ _ h g=>Int.lt_trans h g) (fun _ _=>xT) h.srt hn hp;refine⟨q1,fun x=>?_⟩;rw[q2,h.mem x];constructor
 · rintro(⟨f,hf,q⟩|rfl)
   · exact⟨f,by simp[hf],q⟩
   exact⟨e,by simp,h1,h2,rfl⟩
 rintro⟨f,hf,q⟩;rcases List.mem_append.1 hf with hf|hf;· exact Or.inl ⟨f,hf,q⟩
 rw[List.mem_singleton]at hf;subst hf;exact Or.inr q.2.2.symm
theorem UE (s:Int) (l:List Ev):∀k,k<=l.length->∃N,yT (l.take k) s N/\N.length<=k
 |0,_=>⟨[],⟨List.Pairwise.nil,fun x=>by simp⟩,Nat.le_refl _⟩
 |k+1,hk=>by
   obtain⟨N,hN,hNl⟩:=UE s l k (by omega);rw[List.take_succ_eq_append_getElem (by omega)];by_cases h1:(l[k]).kd=8/\(l[k]).sb=s
   · by_cases h2:(l[k]).nm∈N
     · exact⟨N,hN.skip _ (Or.inr h2),by omega⟩
     obtain⟨j,hj⟩:=UM (r:=fun a b=>ltS a b=true) N (l[k]).nm N.length (Nat.le_refl _) (fun j hj h=>by omega);exact⟨_,hN.ins _ h1.1 h1.2 h2 hj,by
      have:=hj.1;simp only[List.length_append,List.length_take,List.length_drop,List.length_singleton]
      omega⟩
   exact⟨N,hN.skip _ (Or.inl h1),by omega⟩
theorem YT (s:Int) (l:List Ev):∃N,yT l s N/\N.length<=l.length:=by have h:=UE s l l.length (Nat.le_refl _);rwa[List.take_of_length_le (Nat.le_refl _)]at h
noncomputable def ZJ (l:List Ev) (s:Int):List ByteArray:=Classical.choose (YT s l)
theorem Zi (l:List Ev) (s:Int):yT l s (ZJ l s):=(Classical.choose_spec (YT s l)).1
theorem X8 (l:List Ev) (s:Int):(ZJ l s).length<=l.length:=(Classical.choose_spec (YT s l)).2
theorem Nw {l:List Ev} {a:Int} {O:List Int} (hO:qr l a O):jw l a (O.flatMap fun s=>(ZJ l s).map fun n=>(s,n)):=by
 refine⟨List.pairwise_flatMap.2 ⟨fun s _=>List.pairwise_map.2 ((Zi l s).srt.imp fun h=>Or.inr ⟨rfl,h⟩),hO.srt.imp fun {s t} h x hx y hy=>?_⟩,fun h=>?_⟩
 · obtain⟨n,-,rfl⟩:=List.mem_map.1 hx
   obtain⟨m,-,rfl⟩:=List.mem_map.1 hy;exact Or.inl h
 rw[List.mem_flatMap];constructor
 · rintro⟨s,hs,hx⟩
   obtain⟨n,hn,rfl⟩:=List.mem_map.1 hx;obtain⟨e,he,q1,q2,q3⟩:=((Zi l s).mem n).1 hn;obtain⟨f,hf,p1,p2,p3⟩:=(hO.mem s).1 hs;exact⟨e,he,q1,⟨f,hf,p1,p2,p3.trans q2.symm⟩,by rw[q2,q3]⟩
 rintro⟨e,he,q1,⟨f,hf,p1,p2,p3⟩,rfl⟩;exact⟨e.sb,(hO.mem _).2 ⟨f,hf,p1,p2,p3⟩,List.mem_map.2 ⟨e.nm,((Zi l _).mem _).2 ⟨e,he,q1,rfl,rfl⟩,rfl⟩⟩
theorem ZF {b:Bk} {last:Int} {e:Ev} (hok:OkEv b last e) (m:Int) (h:0<=zW b m):0<=zW (zX b e) m:=by
 have hk1:=hok.k1;have hk2:=hok.k2;by_cases c1:e.kd=1\/e.kd=2\/14<=e.kd
 · obtain⟨q1,-⟩:=ZZ (b:=b) c1
   unfold zW at h⊢;rw[q1];exact h
 by_cases c2:e.kd=3
 · obtain⟨q1,-⟩:=Zq (b:=b) c2
   unfold zW at h⊢;rw[q1,uP _ h];exact h
 obtain⟨q1,-⟩:=uX (b:=b) (e:=e) (by omega) (by omega);unfold zW at h⊢;rw[q1,uN (fun a=>by rw[uW]) _ _];exact h
theorem JX {l:List Ev} (hr:yB l) {i:Nat} (hi:i<l.length) (h3:(l[i]).kd=3):∀k,i<k->k<=l.length->0<=zW (zZ (l.take k)) (l[i]).sb
 |0,h,_=>by omega
 |k+1,hik,hk=>by
   have hlt:k<l.length:=hk;rw[vZ l k hlt];by_cases h:i<k;· exact ZF (hr k hlt) _ (JX hr hi h3 k h (by omega))
   have:i=k:=by omega
   subst this;obtain⟨q1,-⟩:=Zq (b:=zZ (l.take i)) h3;have hadd:=(hr i hi).add h3;unfold zW at hadd⊢;rw[q1,Yo hadd];simp
theorem N8 {l:List Ev} (hr:yB l) {a:Int} {k:Nat} (hk:k<l.length) (h3:(l[k]).kd=3) {O:List Int} (hO:qr (l.take k) a O):(l[k]).sb∉O:=by intro hm;obtain⟨e,he,q1,-,q3⟩:=(hO.mem _).1 hm;obtain⟨i,hi,rfl⟩:=List.mem_take_iff_getElem.1 he;have h1:=JX hr (show i<l.length by omega) q1 k (by omega) (by omega);rw[q3]at h1;have:=(hr k hk).add h3;omega
end Go.Proofs.YtngippiilgdnoaaGreat
namespace Go.Proofs.YtngippiilgdnoaaGreat
open Go.RowKit
structure Bu where
 ac:Int
 sb:Int
 pr:ByteArray
 ix:Int
 kd:Int
 zs:List ByteArray
 f:Int
 t:Int
 un:Int
 lf:Int
 pt:Int
 sh:Bool
def zQ (a b:Bu):Bool:=decide (a.sb=b.sb)&&ye a.pr b.pr&&decide (a.ix=b.ix)&&decide (a.kd=b.kd)&&decide (a.t=b.f)
def yC (a b:Bu):Bool:=decide (a.sb=b.sb)&&ye a.pr b.pr&&decide (a.ix=b.ix)&&decide (a.f=b.f)
def zK (a b:Bu):Bool:=
 if a.ac≠b.ac then decide (a.ac<b.ac) else if a.sb≠b.sb then decide (a.sb<b.sb) else if ye a.pr b.pr=false then ltS a.pr b.pr else if a.ix≠b.ix then decide (a.ix<b.ix) else decide (a.f<b.f)
def Vl (o:Bu) (r:Int):Int:=max 0 (min o.lf r)
def addN (b:Bu) (n:Int):Bu:={ b with un:=wrap64 (b.un+n),lf:=wrap64 (b.lf+n) }
def jv (o b:Bu) (r:Int):Bu:=if zQ o b=true then addN b (Vl o r) else b
def kT {α:Type} (p:α->Bool) (l:List α):Nat:=(l.takeWhile p).length
def insT {α:Type} (p:α->Bool) (x:α) (l:List α):List α:=l.take (kT p l)++[x]++l.drop (kT p l)
theorem Ni {α:Type} (p:α->Bool) (l:List α):kT p l<=l.length:=List.Sublist.length_le (List.takeWhile_sublist _)
theorem Gc {α:Type} {p:α->Bool} {l:List α} {k:Nat} (hk:k<l.length) (h:∀j (hj:j<k),p (l[j])=true) (hn:p l[k]=false):kT p l=k:=by
 unfold kT;have e:l=l.take k++(l[k]::l.drop (k+1)):=by rw[<-List.drop_eq_getElem_cons hk,List.take_append_drop]
 have h2:(l.takeWhile p)=((l.take k++(l[k]::l.drop (k+1))).takeWhile p):=congrArg _ e;rw[h2,List.takeWhile_append_of_pos,List.takeWhile_cons_of_neg (by simp[hn]),List.append_nil,List.length_take];· omega
 intro x hx;obtain⟨j,hj,rfl⟩:=List.mem_take_iff_getElem.1 hx;exact h j (by omega)
theorem KV {α:Type} {p:α->Bool} {l:List α} (h:∀j (hj:j<l.length),p l[j]=true):kT p l=l.length:=by
 unfold kT;have h2:((l++[]).takeWhile p)=l++([]:List α).takeWhile p:=List.takeWhile_append_of_pos (by
  intro x hx;obtain⟨j,hj,rfl⟩:=List.mem_iff_getElem.1 hx;exact h j hj);rw[List.append_nil,List.takeWhile_nil,List.append_nil]at h2;rw[h2]
theorem YW {α:Type} (p:α->Bool):∀(l:List α) (j:Nat) (hj:j<l.length),j<kT p l->p l[j]=true
 | [],j,hj,_=>by cases hj
 |x::r,j,hj,h=>by
   unfold kT at h;rw[List.takeWhile_cons]at h;split at h
   · rename_i hx
     cases j with
     |zero=>exact hx
     |succ j=>exact YW p r j (by simpa using hj) (by simpa [kT]using h)
   simp at h
theorem KU {α:Type} (p:α->Bool):∀(l:List α) (h:kT p l<l.length),p l[kT p l]=false
 | [],h=>by cases h
 |x::r,h=>by
   by_cases hx:p x=true
   · have e:kT p (x::r)=kT p r+1:=by unfold kT;rw[List.takeWhile_cons,if_pos hx,List.length_cons]
     simp only[e,List.getElem_cons_succ];exact KU p r (by rw[e]at h;simpa using h)
   have e:kT p (x::r)=0:=by unfold kT;rw[List.takeWhile_cons,if_neg hx];rfl
   simp only[e,List.getElem_cons_zero];simpa using hx
theorem kZ {α:Type} (p:α->Bool) (x:α) (l:List α):(insT p x l).length=l.length+1:=by have:=Ni p l;unfold insT;simp only[List.length_append,List.length_take,List.length_drop,List.length_singleton];omega
theorem jQ {α:Type} {p:α->Bool} {x y:α} {l:List α}:y∈insT p x l↔y∈l\/y=x:=by
 unfold insT;rw[List.mem_append,List.mem_append,List.mem_singleton];have:y∈l↔y∈l.take (kT p l)\/y∈l.drop (kT p l):=by rw[<-List.mem_append,List.take_append_drop]
 rw[this];constructor
 · rintro((h|h)|h)
   · exact Or.inl (Or.inl h)
   · exact Or.inr h
   exact Or.inl (Or.inr h)
 rintro((h|h)|h);· exact Or.inl (Or.inl h)
 · exact Or.inr h
 exact Or.inl (Or.inr h)
def insB (b:Bu) (L:List Bu):List Bu:=insT (fun x=>zK x b) b L
def yi (L:List Bu) (b:Bu):Bool:=L.any fun x=>yC x b
def qw (L:List Bu) (g:Bu×Int):Bu:=match L.find? (fun x=>zQ x g.1)with
 |some o=>jv o g.1 g.2
 |none=>g.1
def zI (L:List Bu) (g:Bu×Int):List Bu:=if yi L g.1=true then L else insB (qw L g) L
def yl (G:List (Bu×Int)) (S:List Bu):List Bu:=G.foldl zI S
structure OrdB (L:List Bu):Prop where
 srt:L.Pairwise fun a b=>zK a b=true
 one:L.Pairwise fun a b=>yC a b=false
theorem jz (a:ByteArray):ye a a=true:=(zH a a).2 rfl
theorem EO {a b:ByteArray}:ye a b=false↔a≠b:=by rw[<-Bool.not_eq_true,zH]
theorem jd {a b:Bu}:yC a b=true↔a.sb=b.sb/\a.pr=b.pr/\a.ix=b.ix/\a.f=b.f:=by unfold yC;simp only[Bool.and_eq_true,decide_eq_true_eq,zH,and_assoc]
def Earl (a b:Bu):Prop:=a.ac<b.ac\/a.ac=b.ac/\(a.sb<b.sb\/a.sb=b.sb/\(ltS a.pr b.pr=true/\a.pr≠b.pr\/a.pr=b.pr/\(a.ix<b.ix\/a.ix=b.ix/\a.f<b.f)))
theorem ke {a b:Bu}:zK a b=true↔Earl a b:=by
 unfold zK Earl;by_cases h1:a.ac=b.ac
 · rw[if_neg (by simpa using h1)]
   by_cases h2:a.sb=b.sb
   · rw[if_neg (by simpa using h2)]
     by_cases h3:a.pr=b.pr
     · have h3s:¬ye a.pr b.pr=false:=by rw[(zH _ _).2 h3];decide
       rw[if_neg h3s];by_cases h4:a.ix=b.ix
       · rw[if_neg (by simpa using h4),decide_eq_true_eq]
         simp[h1,h2,h3,h4]
       rw[if_pos (by simpa using h4),decide_eq_true_eq];simp[h1,h2,h3,h4]
     rw[if_pos (EO.2 h3)];simp[h1,h2,h3]
   rw[if_pos (by simpa using h2),decide_eq_true_eq];simp[h1,h2]
 rw[if_pos (by simpa using h1),decide_eq_true_eq];simp[h1]
theorem Earl.irr (a:Bu):¬Earl a a:=by
 unfold Earl;rintro(h|⟨-,h|⟨-,⟨-,h⟩|⟨-,h|⟨-,h⟩⟩⟩⟩);iterate 2
  · omega
 · exact h rfl
 iterate 2
  · omega
theorem Earl.trans (a b c:Bu) (h:Earl a b) (g:Earl b c):Earl a c:=by
 unfold Earl at *;rcases h with h|⟨e1,h⟩
 · rcases g with g|⟨e2,-⟩
   iterate 2
    · exact Or.inl (by omega)
 rcases g with g|⟨e2,g⟩;· exact Or.inl (by omega)
 refine Or.inr ⟨e1.trans e2,?_⟩;rcases h with h|⟨f1,h⟩
 · rcases g with g|⟨f2,-⟩
   iterate 2
    · exact Or.inl (by omega)
 rcases g with g|⟨f2,g⟩;· exact Or.inl (by omega)
 refine Or.inr ⟨f1.trans f2,?_⟩;rcases h with⟨h,h'⟩|⟨g1,h⟩
 · rcases g with⟨g,g'⟩|⟨g2,-⟩
   · exact Or.inl ⟨jC h g,fun e=>uq b.pr (jC (e▸g:ltS b.pr a.pr=true) h)⟩
   exact Or.inl ⟨g2▸h,g2▸h'⟩
 rcases g with⟨g,g'⟩|⟨g2,g⟩;· exact Or.inl ⟨by rw[g1];exact g,by rw[g1];exact g'⟩
 refine Or.inr ⟨g1.trans g2,?_⟩;rcases h with h|⟨i1,h⟩<;>rcases g with g|⟨i2,g⟩;iterate 3
  · exact Or.inl (by omega)
 · exact Or.inr ⟨by omega,by omega⟩
theorem Earl.tot {a b:Bu} (hne:yC a b=false) (h:¬Earl a b):Earl b a:=by
 unfold Earl at *;by_cases h1:b.ac<a.ac;· exact Or.inl h1
 by_cases e1:a.ac=b.ac
 · refine Or.inr ⟨e1.symm,?_⟩
   by_cases h2:b.sb<a.sb;· exact Or.inl h2
   by_cases e2:a.sb=b.sb
   · refine Or.inr ⟨e2.symm,?_⟩
     by_cases e3:a.pr=b.pr
     · refine Or.inr ⟨e3.symm,?_⟩
       by_cases h4:b.ix<a.ix;· exact Or.inl h4
       by_cases e4:a.ix=b.ix
       · refine Or.inr ⟨e4.symm,?_⟩
         by_cases h5:b.f<a.f;· exact h5
         by_cases e5:a.f=b.f;· rw[jd.2 ⟨e2,e3,e4,e5⟩]at hne;cases hne
         exact absurd (Or.inr ⟨e1,Or.inr ⟨e2,Or.inr ⟨e3,Or.inr ⟨e4,by omega⟩⟩⟩⟩) h
       exact absurd (Or.inr ⟨e1,Or.inr ⟨e2,Or.inr ⟨e3,Or.inl (by omega)⟩⟩⟩) h
     refine Or.inl ⟨VP (fun hl=>h (Or.inr ⟨e1,Or.inr ⟨e2,Or.inl ⟨hl,e3⟩⟩⟩)) e3,fun e=>e3 e.symm⟩
   exact absurd (Or.inr ⟨e1,Or.inl (by omega)⟩) h
 exact absurd (Or.inl (by omega)) h
theorem Vj (a b:Bu):yC a b=yC b a:=by
 cases h:yC a b<;>cases g:yC b a<;>first|rfl|skip
 · obtain⟨h1,h2,h3,h4⟩:=jd.1 g
   rw[jd.2 ⟨h1.symm,h2.symm,h3.symm,h4.symm⟩]at h;cases h
 obtain⟨h1,h2,h3,h4⟩:=jd.1 h;rw[jd.2 ⟨h1.symm,h2.symm,h3.symm,h4.symm⟩]at g;cases g
structure qJ (a b:Bu):Prop where
 ac:a.ac=b.ac
 sb:a.sb=b.sb
 pr:a.pr=b.pr
 ix:a.ix=b.ix
 kd:a.kd=b.kd
 zs:a.zs=b.zs
 f:a.f=b.f
 t:a.t=b.t
 pt:a.pt=b.pt
 sh:a.sh=b.sh
theorem qJ.refl (a:Bu):qJ a a:=⟨rfl,rfl,rfl,rfl,rfl,rfl,rfl,rfl,rfl,rfl⟩
theorem Ue (o b:Bu) (r:Int):qJ (jv o b r) b:=by unfold jv addN;split<;>exact⟨rfl,rfl,rfl,rfl,rfl,rfl,rfl,rfl,rfl,rfl⟩
theorem qv (L:List Bu) (g:Bu×Int):qJ (qw L g) g.1:=by
 unfold qw;split;· exact Ue _ _ _
 exact qJ.refl _
theorem qJ.id1 {a b:Bu} (h:qJ a b) (c:Bu):yC a c=yC b c:=by unfold yC;rw[h.sb,h.pr,h.ix,h.f]
theorem qJ.id2 {a b:Bu} (h:qJ a b) (c:Bu):yC c a=yC c b:=by unfold yC;rw[h.sb,h.pr,h.ix,h.f]
theorem qJ.prec1 {a b:Bu} (h:qJ a b) (c:Bu):zQ a c=zQ b c:=by unfold zQ;rw[h.sb,h.pr,h.ix,h.kd,h.t]
theorem OrdB.earl {L:List Bu} (h:OrdB L):L.Pairwise Earl:=h.srt.imp fun h=>ke.1 h
theorem Nl {b:Bu} {L:List Bu} (h:OrdB L) (hn:yi L b=false):OrdB (insB b L):=by
 have hno:∀x∈L,yC x b=false:=fun x hx=>by
  have:=List.any_eq_false.1 hn x hx;simpa using this
 have hE:=h.earl;have hcut:=List.take_append_drop (kT (fun x=>zK x b) L) L;have hsp:=hE;rw[<-hcut]at hsp;have hsp:=List.pairwise_append.1 hsp;have hsq:=h.one;rw[<-hcut]at hsq;have hsq:=List.pairwise_append.1 hsq;have hkl:=Ni (fun x=>zK x b) L;have hbef:∀y∈L.take (kT (fun x=>zK x b) L),Earl y b:=fun y hy=>by
  obtain⟨j,hj,rfl⟩:=List.mem_take_iff_getElem.1 hy;exact ke.1 (YW (fun x=>zK x b) L j (by omega) (by omega))
 have haft:∀y∈L.drop (kT (fun x=>zK x b) L),Earl b y:=fun y hy=>by
  obtain⟨j,hj,rfl⟩:=List.mem_iff_getElem.1 hy;rw[List.length_drop]at hj;have h0:=KU (fun x=>zK x b) L (by omega);have h1:Earl b L[kT (fun x=>zK x b) L]:=Earl.tot (hno _ (List.getElem_mem _)) (fun he=>by rw[ke.2 he]at h0;cases h0);rw[List.getElem_drop];rcases Nat.eq_zero_or_pos j with rfl|hp;· exact h1
  exact Earl.trans _ _ _ h1 (List.pairwise_iff_getElem.1 hE _ _ (by omega) (by omega) (by omega))
 refine⟨?_,?_⟩
 · have:(insB b L).Pairwise Earl:=List.pairwise_append.2 ⟨List.pairwise_append.2 ⟨hsp.1,List.pairwise_singleton _ _,fun a ha1 c hc1=>?_⟩,hsp.2.1,fun a ha1 c hc1=>?_⟩
   · exact this.imp fun h=>ke.2 h
   · rw[List.mem_singleton]at hc1
     subst hc1;exact hbef a ha1
   rcases List.mem_append.1 ha1 with h|h;· exact hsp.2.2 a h c hc1
   rw[List.mem_singleton]at h;subst h;exact haft c hc1
 refine List.pairwise_append.2 ⟨List.pairwise_append.2 ⟨hsq.1,List.pairwise_singleton _ _,fun a ha1 c hc1=>?_⟩,hsq.2.1,fun a ha1 c hc1=>?_⟩
 · rw[List.mem_singleton]at hc1
   subst hc1;exact hno a (List.mem_of_mem_take ha1)
 rcases List.mem_append.1 ha1 with h|h;· exact hsq.2.2 a h c hc1
 rw[List.mem_singleton]at h;subst h;rw[Vj];exact hno c (List.mem_of_mem_drop hc1)
theorem uR {b x:Bu} {L:List Bu}:x∈insB b L↔x∈L\/x=b:=jQ
theorem JK {a b:Bu} (h:qJ a b) (L:List Bu):yi L a=yi L b:=by
 unfold yi
 congr 1
 funext x
 exact h.id2 x
theorem kG {L:List Bu} {b:Bu}:yi L b=true↔∃x∈L,yC x b=true:=by unfold yi;rw[List.any_eq_true]
theorem jl {L:List Bu} {b c:Bu}:yi (insB b L) c=(yi L c||yC b c):=by
 rw[Bool.eq_iff_iff,Bool.or_eq_true,kG,kG];constructor
 · rintro⟨x,hx,h⟩
   rcases uR.1 hx with hx|rfl;· exact Or.inl ⟨x,hx,h⟩
   exact Or.inr h
 rintro(⟨x,hx,h⟩|h);· exact⟨x,uR.2 (Or.inl hx),h⟩
 exact⟨b,uR.2 (Or.inr rfl),h⟩
theorem qu {L:List Bu} (h:OrdB L) (g:Bu×Int):OrdB (zI L g):=by
 unfold zI;split;· exact h
 rename_i hn;exact Nl h (by rw[JK (qv L g)];simpa using hn)
theorem Kh:∀(G:List (Bu×Int)) {L:List Bu},OrdB L->OrdB (yl G L)
 | [],_,h=>h
 |g::G,_,h=>Kh G (qu h g)
theorem K8 {L:List Bu} {g:Bu×Int} {x:Bu} (h:x∈L):x∈zI L g:=by
 unfold zI;split;· exact h
 exact uR.2 (Or.inl h)
theorem QG:∀(G:List (Bu×Int)) {L:List Bu} {x:Bu},x∈L->x∈yl G L
 | [],_,_,h=>h
 |_::G,_,_,h=>QG G (K8 h)
theorem K3 {L M:List Bu} (h:∀x∈L,x∈M) {b:Bu} (hb:yi L b=true):yi M b=true:=by obtain⟨x,hx,h1⟩:=kG.1 hb;exact kG.2 ⟨x,h x hx,h1⟩
theorem jO (a:Bu):yC a a=true:=jd.2 ⟨rfl,rfl,rfl,rfl⟩
theorem Xr (L:List Bu) (g:Bu×Int):yi (zI L g) g.1=true:=by
 unfold zI;split;· assumption
 rw[jl,(qv L g).id1,jO,Bool.or_true]
theorem Y0:∀(G:List (Bu×Int)) {L:List Bu} {g:Bu×Int},g∈G->yi (yl G L) g.1=true
 |g::G,L,x,h=>by
   rcases List.mem_cons.1 h with e|h;· rw[e];exact K3 (fun y hy=>QG G hy) (Xr L g)
   exact Y0 G h
theorem ZW:∀(G:List (Bu×Int)) {L:List Bu},(∀g∈G,yi L g.1=true)->yl G L=L
 | [],_,_=>rfl
 |g::G,L,h=>by
   show yl G (zI L g)=L;have e:zI L g=L:=by unfold zI;rw[if_pos (h g List.mem_cons_self)]
   rw[e];exact ZW G fun x hx=>h x (List.mem_cons_of_mem _ hx)
theorem K0 (G H:List (Bu×Int)) (L:List Bu):yl (G++H) L=yl H (yl G L):=List.foldl_append
theorem ND {p:Bu->Bool} {b:Bu} {L:List Bu} (h:p b=false):(insB b L).find? p=L.find? p:=by unfold insB insT;rw[List.append_assoc,List.find?_append,List.singleton_append,List.find?_cons_of_neg (by simpa using h),<-List.find?_append,List.take_append_drop]
theorem Et {b:Bu} {L:List Bu} {g:Bu×Int} (h:zQ b g.1=false):qw (insB b L) g=qw L g:=by unfold qw;rw[ND (p:=fun x=>zQ x g.1) h]
theorem YB {L:List Bu} {g h:Bu×Int} (hp:zQ g.1 h.1=false):qw (zI L g) h=qw L h:=by
 unfold zI;split;· rfl
 exact Et (by rw[(qv L g).prec1];exact hp)
theorem Nb {L M:List Bu} (h:OrdB L) (g:OrdB M) (hm:∀x,x∈L↔x∈M):L=M:=Zj Earl.irr Earl.trans L M h.earl g.earl hm
theorem kI {L:List Bu} {g:Bu×Int} {x:Bu}:x∈zI L g↔x∈L\/(yi L g.1=false/\x=qw L g):=by
 unfold zI;split;· rename_i hq;rw[hq];simp
 rename_i hq;rw[uR];simp[hq]
theorem K9 {L:List Bu} (hL:OrdB L) {g h:Bu×Int} (hi:yC g.1 h.1=false) (h1:zQ g.1 h.1=false) (h2:zQ h.1 g.1=false):zI (zI L g) h=zI (zI L h) g:=by
 have q1:qw (zI L g) h=qw L h:=YB h1;have q2:qw (zI L h) g=qw L g:=YB h2;have ex:∀{a b:Bu×Int},yC a.1 b.1=false->yi (zI L a) b.1=yi L b.1:=fun {a b} hi=>by
  unfold zI;split;· rfl
  rw[jl,(qv L a).id1,hi,Bool.or_false]
 have e1:=ex hi;have e2:=ex (by rw[Vj];exact hi:yC h.1 g.1=false);refine Nb (qu (qu hL g) h) (qu (qu hL h) g) fun x=>?_;rw[kI,kI,kI,kI,e1,e2,q1,q2,or_right_comm]
structure Jg (G:List (Bu×Int)):Prop where
 one:G.Pairwise fun a b=>yC a.1 b.1=false
 fwd:G.Pairwise fun a b=>zQ b.1 a.1=false
theorem Vz {h:Bu×Int}:∀(A:List (Bu×Int)) {L:List Bu},OrdB L->(∀a∈A,yC h.1 a.1=false/\zQ h.1 a.1=false/\zQ a.1 h.1=false)->yl A (zI L h)=zI (yl A L) h
 | [],_,_,_=>rfl
 |a::A,L,hL,hA=>by
   obtain⟨q1,q2,q3⟩:=hA a List.mem_cons_self;show yl A (zI (zI L h) a)=zI (yl A (zI L a)) h;rw[K9 hL q1 q2 q3];exact Vz A (qu hL a) fun x hx=>hA x (List.mem_cons_of_mem _ hx)
theorem ZV (P:Bu×Int->Bool):∀(G:List (Bu×Int)) {L:List Bu},OrdB L->Jg G->(∀a∈G,∀b∈G,zQ a.1 b.1=true->P b=true->P a=true)->yl (G.filter fun g=>!P g) (yl (G.filter P) L)=yl G L
 | [],_,_,_,_=>rfl
 |g::G,L,hL,hG,hP=>by
   have g1:=List.pairwise_cons.1 hG.one;have g2:=List.pairwise_cons.1 hG.fwd;have ih:=fun {M:List Bu} (hM:OrdB M)=>ZV P G hM ⟨g1.2,g2.2⟩ fun a ha b hb=>hP a (List.mem_cons_of_mem _ ha) b (List.mem_cons_of_mem _ hb);by_cases hp:P g=true
   · rw[List.filter_cons_of_pos hp,List.filter_cons_of_neg (by simp[hp])]
     exact ih (qu hL g)
   rw[List.filter_cons_of_neg hp,List.filter_cons_of_pos (by simp[hp])];show yl (G.filter fun g=>!P g) (zI (yl (G.filter P) L) g)=yl G (zI L g);rw[<-ih (qu hL g),<-Vz _ hL];intro a ha;obtain⟨ha,hpa⟩:=List.mem_filter.1 ha;refine⟨g1.1 a ha,?_,g2.1 a ha⟩;rw[<-Bool.not_eq_true];intro hpr;exact hp (hP g List.mem_cons_self a (List.mem_cons_of_mem _ ha) hpr hpa)
theorem Eg {P:Bu×Int->Bool} {G:List (Bu×Int)} {L:List Bu} (hL:OrdB L) (hG:Jg G) (hP:∀a∈G,∀b∈G,zQ a.1 b.1=true->P b=true->P a=true):yl G (yl (G.filter P) L)=yl G L:=by have hM:=Kh (G.filter P) hL;rw[<-ZV P G hM hG hP,ZW (G.filter P) (fun g hg=>Y0 _ hg)];exact ZV P G hL hG hP
end Go.Proofs.YtngippiilgdnoaaGreat
