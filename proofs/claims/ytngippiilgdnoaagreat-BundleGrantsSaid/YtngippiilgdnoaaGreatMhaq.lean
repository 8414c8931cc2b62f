/-
  The reference's spells of a subscription, plainly: they are what spells are.
-/
import Derived.Test.YtngippiilgdnoaaGreatMhap
import Derived.Test.YtngippiilgdnoaaGreatMhak
set_option maxRecDepth 100000
set_option maxHeartbeats 25600000
namespace Go.Proofs.YtngippiilgdnoaaGreat
def ZL:Sb:=⟨0,0,0,⟨#[]⟩,[],[],false,false⟩
def yN (s:Sb) (e:Ev):Sb:=
 if e.kd=3 then ⟨e.sb,e.ac,e.tm,e.nm,[],[],false,false⟩
 else if e.kd=4 then ZL
 else if e.kd=7 then { s with plan:=e.nm }
 else if e.kd=8 then { s with prs:=vq s.prs e.nm }
 else if e.kd=9 then { s with prs:=yj s.prs e.nm }
 else if e.kd=10\/e.kd=11 then { s with su:=decide (e.kd=10) }
 else if e.kd=12\/e.kd=13 then { s with fa:=decide (e.kd=12) }
 else s
def ug (n:Int) (l:List Ev):Sb:=l.foldl (fun s e=>if e.sb=n then yN s e else s) ZL
theorem Qj (n:Int) (l:List Ev) (e:Ev):ug n (l++[e])=if e.sb=n then yN (ug n l) e else ug n l:=by unfold ug;rw[List.foldl_append];rfl
theorem Qi (n:Int) (l:List Ev) (k:Nat) (h:k<l.length):ug n (l.take (k+1))=if (l[k]).sb=n then yN (ug n (l.take k)) l[k] else ug n (l.take k):=by rw[List.take_succ_eq_append_getElem h,Qj]
def refS (b:Bk) (n:Int):Option Sb:=if zT b n<0\/vk b n=true then none else b.subs[(zT b n).toNat]?
def XR (s:Sb):Sb:={ s with nus:=[] }
def toS:Option Sb->Sb
 |none=>ZL
 |some s=>XR s
theorem uR {α:Type} {p:α->Bool} {l:List α} (h:0<=ixOf p l):(ixOf p l).toNat<l.length/\∀g:(ixOf p l).toNat<l.length,p (l[(ixOf p l).toNat])=true:=by obtain⟨k,hk,e,h1,-⟩:=ZZ h;rw[e];exact⟨hk,fun _=>h1⟩
theorem Kh {α:Type} {p:α->Bool} {l:List α} {x:α} (h:ixOf p l<0):ixOf p (l++[x])=if p x=true then (l.length:Int) else -1:=by
 have h1:=NH h;split
 · rename_i hp
   refine Z5 (k:=l.length) (by simp) ?_ (by simpa using hp);rw[List.take_append_of_le_length (Nat.le_refl _),List.take_of_length_le (Nat.le_refl _)];exact h1
 rename_i hp;refine Qd (k:=(l++[x]).length) (Nat.le_refl _) ?_;rw[List.take_of_length_le (Nat.le_refl _),List.any_append,h1];simpa using hp
theorem uE (s:Sb) (e:Ev):(yg s e).id=s.id:=by
 unfold yg
 repeat' split
 all_goals rfl
def Nf (b:Bk):Prop:=∀m,vk b m=true->0<=zT b m
theorem ZF {b:Bk} {e:Ev} (h1:e.kd=1\/e.kd=2\/14<=e.kd):(zM b e).subs=b.subs/\(zM b e).ended=b.ended:=by
 unfold zM;rcases h1 with h|h|h;· rw[if_pos h];exact⟨rfl,rfl⟩
 · rw[if_neg (by omega),if_pos h];exact⟨rfl,rfl⟩
 rw[if_neg (by omega),if_neg (by omega),if_neg (by omega),if_pos h];exact⟨rfl,rfl⟩
theorem YG {b:Bk} {e:Ev} (h:e.kd=3):(zM b e).subs=b.subs++[⟨e.sb,e.ac,e.tm,e.nm,[],[],false,false⟩]/\(zM b e).ended=b.ended:=by unfold zM;rw[if_neg (by omega),if_neg (by omega),if_pos h];exact⟨rfl,rfl⟩
theorem uG {b:Bk} {e:Ev} (h1:4<=e.kd) (h2:e.kd<=13):(zM b e).subs=b.subs.modify (zT b e.sb).toNat (fun s=>yg s e)/\(zM b e).ended=if e.kd=4 then b.ended++[e.sb] else b.ended:=by unfold zM;rw[if_neg (by omega),if_neg (by omega),if_neg (by omega),if_neg (by omega)];exact⟨rfl,rfl⟩
theorem VX {b b':Bk} (h1:b'.subs=b.subs) (h2:b'.ended=b.ended) (n:Int):refS b' n=refS b n/\zT b' n=zT b n/\vk b' n=vk b n:=by unfold refS zT vk;rw[h1,h2];exact⟨rfl,rfl,rfl⟩
theorem QW (s:Sb) (e:Ev) (h1:5<=e.kd) (h2:e.kd<=13):XR (yg s e)=yN (XR s) e:=by
 unfold yg yN XR;have h:e.kd=5\/e.kd=6\/e.kd=7\/e.kd=8\/e.kd=9\/e.kd=10\/e.kd=11\/e.kd=12\/e.kd=13:=by omega
 rcases h with h|h|h|h|h|h|h|h|h<;>simp[h]
theorem V5 {e:Ev} (s:Sb) (h:e.kd=1\/e.kd=2\/14<=e.kd):yN s e=s:=by unfold yN;rw[if_neg (by omega),if_neg (by omega),if_neg (by omega),if_neg (by omega),if_neg (by omega),if_neg (by omega),if_neg (by omega)]
theorem NP {b:Bk} {last:Int} {e:Ev} (hok:OkEv b last e) (h:e.sb=0) (s:Sb):yN s e=s:=by
 have hk1:=hok.k1;have hk2:=hok.k2;refine V5 s ?_;cases hu:qv e.kd with
 |true=>have:=hok.s1 hu;omega
 |false=>unfold qv at hu;simp at hu;omega
theorem GY {b:Bk} {last:Int} {e:Ev} (hok:OkEv b last e) (hE:Nf b) (n:Int):
 Nf (zM b e)/\toS (refS (zM b e) n)=(if e.sb=n then yN (toS (refS b n)) e else toS (refS b n)):=by
 have hk1:=hok.k1;have hk2:=hok.k2;by_cases c1:e.kd=1\/e.kd=2\/14<=e.kd
 · obtain⟨q1,q2⟩:=ZF (b:=b) c1
   have hs:e.sb=0:=by
    refine hok.s0 ?_;have:e.kd=1\/e.kd=2\/e.kd=14\/e.kd=15:=by omega
    unfold qv;rcases this with h|h|h|h<;>simp[h]
   refine⟨fun m hm=>?_,?_⟩
   · obtain⟨-,g2,g3⟩:=VX q1 q2 m
     rw[g2];rw[g3]at hm;exact hE m hm
   rw[(VX q1 q2 n).1];split;· exact(V5 _ c1).symm
   rfl
 by_cases c2:e.kd=3
 · obtain⟨q1,q2⟩:=YG (b:=b) c2
   have hadd:=hok.add c2;have hend:∀m,vk (zM b e) m=vk b m:=fun m=>by unfold vk;rw[q2]
   have hix:∀m,0<=zT b m->zT (zM b e) m=zT b m:=fun m h=>by unfold zT at h⊢;rw[q1];exact ux _ h
   have hix2:∀m,zT b m<0->zT (zM b e) m=if decide (e.sb=m)=true then (b.subs.length:Int) else -1:=fun m h=>by
    unfold zT at h⊢;rw[q1];exact Kh h
   refine⟨fun m hm=>?_,?_⟩
   · rw[hend]at hm
     rw[hix m (hE m hm)];exact hE m hm
   by_cases hen:e.sb=n
   · subst hen
     rw[if_pos rfl];have h0:vk b e.sb=false:=by
      cases hq:vk b e.sb with
      |false=>rfl
      |true=>have:=hE _ hq;omega
     have e1:zT (zM b e) e.sb=(b.subs.length:Int):=by rw[hix2 _ hadd,if_pos (by simp)]
     unfold refS;rw[if_neg (by rw[e1,hend,h0];simp),if_pos (Or.inl hadd),e1,q1,Int.toNat_natCast,List.getElem?_concat_length];unfold yN;rw[if_pos c2];rfl
   rw[if_neg hen];by_cases hb:zT b n<0
   · unfold refS
     rw[if_pos (Or.inl hb),if_pos (Or.inl (by rw[hix2 n hb,if_neg (by simpa using hen)];decide))]
   have hb':0<=zT b n:=by omega
   have hlt:(zT b n).toNat<b.subs.length:=(uR (p:=fun s:Sb=>decide (s.id=n)) (l:=b.subs) hb').1;unfold refS;rw[hix n hb',hend,q1];split;· rfl
   rw[List.getElem?_append_left hlt]
 have d1:4<=e.kd:=by omega
 have d2:e.kd<=13:=by omega
 obtain⟨q1,q2⟩:=uG (b:=b) d1 d2;have hua:vB e.kd=false:=by
  unfold vB;have:e.kd≠1/\e.kd≠2/\e.kd≠3/\e.kd≠14/\e.kd≠15:=by omega
  simp[this]
 obtain⟨hs1,hs2⟩:=hok.sub hua;have hix:∀m,zT (zM b e) m=zT b m:=fun m=>by
  unfold zT;rw[q1];exact uw (fun a=>by rw[uE]) _ _
 have hend:∀m,vk (zM b e) m=(vk b m||(decide (e.kd=4)&&decide (e.sb=m))):=fun m=>by
  unfold vk;rw[q2];split;· rename_i h;rw[List.any_append];simp[h]
  rename_i h;simp[h]
 refine⟨fun m hm=>?_,?_⟩
 · rw[hix]
   rw[hend,Bool.or_eq_true,Bool.and_eq_true,decide_eq_true_eq,decide_eq_true_eq]at hm;rcases hm with hm|⟨-,hm⟩;· exact hE m hm
   rw[<-hm];exact hs1
 by_cases hen:e.sb=n
 · subst hen
   rw[if_pos rfl];have hlt:(zT b e.sb).toNat<b.subs.length:=(uR (p:=fun s:Sb=>decide (s.id=e.sb)) (l:=b.subs) hs1).1;have e5:b.subs[(zT b e.sb).toNat]?=some b.subs[(zT b e.sb).toNat]:=List.getElem?_eq_getElem hlt;have e1:refS b e.sb=b.subs[(zT b e.sb).toNat]?:=by unfold refS;rw[if_neg (by rw[hs2];simp;omega)]
   rw[e1,e5];by_cases c4:e.kd=4
   · unfold refS
     rw[if_pos (Or.inr (by rw[hend,c4];simp))];unfold yN;rw[if_neg (by omega),if_pos c4];rfl
   unfold refS;rw[if_neg (by rw[hix,hend,hs2];simp[c4];omega),hix,q1,List.getElem?_modify,e5];simp only[if_true,Option.map_eq_map,Option.map_some];exact QW _ e (by omega) d2
 rw[if_neg hen];unfold refS;rw[hix,hend,q1];by_cases hb:zT b n<0;· rw[if_pos (Or.inl hb),if_pos (Or.inl hb)]
 have hb':0<=zT b n:=by omega
 have hne:(zT b e.sb).toNat≠(zT b n).toNat:=fun h=>by
  have g1:=uR (p:=fun s:Sb=>decide (s.id=e.sb)) (l:=b.subs) hs1;have g2:=uR (p:=fun s:Sb=>decide (s.id=n)) (l:=b.subs) hb';have p1:=g1.2 g1.1;have p2:=g2.2 g2.1;have hh:ixOf (fun s:Sb=>decide (s.id=e.sb)) b.subs=ixOf (fun s:Sb=>decide (s.id=n)) b.subs:=by unfold zT at h hb' hs1;omega
  simp only[hh]at p1;rw[decide_eq_true_eq]at p1 p2;exact hen (p1.symm.trans p2)
 have e4:decide (e.sb=n)=false:=decide_eq_false hen;rw[e4,Bool.and_false,Bool.or_false,List.getElem?_modify];simp only[hne,if_false];cases b.subs[(zT b n).toNat]?<;>rfl
theorem X7 {l:List Ev} (hr:yp l) (n:Int):∀k,k<=l.length->Nf (zQ (l.take k))/\toS (refS (zQ (l.take k)) n)=ug n (l.take k)
 |0,_=>by
   rw[List.take_zero];refine⟨fun m hm=>(by cases hm),?_⟩;unfold refS;rw[if_pos (Or.inl (show zT (zQ []) n<0 by unfold zT zQ ixOf;simp))];rfl
 |k+1,hk=>by
   obtain⟨h1,h2⟩:=X7 hr n k (by omega);obtain⟨g1,g2⟩:=GY (hr k (by omega)) h1 n;rw[vM l k (by omega),Qi n l k (by omega)];refine⟨g1,?_⟩;rw[g2,h2]
theorem Nw {b:Bk} {n:Int} {q:Sb} (h:refS b n=some q):q.id=n:=by
 unfold refS at h;split at h;· cases h
 rename_i hc;have hb:0<=zT b n:=by have:¬zT b n<0:=fun h=>hc (Or.inl h);omega
 have hlt:=uR (p:=fun s:Sb=>decide (s.id=n)) (l:=b.subs) hb;rw[show b.subs[(zT b n).toNat]?=some (b.subs[(zT b n).toNat]'hlt.1)from List.getElem?_eq_getElem hlt.1]at h;have:=hlt.2 hlt.1;rw[decide_eq_true_eq]at this;cases h;exact this
theorem qh {l:List Ev} (hr:yp l):∀i j (hi:i<l.length) (hj:j<l.length),i<=j->(l[i]).tm<=(l[j]).tm:=by
 intro i j hi hj hij;induction j with
 | zero => obtain rfl : i = 0 := by omega
           exact Int.le_refl _
 |succ j ih=>
   by_cases h:i=j+1;· subst h;exact Int.le_refl _
   have h1:=ih (by omega) (by omega);have h2:=(hr (j+1) hj).t2;have e1:jr l (j+1)=(l[j]'(by omega)).tm:=by show(l.getD j default).tm=_;simp[List.getD,show j<l.length by omega]
   rw[e1]at h2;omega
def yG (l:List Ev) (t:Int):List Ev:=l.filter fun e=>decide (e.tm<=t)
theorem ZP:∀(l:List Ev),(∀i j (hi:i<l.length) (hj:j<l.length),i<=j->(l[i]).tm<=(l[j]).tm)->∀t,yG l t=l.take (yG l t).length
 | [],_,_=>rfl
 |e::r,h,t=>by
   have ih:=ZP r (fun i j hi hj hij=>h (i+1) (j+1) (by simpa using hi) (by simpa using hj) (by omega)) t;unfold yG at ih⊢;by_cases he:e.tm<=t;· rw[List.filter_cons_of_pos (by simpa using he),List.length_cons,List.take_succ_cons,<-ih]
   have:r.filter (fun e=>decide (e.tm<=t))=[]:=by rw[List.filter_eq_nil_iff];intro x hx;obtain⟨j,hj,rfl⟩:=List.mem_iff_getElem.1 hx;have:=h 0 (j+1) (by simp) (by simpa using hj) (by omega);simp only[List.getElem_cons_zero,List.getElem_cons_succ]at this;simp;omega
   rw[List.filter_cons_of_neg (by simpa using he),this];rfl
theorem uM {l:List Ev} (hr:yp l) (t:Int):yG l t=l.take (yG l t).length/\(yG l t).length<=l.length:=
 ⟨ZP l (qh hr) t,List.length_filter_le _ _⟩
def stAt (n:Int) (l:List Ev) (t:Int):Sb:=ug n (yG l t)
theorem WN {l:List Ev} (hr:yp l) (n:Int) (t:Int):stAt n l t=toS (refS (zQ (yG l t)) n):=by obtain⟨h1,h2⟩:=uM hr t;unfold stAt;rw[h1];exact((X7 hr n _ h2).2).symm
theorem Yp {n:Int} {l:List Ev} (h:∀i j (hi:i<l.length) (hj:j<l.length),i<=j->(l[i]).tm<=(l[j]).tm) (k:Nat) (hk:k<l.length) (t:Int):
 stAt n (l.take (k+1)) t=if (l[k]).sb=n/\(l[k]).tm<=t then yN (ug n (l.take k)) l[k] else stAt n (l.take k) t:=by
 unfold stAt yG;rw[List.take_succ_eq_append_getElem hk,List.filter_append];by_cases ht:(l[k]).tm<=t
 · have e1:([l[k]].filter fun e=>decide (e.tm<=t))=[l[k]]:=by simp[ht]
   have e2:((l.take k).filter fun e=>decide (e.tm<=t))=l.take k:=by
    rw[List.filter_eq_self];intro x hx;obtain⟨j,hj,rfl⟩:=List.mem_take_iff_getElem.1 hx;have:=h j k (by omega) hk (by omega)
    simp;omega
   rw[e1,e2,Qj];by_cases hs:(l[k]).sb=n;· rw[if_pos hs,if_pos ⟨hs,ht⟩]
   rw[if_neg hs,if_neg (fun h=>hs h.1)]
 have e1:([l[k]].filter fun e=>decide (e.tm<=t))=[]:=by simp;omega
 rw[e1,List.append_nil,if_neg (fun h=>ht h.2)]
def valF (M:List (Int×Sb)) (x:Int):Sb:=M.foldl (fun v p=>if p.1<=x then p.2 else v) ZL
theorem vV (M:List (Int×Sb)) (p:Int×Sb) (x:Int):valF (M++[p]) x=if p.1<=x then p.2 else valF M x:=by unfold valF;rw[List.foldl_append];rfl
def putM (M:List (Int×Sb)) (t:Int) (s:Sb):List (Int×Sb):=match M.getLast? with
 |some q=>if q.1=t then M.dropLast++[(t,s)] else M++[(t,s)]
 |none=>[(t,s)]
theorem G0 (t:Int) (s:Sb):putM [] t s=[(t,s)]:=rfl
theorem X9 (M:List (Int×Sb)) (q s:Sb) (t:Int):putM (M++[(t,q)]) t s=M++[(t,s)]:=by unfold putM;simp
theorem X8 (M:List (Int×Sb)) (q:Int×Sb) (t:Int) (s:Sb) (h:q.1≠t):putM (M++[q]) t s=M++[q]++[(t,s)]:=by unfold putM;simp[h]
def kV (n:Int) (st:List (Int×Sb)×Sb) (e:Ev):List (Int×Sb)×Sb:=if n=0\/e.sb≠n then st else (putM st.1 e.tm (yN st.2 e),yN st.2 e)
def momF (n:Int) (l:List Ev):List (Int×Sb)×Sb:=l.foldl (kV n) ([],ZL)
theorem kC (n:Int) (l:List Ev) (k:Nat) (h:k<l.length):momF n (l.take (k+1))=kV n (momF n (l.take k)) l[k]:=by unfold momF;rw[List.take_succ_eq_append_getElem h,List.foldl_append];rfl
theorem kU {n:Int} {st:List (Int×Sb)×Sb} {e:Ev} (h:n=0\/e.sb≠n):kV n st e=st:=if_pos h
theorem Y6 {n:Int} {st:List (Int×Sb)×Sb} {e:Ev} (h1:n≠0) (h2:e.sb=n):kV n st e=(putM st.1 e.tm (yN st.2 e),yN st.2 e):=if_neg (by simp[h1,h2])
theorem G1 (M:List (Int×Sb)) (t:Int) (s:Sb):(putM M t s).length<=M.length+1:=by
 unfold putM;split
 · split
   iterate 2
    · simp
 simp
theorem V6 (n:Int) (l:List Ev) (k:Nat) (hk:k<=l.length):(momF n (l.take k)).1.length<=k:=by
 induction k with
 |zero=>simp[momF]
 |succ k ih=>
   rw[kC n l k (by omega)];unfold kV;split;· have:=ih (by omega);omega
   have:=ih (by omega);have:=G1 (momF n (l.take k)).1 (l[k]'(by omega)).tm (yN (momF n (l.take k)).2 (l[k]'(by omega)));dsimp only;omega
def AscM (M:List (Int×Sb)):Prop:=M.Pairwise (fun a b=>a.1<b.1)
theorem kH (M:List (Int×Sb)) (p:Int×Sb):AscM (M++[p])↔AscM M/\∀q∈M,q.1<p.1:=by unfold AscM;rw[List.pairwise_append];simp
theorem G2 (M:List (Int×Sb)) (t:Int) (s:Sb) (hM:AscM M) (hq:∀q∈M,q.1<=t):
 AscM (putM M t s)/\(∀q∈putM M t s,q.1=t\/q∈M)/\∀x,valF (putM M t s) x=if t<=x then s else valF M x:=by
 by_cases h:M=[]
 · subst h
   rw[G0];exact⟨List.pairwise_singleton _ _,fun q hq=>Or.inl (by rw[List.mem_singleton.1 hq]),fun x=>vV [] (t,s) x⟩
 obtain⟨K,⟨u,q⟩,rfl⟩:∃K z,M=K++[z]:=⟨_,_,(List.dropLast_concat_getLast h).symm⟩;obtain⟨c1,c2⟩:=(kH K (u,q)).1 hM;by_cases hz:u=t
 · subst hz
   rw[X9];refine⟨(kH K (u,s)).2 ⟨c1,c2⟩,fun p hp=>?_,fun x=>?_⟩
   · rcases List.mem_append.1 hp with hp|hp
     · exact Or.inr (List.mem_append_left _ hp)
     rw[List.mem_singleton.1 hp];exact Or.inl rfl
   rw[vV,vV];dsimp only;split<;>rfl
 rw[X8 K (u,q) t s hz];refine⟨(kH _ (t,s)).2 ⟨hM,fun p hp=>?_⟩,fun p hp=>?_,fun x=>vV _ _ x⟩
 · have:=hq p hp
   rcases List.mem_append.1 hp with hp'|hp'
   · have:=c2 p hp'
     have:=hq (u,q) (by simp);dsimp only at *;omega
   rw[List.mem_singleton.1 hp']at this⊢;dsimp only at *;omega
 rcases List.mem_append.1 hp with hp|hp;· exact Or.inr hp
 rw[List.mem_singleton.1 hp];exact Or.inl rfl
theorem K7 {l:List Ev} (hr:yp l) (n:Int):∀k,k<=l.length->
 AscM (momF n (l.take k)).1/\(∀q∈(momF n (l.take k)).1,∃i,∃hi:i<l.length,i<k/\q.1=(l[i]).tm)/\(∀x,valF (momF n (l.take k)).1 x=stAt n (l.take k) x)/\(momF n (l.take k)).2=ug n (l.take k)
 |0,_=>by
   rw[List.take_zero];exact⟨List.Pairwise.nil,fun q hq=>(by cases hq),fun x=>rfl,rfl⟩
 |k+1,hk=>by
   obtain⟨h1,h2,h3,h4⟩:=K7 hr n k (by omega);have h:=qh hr;rw[kC n l k (by omega),Qi n l k (by omega)];by_cases hn:n=0
   · subst hn
     rw[kU (Or.inl rfl)];have hz:=NP (hr k (by omega));refine⟨h1,fun q hq=>?_,fun x=>?_,?_⟩
     · obtain⟨i,hi,hik,e⟩:=h2 q hq
       exact⟨i,hi,by omega,e⟩
     · rw[h3,Yp h k (by omega)]
       split
       · rename_i hc
         rw[hz hc.1];unfold stAt;have e2:yG (l.take k) x=l.take k:=by
          unfold yG;rw[List.filter_eq_self];intro y hy;obtain⟨j,hj,rfl⟩:=List.mem_take_iff_getElem.1 hy;have:=h j k (by omega) (by omega) (by omega)
          simp;omega
         rw[e2]
       rfl
     rw[h4];split
     · rename_i hc
       rw[hz hc]
     rfl
   by_cases hs:(l[k]'(by omega)).sb=n
   · rw[Y6 hn hs,if_pos hs]
     have hq:∀q∈(momF n (l.take k)).1,q.1<=(l[k]'(by omega)).tm:=fun q hq=>by
      obtain⟨i,hi,hik,e⟩:=h2 q hq;rw[e];exact h i k hi (by omega) (by omega)
     obtain⟨g1,g2,g3⟩:=G2 _ (l[k]'(by omega)).tm (yN (momF n (l.take k)).2 (l[k]'(by omega))) h1 hq;refine⟨g1,fun q hq=>?_,fun x=>?_,by rw[h4]⟩
     · rcases g2 q hq with e|hq
       · exact⟨k,by omega,by omega,e⟩
       obtain⟨i,hi,hik,e⟩:=h2 q hq;exact⟨i,hi,by omega,e⟩
     rw[g3,Yp h k (by omega),h3,h4];by_cases hx:(l[k]'(by omega)).tm<=x;· rw[if_pos hx,if_pos ⟨hs,hx⟩]
     rw[if_neg hx,if_neg (fun h=>hx h.2)]
   rw[kU (Or.inr hs),if_neg hs];refine⟨h1,fun q hq=>?_,fun x=>?_,h4⟩
   · obtain⟨i,hi,hik,e⟩:=h2 q hq
     exact⟨i,hi,by omega,e⟩
   rw[h3,Yp h k (by omega),if_neg (fun h=>hs h.1)]
def qr (a b:List ByteArray):Bool:=decide (a.length=b.length)&&(a.zip b).all fun p=>yt p.1 p.2
theorem jC:∀(a b:List ByteArray),qr a b=true↔a=b
 | [],[]=>by simp[qr]
 | [],_::_=>by simp[qr]
 |_::_,[]=>by simp[qr]
 |x::a,y::b=>by
   have ih:=jC a b;unfold qr at ih⊢;rw[Bool.and_eq_true,decide_eq_true_eq]at ih;rw[List.zip_cons_cons,List.all_cons,Bool.and_eq_true,Bool.and_eq_true,decide_eq_true_eq,zI,List.cons.injEq,<-ih,List.length_cons,List.length_cons];constructor;· rintro⟨h1,h2,h3⟩;exact⟨h2,by omega,h3⟩
   rintro⟨h1,h2,h3⟩;exact⟨by omega,h1,h3⟩
def view (s:Sb):Sb:={ s with ac:=0,si:=0,nus:=[] }
def vG (a b:Sb):Bool:=decide (a.id=b.id)&&yt a.plan b.plan&&(a.su==b.su)&&(a.fa==b.fa)&&qr a.prs b.prs
theorem ZK (a b:Sb):vG a b=true↔view a=view b:=by
 unfold vG view;obtain⟨a1,a2,a3,a4,a5,a6,a7,a8⟩:=a;obtain⟨b1,b2,b3,b4,b5,b6,b7,b8⟩:=b;simp only[Bool.and_eq_true,decide_eq_true_eq,zI,jC,beq_iff_eq,Sb.mk.injEq];constructor;· rintro⟨⟨⟨⟨h1,h2⟩,h3⟩,h4⟩,h5⟩;exact⟨h1,trivial,trivial,h2,trivial,h5,h3,h4⟩
 rintro⟨h1,-,-,h2,-,h5,h3,h4⟩;exact⟨⟨⟨⟨h1,h2⟩,h3⟩,h4⟩,h5⟩
theorem Vo {a b:Sb} (h:view a=view b):a.id=b.id/\a.prs=b.prs/\a.su=b.su/\a.fa=b.fa/\a.plan=b.plan:=
 ⟨congrArg (·.id) h,congrArg (·.prs) h,congrArg (·.su) h,congrArg (·.fa) h,congrArg (·.plan) h⟩
def jE (O:List (Int×Sb)) (p:Int×Sb):List (Int×Sb):=match O.getLast? with
 |some q=>if vG q.2 p.2=true then O else O++[p]
 |none=>[p]
theorem Xi (p:Int×Sb):jE [] p=[p]:=rfl
theorem JD (K:List (Int×Sb)) (q p:Int×Sb) (h:vG q.2 p.2=true):jE (K++[q]) p=K++[q]:=by unfold jE;simp[h]
theorem JC (K:List (Int×Sb)) (q p:Int×Sb) (h:vG q.2 p.2=false):jE (K++[q]) p=K++[q]++[p]:=by unfold jE;simp[h]
def jmL (M:List (Int×Sb)):List (Int×Sb):=M.foldl jE []
theorem Eh (M:List (Int×Sb)) (p:Int×Sb):jmL (M++[p])=jE (jmL M) p:=by unfold jmL;rw[List.foldl_append];rfl
theorem ZY (M:List (Int×Sb)) (k:Nat) (h:k<M.length):jmL (M.take (k+1))=jE (jmL (M.take k)) M[k]:=by rw[List.take_succ_eq_append_getElem h,Eh]
theorem Xj (O:List (Int×Sb)) (p:Int×Sb):(jE O p).length<=O.length+1:=by
 unfold jE;split
 · split
   · omega
   simp
 simp
theorem Kg (M:List (Int×Sb)) (k:Nat) (hk:k<=M.length):(jmL (M.take k)).length<=k:=by
 induction k with
 |zero=>simp[jmL]
 |succ k ih=>rw[ZY M k (by omega)];have:=ih (by omega);have:=Xj (jmL (M.take k)) (M[k]'(by omega));omega
theorem Wg (M:List (Int×Sb)) (hM:AscM M):∀k,k<=M.length->AscM (jmL (M.take k))/\(∀q∈jmL (M.take k),q∈M.take k)/\∀x,view (valF (jmL (M.take k)) x)=view (valF (M.take k) x)
 |0,_=>by
   rw[List.take_zero];exact⟨List.Pairwise.nil,fun q hq=>(by cases hq),fun x=>rfl⟩
 |k+1,hk=>by
   obtain⟨h1,h2,h3⟩:=Wg M hM k (by omega);have hlt:∀q∈M.take k,q.1<(M[k]'(by omega)).1:=fun q hq=>by
    obtain⟨j,hj,rfl⟩:=List.mem_take_iff_getElem.1 hq;exact List.pairwise_iff_getElem.1 hM j k (by omega) (by omega) (by omega)
   rw[ZY M k (by omega),List.take_succ_eq_append_getElem (by omega)];generalize M[k]'(by omega)=p at hlt⊢;by_cases h:jmL (M.take k)=[]
   · rw[h]at h3⊢
     rw[Xi];refine⟨List.pairwise_singleton _ _,fun q hq=>by rw[List.mem_singleton.1 hq];simp,fun x=>?_⟩;rw[vV,show valF [p] x=if p.1<=x then p.2 else ZL from rfl];split;· rfl
     exact h3 x
   obtain⟨K,q,hK⟩:∃K z,jmL (M.take k)=K++[z]:=⟨_,_,(List.dropLast_concat_getLast h).symm⟩;rw[hK]at h1 h2 h3⊢;cases ha:vG q.2 p.2 with
   |true=>
     rw[JD K q p ha];refine⟨h1,fun z hz=>List.mem_append_left _ (h2 z hz),fun x=>?_⟩;have hq:=hlt q (h2 q (by simp));by_cases hx:p.1<=x
     · rw[vV K q x,if_pos (by omega),vV (M.take k) p x,if_pos hx]
       exact(ZK _ _).1 ha
     rw[vV (M.take k) p x,if_neg hx];exact h3 x
   |false=>
     rw[JC K q p ha];refine⟨(kH _ p).2 ⟨h1,fun z hz=>hlt z (h2 z hz)⟩,fun z hz=>?_,fun x=>?_⟩
     · rcases List.mem_append.1 hz with hz|hz
       · exact List.mem_append_left _ (h2 z hz)
       exact List.mem_append_right _ hz
     rw[vV (K++[q]) p x,vV (M.take k) p x];split;· rfl
     exact h3 x
theorem VF (x:Int):∀(R:List (Int×Sb)) (v:Sb),(∀q∈R,x<q.1)->R.foldl (fun v p=>if p.1<=x then p.2 else v) v=v
 | [],_,_=>rfl
 |p::R,v,h=>by
   rw[List.foldl_cons,if_neg (by have:=h p List.mem_cons_self;omega)];exact VF x R v (fun q hq=>h q (List.mem_cons_of_mem _ hq))
theorem XP {M:List (Int×Sb)} (hM:AscM M) {i:Nat} (hi:i<M.length) {x:Int} (h1:(M[i]).1<=x) (h2:∀h:i+1<M.length,x<(M[i+1]).1):valF M x=(M[i]).2:=by
 have e:M=M.take (i+1)++M.drop (i+1):=(List.take_append_drop _ _).symm;have hd:∀q∈M.drop (i+1),x<q.1:=fun q hq=>by
  obtain⟨j,hj,rfl⟩:=List.mem_iff_getElem.1 hq;rw[List.getElem_drop];rw[List.length_drop]at hj;have h3:=h2 (by omega);by_cases hj0:j=0;· subst hj0;exact h3
  have:=List.pairwise_iff_getElem.1 hM (i+1) (i+1+j) (by omega) (by omega) (by omega);omega
 have e2:valF M x=(M.drop (i+1)).foldl (fun v p=>if p.1<=x then p.2 else v) (valF (M.take (i+1)) x):=by
  conv=>lhs;rw[e]
  unfold valF;rw[List.foldl_append]
 rw[e2,VF x _ _ hd,List.take_succ_eq_append_getElem hi,vV,if_pos h1]
theorem VG (x:Int):∀(k:Nat) (M:List (Int×Sb)),M.length=k->AscM M->(∀q∈M,x<q.1)\/∃i,∃hi:i<M.length,(M[i]).1<=x/\∀h:i+1<M.length,x<(M[i+1]).1
 |0,M,hk,_=>Or.inl fun q hq=>by rw[List.length_eq_zero_iff.1 hk]at hq;cases hq
 |k+1,M,hk,hM=>by
   obtain⟨K,p,rfl⟩:∃K z,M=K++[z]:=⟨_,_,(List.dropLast_concat_getLast (l:=M) (by rintro rfl;cases hk)).symm⟩;rw[List.length_append,List.length_singleton]at hk;obtain⟨h1,h2⟩:=(kH K p).1 hM;by_cases hp:p.1<=x;· exact Or.inr ⟨K.length,by simp,by simpa using hp,fun h=>by simp at h⟩
   rcases VG x k K (by omega) h1 with h|⟨i,hi,g1,g2⟩
   · refine Or.inl fun q hq=>?_
     rcases List.mem_append.1 hq with hq|hq;· exact h q hq
     rw[List.mem_singleton.1 hq];omega
   refine Or.inr ⟨i,by simp;omega,by rw[List.getElem_append_left hi];exact g1,fun h=>?_⟩;by_cases hl:i+1<K.length;· rw[List.getElem_append_left hl];exact g2 hl
   rw[List.getElem_append_right (by omega)];simp;omega
structure Sp where
 f:Int
 t:Int
 s:Sb
def qU (L:List (Int×Sb)) (i:Nat):Int:=match L[i+1]? with
 |some q=>q.1
 |none=>12622780800
def Jt (L:List (Int×Sb)) (i:Nat):List Sp:=match L[i]? with
 |some m=>if m.2.id=0 then [] else [⟨m.1,qU L i,m.2⟩]
 |none=>[]
def qg (L:List (Int×Sb)) (k:Nat):List Sp:=(List.range k).flatMap (Jt L)
theorem uk (L:List (Int×Sb)) (k:Nat):qg L (k+1)=qg L k++Jt L k:=by unfold qg;rw[List.range_succ,List.flatMap_append];simp
theorem WO (L:List (Int×Sb)) (k:Nat):(Jt L k).length<=1:=by
 unfold Jt;split;· split<;>simp
 simp
theorem Zp (L:List (Int×Sb)):∀k,(qg L k).length<=k
 |0=>Nat.le_refl _
 |k+1=>by
   rw[uk,List.length_append];have:=Zp L k;have:=WO L k;omega
structure SpOk (n:Int) (l:List Ev) (S:List Sp):Prop where
 asc:S.Pairwise (fun a b=>a.t<=b.f)
 ne:∀a∈S,0<=a.f/\a.f<a.t/\a.t<=12622780800
 is:∀a∈S,∀x,a.f<=x->x<a.t->view (stAt n l x)=view a.s/\a.s.id≠0
 all:∀x,x<12622780800->(stAt n l x).id≠0->∃a∈S,a.f<=x/\x<a.t
theorem kB {L:List (Int×Sb)} {i:Nat} (h:i+1<L.length):qU L i=(L[i+1]).1:=by unfold qU;rw[List.getElem?_eq_getElem h]
theorem Zs {L:List (Int×Sb)} {i:Nat} (h:L.length<=i+1):qU L i=12622780800:=by unfold qU;rw[List.getElem?_eq_none h]
theorem ul {L:List (Int×Sb)} {i:Nat} (h:i<L.length):Jt L i=if (L[i]).2.id=0 then [] else [⟨(L[i]).1,qU L i,(L[i]).2⟩]:=by unfold Jt;rw[List.getElem?_eq_getElem h]
theorem kX {L:List (Int×Sb)} {k:Nat} (hk:k<=L.length) {a:Sp}:a∈qg L k↔∃i,∃h:i<k,(L[i]'(by omega)).2.id≠0/\a=⟨(L[i]'(by omega)).1,qU L i,(L[i]'(by omega)).2⟩:=by
 unfold qg;rw[List.mem_flatMap];constructor
 · rintro⟨i,hi,ha⟩
   have hi:=List.mem_range.1 hi;rw[ul (by omega)]at ha;split at ha;· cases ha
   rename_i h;exact⟨i,hi,h,List.mem_singleton.1 ha⟩
 rintro⟨i,hi,h1,rfl⟩;exact⟨i,List.mem_range.2 hi,by rw[ul (by omega),if_neg h1];exact List.mem_singleton.2 rfl⟩
theorem UU {l:List Ev} {n:Int} {L:List (Int×Sb)} (hA:AscM L) (hb:∀q∈L,0<=q.1/\q.1<12622780800) (hv:∀x,view (valF L x)=view (stAt n l x)):SpOk n l (qg L L.length):=by
 have hn:∀i (h:i<L.length),(L[i]).1<qU L i/\qU L i<=12622780800:=fun i h=>by
  by_cases h1:i+1<L.length
  · rw[kB h1]
    have:=List.pairwise_iff_getElem.1 hA i (i+1) h h1 (by omega);have:=hb _ (List.getElem_mem h1);omega
  rw[Zs (by omega)];have:=hb _ (List.getElem_mem h);omega
 refine⟨?_,fun a ha=>?_,fun a ha x h1 h2=>?_,fun x hx hid=>?_⟩
 · have:∀k,k<=L.length->(qg L k).Pairwise (fun a b=>a.t<=b.f):=by
    intro k;induction k with
    |zero=>intro _;exact List.Pairwise.nil
    |succ k ih=>
      intro hk;rw[uk,List.pairwise_append];refine⟨ih (by omega),?_,fun a ha b hb2=>?_⟩
      · rw[ul (by omega)]
        split;· exact List.Pairwise.nil
        exact List.pairwise_singleton _ _
      obtain⟨i,hi,-,rfl⟩:=(kX (by omega)).1 ha;rw[ul (by omega)]at hb2;split at hb2;· cases hb2
      rw[List.mem_singleton.1 hb2,kB (by omega)];by_cases hik:i+1=k;· subst hik;exact Int.le_refl _
      exact Int.le_of_lt (List.pairwise_iff_getElem.1 hA (i+1) k (by omega) (by omega) (by omega))
   exact this _ (Nat.le_refl _)
 · obtain⟨i,hi,-,rfl⟩:=(kX (Nat.le_refl _)).1 ha
   have:=hb _ (List.getElem_mem hi);exact⟨this.1,hn i hi⟩
 · obtain⟨i,hi,h3,rfl⟩:=(kX (Nat.le_refl _)).1 ha
   dsimp only at h1 h2⊢;refine⟨?_,h3⟩;rw[<-hv,XP hA hi h1 (fun h=>by rw[kB h]at h2;exact h2)]
 rcases VG x _ L rfl hA with h|⟨i,hi,g1,g2⟩
 · have h0:=VF x L ZL h
   have:=(Vo (hv x)).1;rw[show valF L x=ZL from h0]at this;exact absurd this.symm hid
 refine⟨⟨(L[i]).1,qU L i,(L[i]).2⟩,(kX (Nat.le_refl _)).2 ⟨i,hi,?_,rfl⟩,g1,?_⟩
 · have:=(Vo (hv x)).1
   rw[XP hA hi g1 g2]at this;rw[this];exact hid
 show x<qU L i;by_cases h1:i+1<L.length;· rw[kB h1];exact g2 h1
 rw[Zs (by omega)];exact hx
def ki (n:Int) (l:List Ev):List Sp:=qg (jmL (momF n l).1) (jmL (momF n l).1).length
theorem Zo {l:List Ev} (hr:yp l) (n:Int):SpOk n l (ki n l):=by obtain⟨h1,h2,h3,-⟩:=K7 hr n l.length (Nat.le_refl _);rw[List.take_of_length_le (Nat.le_refl _)]at h1 h2 h3;obtain⟨g1,g2,g3⟩:=Wg _ h1 _ (Nat.le_refl _);rw[List.take_of_length_le (Nat.le_refl _)]at g1 g2 g3;refine UU g1 (fun q hq=>?_) (fun x=>by rw[g3,h3]);obtain⟨i,hi,-,e⟩:=h2 q (g2 q hq);rw[e];exact⟨(hr i hi).t0,(hr i hi).t1⟩
theorem YS (n:Int) (l:List Ev):(ki n l).length<=l.length:=by have h1:=Zp (jmL (momF n l).1) (jmL (momF n l).1).length;have h2:=Kg (momF n l).1 _ (Nat.le_refl _);rw[List.take_of_length_le (Nat.le_refl _)]at h2;have h3:=V6 n l l.length (Nat.le_refl _);rw[List.take_of_length_le (Nat.le_refl _)]at h3;unfold ki;omega
def ql (k:Sp->Bool) (S:List Sp):List (Int×Int):=(S.filter k).map fun a=>(a.f,a.t)
def vn (L:List (Int×Int)):List (Int×Int):=L.foldl (fun O p=>vm O p.1 p.2) []
theorem jj (L:List (Int×Int)) (k:Nat) (h:k<L.length):vn (L.take (k+1))=vm (vn (L.take k)) (L[k]).1 (L[k]).2:=by unfold vn;rw[List.take_succ_eq_append_getElem h,List.foldl_append];rfl
theorem Yy (L:List (Int×Int)) (k:Nat) (hk:k<=L.length):(vn (L.take k)).length<=k:=by
 induction k with
 |zero=>simp[vn]
 |succ k ih=>rw[jj L k (by omega)];have:=ih (by omega);have:=Qx (vn (L.take k)) (L[k]'(by omega)).1 (L[k]'(by omega)).2;omega
theorem JA (L:List (Int×Int)) (hL:L.Pairwise (fun a b=>a.2<=b.1)) (hn:∀p∈L,p.1<p.2):∀k,k<=L.length->
 Can (vn (L.take k))/\(∀h:k<L.length,∀q∈vn (L.take k),q.2<=(L[k]).1)/\∀x,MemP (vn (L.take k)) x↔MemP (L.take k) x
 |0,_=>by
   rw[List.take_zero];exact⟨trivial,fun _ q hq=>(by cases hq),fun x=>Iff.rfl⟩
 |k+1,hk=>by
   obtain⟨h1,h2,h3⟩:=JA L hL hn k (by omega);have hp:=hn _ (List.getElem_mem (by omega:k<L.length));obtain⟨g1,g2,g3⟩:=Qy _ _ _ h1 hp (h2 (by omega));rw[jj L k (by omega)];refine⟨g1,fun h q hq=>?_,fun x=>?_⟩
   · have:=g2 q hq
     have:=List.pairwise_iff_getElem.1 hL k (k+1) (by omega) h (by omega);omega
   rw[g3,h3,List.take_succ_eq_append_getElem (by omega),jO]
def Held (P:Sb->Bool) (n:Int) (l:List Ev) (x:Int):Prop:=x<12622780800/\(stAt n l x).id≠0/\P (stAt n l x)=true
theorem Qf {l:List Ev} {n:Int} {S:List Sp} (h:SpOk n l S) (P:Sb->Bool) (hP:∀a b,view a=view b->P a=P b):
 Can (vn (ql (fun a=>P a.s) S))/\∀x,MemP (vn (ql (fun a=>P a.s) S)) x↔Held P n l x:=by
 have hmem:∀p,p∈ql (fun a=>P a.s) S↔∃a∈S,P a.s=true/\p=(a.f,a.t):=fun p=>by
  unfold ql;rw[List.mem_map];constructor
  · rintro⟨a,ha,rfl⟩
    obtain⟨h1,h2⟩:=List.mem_filter.1 ha;exact⟨a,h1,h2,rfl⟩
  rintro⟨a,h1,h2,rfl⟩;exact⟨a,List.mem_filter.2 ⟨h1,h2⟩,rfl⟩
 have hp:(ql (fun a=>P a.s) S).Pairwise (fun a b=>a.2<=b.1):=by unfold ql;rw[List.pairwise_map];exact h.asc.filter _
 have hn:∀p∈ql (fun a=>P a.s) S,p.1<p.2:=fun p hp=>by
  obtain⟨a,ha,-,rfl⟩:=(hmem p).1 hp;exact(h.ne a ha).2.1
 obtain⟨g1,-,g3⟩:=JA _ hp hn _ (Nat.le_refl _);rw[List.take_of_length_le (Nat.le_refl _)]at g1 g3;refine⟨g1,fun x=>?_⟩;rw[g3];constructor
 · rintro⟨p,hp,h1,h2⟩
   obtain⟨a,ha,hPa,rfl⟩:=(hmem p).1 hp;obtain⟨e1,e2⟩:=h.is a ha x h1 h2;have hne:=h.ne a ha;dsimp only at h1 h2;exact⟨by omega,by rw[(Vo e1).1];exact e2,by rw[hP _ _ e1];exact hPa⟩
 rintro⟨h1,h2,h3⟩;obtain⟨a,ha,e1,e2⟩:=h.all x h1 h2;exact⟨(a.f,a.t),(hmem _).2 ⟨a,ha,by rw[<-hP _ _ (h.is a ha x e1 e2).1];exact h3,rfl⟩,e1,e2⟩
def hasT (s:ByteArray) (a:Sb):Bool:=a.prs.any fun x=>yt x s
theorem YA (s:ByteArray) (a b:Sb) (h:view a=view b):hasT s a=hasT s b:=by unfold hasT;rw[(Vo h).2.1]
def actL (n:Int) (s:ByteArray) (l:List Ev):List (Int×Int):=vn (ql (fun a=>hasT s a.s) (ki n l))
theorem Yk {l:List Ev} (hr:yp l) (n:Int) (s:ByteArray):Can (actL n s l):=(Qf (Zo hr n) (hasT s) (YA s)).1
theorem QG {l:List Ev} (hr:yp l) (n:Int) (s:ByteArray) (x:Int):MemP (actL n s l) x↔Held (hasT s) n l x:=(Qf (Zo hr n) (hasT s) (YA s)).2 x
theorem JB (L:List (Int×Int)) (P:Int×Int->Prop) (hP:∀a b,P a->P b->P (a.1,b.2)) (h:∀p∈L,P p):∀k,k<=L.length->∀q∈vn (L.take k),P q
 |0,_=>fun q hq=>by rw[List.take_zero]at hq;cases hq
 |k+1,hk=>by
   have ih:=JB L P hP h k (by omega);rw[jj L k (by omega)];have hk':=h _ (List.getElem_mem (by omega:k<L.length));by_cases h0:vn (L.take k)=[]
   · rw[h0,qX]
     intro q hq;rw[List.mem_singleton.1 hq];exact hk'
   obtain⟨K,z,hK⟩:∃K z,vn (L.take k)=K++[z]:=⟨_,_,(List.dropLast_concat_getLast h0).symm⟩;rw[hK]at ih⊢;by_cases hz:z.2=(L[k]'(by omega)).1
   · rw[q8 K z _ _ hz]
     intro q hq;rcases List.mem_append.1 hq with hq|hq;· exact ih q (List.mem_append_left _ hq)
     rw[List.mem_singleton.1 hq];exact hP _ _ (ih z (by simp)) hk'
   rw[q7 K z _ _ hz];intro q hq;rcases List.mem_append.1 hq with hq|hq;· exact ih q hq
   rw[List.mem_singleton.1 hq];exact hk'
theorem KE {l:List Ev} (hr:yp l) (n:Int) (s:ByteArray):∀q∈actL n s l,0<=q.1/\q.1<q.2/\q.2<=12622780800:=by
 have hok:=Zo hr n;have h1:=UB (Yk hr n s);have h2:=JB (ql (fun a=>hasT s a.s) (ki n l)) (fun q=>0<=q.1/\q.2<=12622780800) (fun a b ha hb=>⟨ha.1,hb.2⟩) (fun p hp=>by
  unfold ql at hp;obtain⟨a,ha,rfl⟩:=List.mem_map.1 hp;have:=hok.ne a (List.mem_filter.1 ha).1;exact⟨this.1,this.2.2⟩) _ (Nat.le_refl _);rw[List.take_of_length_le (Nat.le_refl _)]at h2;intro q hq;exact⟨(h2 q hq).1,h1 q hq,(h2 q hq).2⟩
theorem Wk {l:List Ev} (hr:yp l):∀k,k<=l.length->∀s∈(zQ (l.take k)).subs,1<=s.id
 |0,_=>fun s hs=>by rw[List.take_zero]at hs;cases hs
 |k+1,hk=>by
   have ih:=Wk hr k (by omega);rw[vM l k (by omega)];have hok:=hr k (by omega);generalize l[k]'(by omega)=e at hok⊢;have hk1:=hok.k1;have hk2:=hok.k2;by_cases c1:e.kd=1\/e.kd=2\/14<=e.kd;· rw[(ZF c1).1];exact ih
   by_cases c2:e.kd=3
   · rw[(YG c2).1]
     intro s hs;rcases List.mem_append.1 hs with hs|hs;· exact ih s hs
     rw[List.mem_singleton.1 hs];exact(hok.s1 (by rw[c2];rfl)).1
   rw[(uG (by omega) (by omega)).1];intro s hs;rcases kY hs with hs|⟨y,hy,rfl⟩;· exact ih s hs
   rw[uE];exact ih y hy
theorem GZ {b:Bk} {n:Int} {q:Sb} (h:refS b n=some q):q∈b.subs:=by
 unfold refS at h;split at h;· cases h
 exact List.mem_of_getElem? h
theorem xI {l:List Ev} (hr:yp l) (t n:Int) {q:Sb} (h:refS (zQ (yG l t)) n=some q):q.id≠0:=by obtain⟨h1,h2⟩:=uM hr t;rw[h1]at h;have:=Wk hr _ h2 q (GZ h);omega
def toAt (l:List Ev) (i:Nat):Int:=match l[i+1]? with
 |some e=>e.tm
 |none=>12622780800
theorem JS {l:List Ev} {i:Nat} (h:i+1<l.length):toAt l i=(l[i+1]).tm:=by unfold toAt;rw[List.getElem?_eq_getElem h]
theorem KN {l:List Ev} {i:Nat} (h:l.length<=i+1):toAt l i=12622780800:=by unfold toAt;rw[List.getElem?_eq_none h]
def yX (a b:Sb):Bool:=yt a.plan b.plan&&(a.su==b.su)&&(a.fa==b.fa)&&qr a.prs b.prs
theorem KC {a b:Sb} (h:yX a b=true) (hi:a.id=b.id):view a=view b:=by rw[<-ZK];unfold yX at h;unfold vG;simp only[Bool.and_eq_true]at h⊢;exact⟨⟨⟨⟨decide_eq_true hi,h.1.1.1⟩,h.1.1.2⟩,h.1.2⟩,h.2⟩
def jT (O:List Sp) (f t:Int) (s:Sb):List Sp:=match O.getLast? with
 |some q=>if q.t=f/\yX q.s s=true then O.dropLast++[⟨q.f,t,q.s⟩] else O++[⟨f,t,s⟩]
 |none=>[⟨f,t,s⟩]
theorem Jv (K:List Sp) (q:Sp) (f t:Int) (s:Sb) (h1:q.t=f) (h2:yX q.s s=true):jT (K++[q]) f t s=K++[⟨q.f,t,q.s⟩]:=by unfold jT;simp[h1,h2]
theorem Ju (K:List Sp) (q:Sp) (f t:Int) (s:Sb) (h:¬(q.t=f/\yX q.s s=true)):jT (K++[q]) f t s=K++[q]++[⟨f,t,s⟩]:=by unfold jT;rw[List.getLast?_append,List.getLast?_singleton];simp only[Option.some_or];rw[if_neg h]
theorem U4 (O:List Sp) (f t:Int) (s:Sb):(jT O f t s).length<=O.length+1:=by
 unfold jT;split
 · split
   iterate 2
    · simp
 simp
def jo (n:Int) (l:List Ev) (O:List Sp) (i:Nat):List Sp:=match l[i]? with
 |none=>O
 | some e=>if e.tm=toAt l i then O else match refS (zQ (yG l e.tm)) n with
   |none=>O
   |some s=>jT O e.tm (toAt l i) s
def rspL (n:Int) (l:List Ev) (k:Nat):List Sp:=(List.range k).foldl (jo n l) []
theorem Ys (n:Int) (l:List Ev) (k:Nat):rspL n l (k+1)=jo n l (rspL n l k) k:=by unfold rspL;rw[List.range_succ,List.foldl_append];rfl
theorem VV (n:Int) (l:List Ev) (O:List Sp) (k:Nat) (h:k<l.length) (ht:(l[k]).tm=toAt l k):jo n l O k=O:=by unfold jo;rw[List.getElem?_eq_getElem h];dsimp only;rw[if_pos ht]
theorem ZU (n:Int) (l:List Ev) (O:List Sp) (k:Nat) (h:k<l.length) (hr:refS (zQ (yG l (l[k]).tm)) n=none):jo n l O k=O:=by
 unfold jo;rw[List.getElem?_eq_getElem h];dsimp only;split;· rfl
 rw[hr]
theorem J0 (n:Int) (l:List Ev) (O:List Sp) (k:Nat) (h:k<l.length) (ht:(l[k]).tm≠toAt l k) {s:Sb} (hr:refS (zQ (yG l (l[k]).tm)) n=some s):jo n l O k=jT O (l[k]).tm (toAt l k) s:=by unfold jo;rw[List.getElem?_eq_getElem h];dsimp only;rw[if_neg ht,hr]
theorem VW (n:Int) (l:List Ev):∀k,(rspL n l k).length<=k
 |0=>Nat.le_refl _
 |k+1=>by
   rw[Ys];have:=VW n l k;unfold jo;split;· omega
   split;· omega
   split;· omega
   rename_i e _ _ _ s _;have:=U4 (rspL n l k) e.tm (toAt l k) s;omega
structure SpTo (n:Int) (l:List Ev) (b:Int) (S:List Sp):Prop where
 asc:S.Pairwise (fun a b=>a.t<=b.f)
 ne:∀a∈S,0<=a.f/\a.f<a.t/\a.t<=b
 id:∀a∈S,a.s.id=n
 is:∀a∈S,∀x,a.f<=x->x<a.t->view (stAt n l x)=view a.s/\a.s.id≠0
 all:∀x,x<b->(stAt n l x).id≠0->∃a∈S,a.f<=x/\x<a.t
def bndE (l:List Ev) (k:Nat):Int:=match l[k]? with
 |some e=>e.tm
 |none=>12622780800
theorem Wv {l:List Ev} {k:Nat} (h:k<l.length):bndE l k=(l[k]).tm:=by unfold bndE;rw[List.getElem?_eq_getElem h]
theorem ES {l:List Ev} {k:Nat} (h:l.length<=k):bndE l k=12622780800:=by unfold bndE;rw[List.getElem?_eq_none h]
theorem NW (l:List Ev) (k:Nat):bndE l (k+1)=toAt l k:=rfl
theorem WI {l:List Ev} (hr:yp l) {k:Nat} (hk:k<l.length) {x:Int} (h1:(l[k]).tm<=x) (h2:x<toAt l k):yG l x=yG l (l[k]).tm:=by
 unfold yG;refine List.filter_congr fun e he=>?_;obtain⟨j,hj,rfl⟩:=List.mem_iff_getElem.1 he;by_cases hjk:j<=k
 · have:=qh hr j k hj hk hjk
   rw[decide_eq_true (by omega),decide_eq_true (by omega)]
 rw[JS (by omega)]at h2;have:=qh hr (k+1) j (by omega) hj (by omega);rw[decide_eq_false (by omega),decide_eq_false (by omega)]
theorem X6 {l:List Ev} (hr:yp l) (n:Int):∀k,k<=l.length->SpTo n l (bndE l k) (rspL n l k)
 |0,_=>by
   refine⟨List.Pairwise.nil,fun a ha=>(by cases ha),fun a ha=>(by cases ha),fun a ha=>(by cases ha),fun x hx hid=>?_⟩;exfalso;apply hid;unfold stAt;have:yG l x=[]:=by
    unfold yG;rw[List.filter_eq_nil_iff];intro e he;obtain⟨j,hj,rfl⟩:=List.mem_iff_getElem.1 he;rw[Wv (by omega)]at hx;have:=qh hr 0 j (by omega) hj (by omega)
    simp;omega
   rw[this];rfl
 |k+1,hk=>by
   have hk':k<l.length:=by omega
   obtain⟨h1,h2,h3,h4,h5⟩:=X6 hr n k (by omega);rw[Wv hk']at h2 h5;have t0:=(hr k hk').t0;have t1:=(hr k hk').t1;have hle:(l[k]).tm<=toAt l k:=by
    by_cases h:k+1<l.length;· rw[JS h];exact qh hr k (k+1) hk' h (by omega)
    rw[KN (by omega)];omega
   rw[Ys,NW];by_cases ht:(l[k]).tm=toAt l k
   · rw[VV n l _ k hk' ht]
     exact⟨h1,by rw[<-ht];exact h2,h3,h4,by rw[<-ht];exact h5⟩
   have hst:∀x,(l[k]).tm<=x->x<toAt l k->stAt n l x=toS (refS (zQ (yG l (l[k]).tm)) n):=fun x g1 g2=>by
    rw[WN hr,WI hr hk' g1 g2]
   cases hrf:refS (zQ (yG l (l[k]).tm)) n with
   |none=>
     rw[ZU n l _ k hk' hrf];refine⟨h1,fun a ha=>?_,h3,h4,fun x hx hid=>?_⟩;· have:=h2 a ha;omega
     by_cases hxk:x<(l[k]).tm;· exact h5 x hxk hid
     rw[hst x (by omega) hx,hrf]at hid;exact absurd rfl hid
   |some s=>
     rw[J0 n l _ k hk' ht hrf];have hsi:=Nw hrf;have hs0:=xI hr _ _ hrf;have hnew:∀x,(l[k]).tm<=x->x<toAt l k->view (stAt n l x)=view s:=fun x g1 g2=>by
      rw[hst x g1 g2,hrf];rfl
     have plain:SpTo n l (toAt l k) (rspL n l k++[⟨(l[k]).tm,toAt l k,s⟩]):=by
      refine⟨?_,fun a ha=>?_,fun a ha=>?_,fun a ha x g1 g2=>?_,fun x hx hid=>?_⟩
      · rw[List.pairwise_append]
        refine⟨h1,List.pairwise_singleton _ _,fun a ha b hb=>?_⟩;rw[List.mem_singleton.1 hb];exact(h2 a ha).2.2
      · rcases List.mem_append.1 ha with ha|ha
        · have:=h2 a ha;omega
        rw[List.mem_singleton.1 ha];dsimp only;omega
      · rcases List.mem_append.1 ha with ha|ha
        · exact h3 a ha
        rw[List.mem_singleton.1 ha];exact hsi
      · rcases List.mem_append.1 ha with ha|ha
        · exact h4 a ha x g1 g2
        rw[List.mem_singleton.1 ha]at g1 g2⊢;exact⟨hnew x g1 g2,hs0⟩
      by_cases hxk:x<(l[k]).tm
      · obtain⟨a,ha,g⟩:=h5 x hxk hid
        exact⟨a,List.mem_append_left _ ha,g⟩
      exact⟨_,List.mem_append_right _ (List.mem_singleton.2 rfl),by dsimp only;omega,hx⟩
     by_cases h0:rspL n l k=[]
     · rw[h0]at plain⊢
       exact plain
     obtain⟨K,q,hK⟩:∃K z,rspL n l k=K++[z]:=⟨_,_,(List.dropLast_concat_getLast h0).symm⟩;by_cases hq:q.t=(l[k]).tm/\yX q.s s=true
     · rw[hK]at h1 h2 h3 h4 h5⊢
       rw[Jv K q _ _ s hq.1 hq.2];have hqi:=h3 q (by simp);have hvw:=KC hq.2 (by rw[hqi,hsi]);have hq2:=h2 q (by simp);rw[List.pairwise_append]at h1;refine⟨?_,fun a ha=>?_,fun a ha=>?_,fun a ha x g1 g2=>?_,fun x hx hid=>?_⟩
       · rw[List.pairwise_append]
         refine⟨h1.1,List.pairwise_singleton _ _,fun a ha b hb=>?_⟩;rw[List.mem_singleton.1 hb];exact h1.2.2 a ha q (by simp)
       · rcases List.mem_append.1 ha with ha|ha
         · have:=h2 a (List.mem_append_left _ ha);omega
         rw[List.mem_singleton.1 ha];dsimp only;omega
       · rcases List.mem_append.1 ha with ha|ha
         · exact h3 a (List.mem_append_left _ ha)
         rw[List.mem_singleton.1 ha];exact hqi
       · rcases List.mem_append.1 ha with ha|ha
         · exact h4 a (List.mem_append_left _ ha) x g1 g2
         rw[List.mem_singleton.1 ha]at g1 g2⊢;dsimp only at g1 g2⊢;by_cases hxq:x<q.t;· exact h4 q (by simp) x g1 hxq
         refine⟨(hnew x (by omega) g2).trans hvw.symm,?_⟩;rw[hqi,<-hsi];exact hs0
       by_cases hxk:x<(l[k]).tm
       · obtain⟨a,ha,g1,g2⟩:=h5 x hxk hid
         rcases List.mem_append.1 ha with ha|ha;· exact⟨a,List.mem_append_left _ ha,g1,g2⟩
         rw[List.mem_singleton.1 ha]at g1 g2;exact⟨_,List.mem_append_right _ (List.mem_singleton.2 rfl),g1,by dsimp only;omega⟩
       exact⟨_,List.mem_append_right _ (List.mem_singleton.2 rfl),by dsimp only;omega,hx⟩
     rw[hK]at plain⊢;rw[Ju K q _ _ s hq];exact plain
theorem Nv {l:List Ev} (hr:yp l) (n:Int):SpOk n l (rspL n l l.length):=by have h:=X6 hr n l.length (Nat.le_refl _);rw[ES (Nat.le_refl _)]at h;exact⟨h.asc,h.ne,h.is,h.all⟩
theorem EZ {l:List Ev} (hr:yp l) (n:Int) (s:ByteArray) {S:List Sp} (h:SpOk n l S):vn (ql (fun a=>hasT s a.s) S)=actL n s l:=by obtain⟨h1,h2⟩:=Qf h (hasT s) (YA s);exact Qz _ _ h1 (Yk hr n s) (fun x=>(h2 x).trans (QG hr n s x).symm)
end Go.Proofs.YtngippiilgdnoaaGreat
