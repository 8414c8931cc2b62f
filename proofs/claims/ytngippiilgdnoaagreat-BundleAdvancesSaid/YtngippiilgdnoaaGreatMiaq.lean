/-
  The reference's spells of a subscription, plainly: they are what spells are.
-/
import Derived.Test.YtngippiilgdnoaaGreatMiap
import Derived.Test.YtngippiilgdnoaaGreatMiak
set_option maxRecDepth 100000
set_option maxHeartbeats 25600000
namespace Go.Proofs.YtngippiilgdnoaaGreat
def Yb:Sb:=⟨0,0,0,⟨#[]⟩,[],[],false,false⟩
def yV (s:Sb) (e:Ev):Sb:=
 if e.kd=3 then ⟨e.sb,e.ac,e.tm,e.nm,[],[],false,false⟩
 else if e.kd=4 then Yb
 else if e.kd=7 then { s with plan:=e.nm }
 else if e.kd=8 then { s with prs:=vI s.prs e.nm }
 else if e.kd=9 then { s with prs:=yw s.prs e.nm }
 else if e.kd=10\/e.kd=11 then { s with su:=decide (e.kd=10) }
 else if e.kd=12\/e.kd=13 then { s with fa:=decide (e.kd=12) }
 else s
def uz (n:Int) (l:List Ev):Sb:=l.foldl (fun s e=>if e.sb=n then yV s e else s) Yb
theorem QE (n:Int) (l:List Ev) (e:Ev):uz n (l++[e])=if e.sb=n then yV (uz n l) e else uz n l:=by unfold uz;rw[List.foldl_append];rfl
theorem QD (n:Int) (l:List Ev) (k:Nat) (h:k<l.length):uz n (l.take (k+1))=if (l[k]).sb=n then yV (uz n (l.take k)) l[k] else uz n (l.take k):=by rw[List.take_succ_eq_append_getElem h,QE]
def refS (b:Bk) (n:Int):Option Sb:=if zW b n<0\/vE b n=true then none else b.subs[(zW b n).toNat]?
def WQ (s:Sb):Sb:={ s with nus:=[] }
def toS:Option Sb->Sb
 |none=>Yb
 |some s=>WQ s
theorem Zk {α:Type} {p:α->Bool} {l:List α} (h:0<=ixOf p l):(ixOf p l).toNat<l.length/\∀g:(ixOf p l).toNat<l.length,p (l[(ixOf p l).toNat])=true:=by obtain⟨k,hk,e,h1,-⟩:=Yn h;rw[e];exact⟨hk,fun _=>h1⟩
theorem Yo {α:Type} {p:α->Bool} {l:List α} {x:α} (h:ixOf p l<0):ixOf p (l++[x])=if p x=true then (l.length:Int) else -1:=by
 have h1:=xV h;split
 · rename_i hp
   refine uO (k:=l.length) (by simp) ?_ (by simpa using hp);rw[List.take_append_of_le_length (Nat.le_refl _),List.take_of_length_le (Nat.le_refl _)];exact h1
 rename_i hp;refine Yp (k:=(l++[x]).length) (Nat.le_refl _) ?_;rw[List.take_of_length_le (Nat.le_refl _),List.any_append,h1];simpa using hp
theorem uW (s:Sb) (e:Ev):(yr s e).id=s.id:=by
 unfold yr
 repeat' split
 all_goals rfl
def xu (b:Bk):Prop:=∀m,vE b m=true->0<=zW b m
theorem ZZ {b:Bk} {e:Ev} (h1:e.kd=1\/e.kd=2\/14<=e.kd):(zX b e).subs=b.subs/\(zX b e).ended=b.ended:=by
 unfold zX;rcases h1 with h|h|h;· rw[if_pos h];exact⟨rfl,rfl⟩
 · rw[if_neg (by omega),if_pos h];exact⟨rfl,rfl⟩
 rw[if_neg (by omega),if_neg (by omega),if_neg (by omega),if_pos h];exact⟨rfl,rfl⟩
theorem Zq {b:Bk} {e:Ev} (h:e.kd=3):(zX b e).subs=b.subs++[⟨e.sb,e.ac,e.tm,e.nm,[],[],false,false⟩]/\(zX b e).ended=b.ended:=by unfold zX;rw[if_neg (by omega),if_neg (by omega),if_pos h];exact⟨rfl,rfl⟩
theorem uX {b:Bk} {e:Ev} (h1:4<=e.kd) (h2:e.kd<=13):(zX b e).subs=b.subs.modify (zW b e.sb).toNat (fun s=>yr s e)/\(zX b e).ended=if e.kd=4 then b.ended++[e.sb] else b.ended:=by unfold zX;rw[if_neg (by omega),if_neg (by omega),if_neg (by omega),if_neg (by omega)];exact⟨rfl,rfl⟩
theorem Qk {b b':Bk} (h1:b'.subs=b.subs) (h2:b'.ended=b.ended) (n:Int):refS b' n=refS b n/\zW b' n=zW b n/\vE b' n=vE b n:=by unfold refS zW vE;rw[h1,h2];exact⟨rfl,rfl,rfl⟩
theorem Jp (s:Sb) (e:Ev) (h1:5<=e.kd) (h2:e.kd<=13):WQ (yr s e)=yV (WQ s) e:=by
 unfold yr yV WQ;have h:e.kd=5\/e.kd=6\/e.kd=7\/e.kd=8\/e.kd=9\/e.kd=10\/e.kd=11\/e.kd=12\/e.kd=13:=by omega
 rcases h with h|h|h|h|h|h|h|h|h<;>simp[h]
theorem Qt {e:Ev} (s:Sb) (h:e.kd=1\/e.kd=2\/14<=e.kd):yV s e=s:=by unfold yV;rw[if_neg (by omega),if_neg (by omega),if_neg (by omega),if_neg (by omega),if_neg (by omega),if_neg (by omega),if_neg (by omega)]
theorem gh {b:Bk} {last:Int} {e:Ev} (hok:OkEv b last e) (h:e.sb=0) (s:Sb):yV s e=s:=by
 have hk1:=hok.k1;have hk2:=hok.k2;refine Qt s ?_;cases hu:qN e.kd with
 |true=>have:=hok.s1 hu;omega
 |false=>unfold qN at hu;simp at hu;omega
theorem ET {b:Bk} {last:Int} {e:Ev} (hok:OkEv b last e) (hE:xu b) (n:Int):
 xu (zX b e)/\toS (refS (zX b e) n)=(if e.sb=n then yV (toS (refS b n)) e else toS (refS b n)):=by
 have hk1:=hok.k1;have hk2:=hok.k2;by_cases c1:e.kd=1\/e.kd=2\/14<=e.kd
 · obtain⟨q1,q2⟩:=ZZ (b:=b) c1
   have hs:e.sb=0:=by
    refine hok.s0 ?_;have:e.kd=1\/e.kd=2\/e.kd=14\/e.kd=15:=by omega
    unfold qN;rcases this with h|h|h|h<;>simp[h]
   refine⟨fun m hm=>?_,?_⟩
   · obtain⟨-,g2,g3⟩:=Qk q1 q2 m
     rw[g2];rw[g3]at hm;exact hE m hm
   rw[(Qk q1 q2 n).1];split;· exact(Qt _ c1).symm
   rfl
 by_cases c2:e.kd=3
 · obtain⟨q1,q2⟩:=Zq (b:=b) c2
   have hadd:=hok.add c2;have hend:∀m,vE (zX b e) m=vE b m:=fun m=>by unfold vE;rw[q2]
   have hix:∀m,0<=zW b m->zW (zX b e) m=zW b m:=fun m h=>by unfold zW at h⊢;rw[q1];exact uP _ h
   have hix2:∀m,zW b m<0->zW (zX b e) m=if decide (e.sb=m)=true then (b.subs.length:Int) else -1:=fun m h=>by
    unfold zW at h⊢;rw[q1];exact Yo h
   refine⟨fun m hm=>?_,?_⟩
   · rw[hend]at hm
     rw[hix m (hE m hm)];exact hE m hm
   by_cases hen:e.sb=n
   · subst hen
     rw[if_pos rfl];have h0:vE b e.sb=false:=by
      cases hq:vE b e.sb with
      |false=>rfl
      |true=>have:=hE _ hq;omega
     have e1:zW (zX b e) e.sb=(b.subs.length:Int):=by rw[hix2 _ hadd,if_pos (by simp)]
     unfold refS;rw[if_neg (by rw[e1,hend,h0];simp),if_pos (Or.inl hadd),e1,q1,Int.toNat_natCast,List.getElem?_concat_length];unfold yV;rw[if_pos c2];rfl
   rw[if_neg hen];by_cases hb:zW b n<0
   · unfold refS
     rw[if_pos (Or.inl hb),if_pos (Or.inl (by rw[hix2 n hb,if_neg (by simpa using hen)];decide))]
   have hb':0<=zW b n:=by omega
   have hlt:(zW b n).toNat<b.subs.length:=(Zk (p:=fun s:Sb=>decide (s.id=n)) (l:=b.subs) hb').1;unfold refS;rw[hix n hb',hend,q1];split;· rfl
   rw[List.getElem?_append_left hlt]
 have d1:4<=e.kd:=by omega
 have d2:e.kd<=13:=by omega
 obtain⟨q1,q2⟩:=uX (b:=b) d1 d2;have hua:vU e.kd=false:=by
  unfold vU;have:e.kd≠1/\e.kd≠2/\e.kd≠3/\e.kd≠14/\e.kd≠15:=by omega
  simp[this]
 obtain⟨hs1,hs2⟩:=hok.sub hua;have hix:∀m,zW (zX b e) m=zW b m:=fun m=>by
  unfold zW;rw[q1];exact uN (fun a=>by rw[uW]) _ _
 have hend:∀m,vE (zX b e) m=(vE b m||(decide (e.kd=4)&&decide (e.sb=m))):=fun m=>by
  unfold vE;rw[q2];split;· rename_i h;rw[List.any_append];simp[h]
  rename_i h;simp[h]
 refine⟨fun m hm=>?_,?_⟩
 · rw[hix]
   rw[hend,Bool.or_eq_true,Bool.and_eq_true,decide_eq_true_eq,decide_eq_true_eq]at hm;rcases hm with hm|⟨-,hm⟩;· exact hE m hm
   rw[<-hm];exact hs1
 by_cases hen:e.sb=n
 · subst hen
   rw[if_pos rfl];have hlt:(zW b e.sb).toNat<b.subs.length:=(Zk (p:=fun s:Sb=>decide (s.id=e.sb)) (l:=b.subs) hs1).1;have e5:b.subs[(zW b e.sb).toNat]?=some b.subs[(zW b e.sb).toNat]:=List.getElem?_eq_getElem hlt;have e1:refS b e.sb=b.subs[(zW b e.sb).toNat]?:=by unfold refS;rw[if_neg (by rw[hs2];simp;omega)]
   rw[e1,e5];by_cases c4:e.kd=4
   · unfold refS
     rw[if_pos (Or.inr (by rw[hend,c4];simp))];unfold yV;rw[if_neg (by omega),if_pos c4];rfl
   unfold refS;rw[if_neg (by rw[hix,hend,hs2];simp[c4];omega),hix,q1,List.getElem?_modify,e5];simp only[if_true,Option.map_eq_map,Option.map_some];exact Jp _ e (by omega) d2
 rw[if_neg hen];unfold refS;rw[hix,hend,q1];by_cases hb:zW b n<0;· rw[if_pos (Or.inl hb),if_pos (Or.inl hb)]
 have hb':0<=zW b n:=by omega
 have hne:(zW b e.sb).toNat≠(zW b n).toNat:=fun h=>by
  have g1:=Zk (p:=fun s:Sb=>decide (s.id=e.sb)) (l:=b.subs) hs1;have g2:=Zk (p:=fun s:Sb=>decide (s.id=n)) (l:=b.subs) hb';have p1:=g1.2 g1.1;have p2:=g2.2 g2.1;have hh:ixOf (fun s:Sb=>decide (s.id=e.sb)) b.subs=ixOf (fun s:Sb=>decide (s.id=n)) b.subs:=by unfold zW at h hb' hs1;omega
  simp only[hh]at p1;rw[decide_eq_true_eq]at p1 p2;exact hen (p1.symm.trans p2)
 have e4:decide (e.sb=n)=false:=decide_eq_false hen;rw[e4,Bool.and_false,Bool.or_false,List.getElem?_modify];simp only[hne,if_false];cases b.subs[(zW b n).toNat]?<;>rfl
theorem WZ {l:List Ev} (hr:yB l) (n:Int):∀k,k<=l.length->xu (zZ (l.take k))/\toS (refS (zZ (l.take k)) n)=uz n (l.take k)
 |0,_=>by
   rw[List.take_zero];refine⟨fun m hm=>(by cases hm),?_⟩;unfold refS;rw[if_pos (Or.inl (show zW (zZ []) n<0 by unfold zW zZ ixOf;simp))];rfl
 |k+1,hk=>by
   obtain⟨h1,h2⟩:=WZ hr n k (by omega);obtain⟨g1,g2⟩:=ET (hr k (by omega)) h1 n;rw[vZ l k (by omega),QD n l k (by omega)];refine⟨g1,?_⟩;rw[g2,h2]
theorem xK {b:Bk} {n:Int} {q:Sb} (h:refS b n=some q):q.id=n:=by
 unfold refS at h;split at h;· cases h
 rename_i hc;have hb:0<=zW b n:=by have:¬zW b n<0:=fun h=>hc (Or.inl h);omega
 have hlt:=Zk (p:=fun s:Sb=>decide (s.id=n)) (l:=b.subs) hb;rw[show b.subs[(zW b n).toNat]?=some (b.subs[(zW b n).toNat]'hlt.1)from List.getElem?_eq_getElem hlt.1]at h;have:=hlt.2 hlt.1;rw[decide_eq_true_eq]at this;cases h;exact this
theorem qA {l:List Ev} (hr:yB l):∀i j (hi:i<l.length) (hj:j<l.length),i<=j->(l[i]).tm<=(l[j]).tm:=by
 intro i j hi hj hij;induction j with
 | zero => obtain rfl : i = 0 := by omega
           exact Int.le_refl _
 |succ j ih=>
   by_cases h:i=j+1;· subst h;exact Int.le_refl _
   have h1:=ih (by omega) (by omega);have h2:=(hr (j+1) hj).t2;have e1:jK l (j+1)=(l[j]'(by omega)).tm:=by show(l.getD j default).tm=_;simp[List.getD,show j<l.length by omega]
   rw[e1]at h2;omega
def yM (l:List Ev) (t:Int):List Ev:=l.filter fun e=>decide (e.tm<=t)
theorem Yc:∀(l:List Ev),(∀i j (hi:i<l.length) (hj:j<l.length),i<=j->(l[i]).tm<=(l[j]).tm)->∀t,yM l t=l.take (yM l t).length
 | [],_,_=>rfl
 |e::r,h,t=>by
   have ih:=Yc r (fun i j hi hj hij=>h (i+1) (j+1) (by simpa using hi) (by simpa using hj) (by omega)) t;unfold yM at ih⊢;by_cases he:e.tm<=t;· rw[List.filter_cons_of_pos (by simpa using he),List.length_cons,List.take_succ_cons,<-ih]
   have:r.filter (fun e=>decide (e.tm<=t))=[]:=by rw[List.filter_eq_nil_iff];intro x hx;obtain⟨j,hj,rfl⟩:=List.mem_iff_getElem.1 hx;have:=h 0 (j+1) (by simp) (by simpa using hj) (by omega);simp only[List.getElem_cons_zero,List.getElem_cons_succ]at this;simp;omega
   rw[List.filter_cons_of_neg (by simpa using he),this];rfl
theorem Zd {l:List Ev} (hr:yB l) (t:Int):yM l t=l.take (yM l t).length/\(yM l t).length<=l.length:=
 ⟨Yc l (qA hr) t,List.length_filter_le _ _⟩
def stAt (n:Int) (l:List Ev) (t:Int):Sb:=uz n (yM l t)
theorem GN {l:List Ev} (hr:yB l) (n:Int) (t:Int):stAt n l t=toS (refS (zZ (yM l t)) n):=by obtain⟨h1,h2⟩:=Zd hr t;unfold stAt;rw[h1];exact((WZ hr n _ h2).2).symm
theorem YM {n:Int} {l:List Ev} (h:∀i j (hi:i<l.length) (hj:j<l.length),i<=j->(l[i]).tm<=(l[j]).tm) (k:Nat) (hk:k<l.length) (t:Int):
 stAt n (l.take (k+1)) t=if (l[k]).sb=n/\(l[k]).tm<=t then yV (uz n (l.take k)) l[k] else stAt n (l.take k) t:=by
 unfold stAt yM;rw[List.take_succ_eq_append_getElem hk,List.filter_append];by_cases ht:(l[k]).tm<=t
 · have e1:([l[k]].filter fun e=>decide (e.tm<=t))=[l[k]]:=by simp[ht]
   have e2:((l.take k).filter fun e=>decide (e.tm<=t))=l.take k:=by
    rw[List.filter_eq_self];intro x hx;obtain⟨j,hj,rfl⟩:=List.mem_take_iff_getElem.1 hx;have:=h j k (by omega) hk (by omega)
    simp;omega
   rw[e1,e2,QE];by_cases hs:(l[k]).sb=n;· rw[if_pos hs,if_pos ⟨hs,ht⟩]
   rw[if_neg hs,if_neg (fun h=>hs h.1)]
 have e1:([l[k]].filter fun e=>decide (e.tm<=t))=[]:=by simp;omega
 rw[e1,List.append_nil,if_neg (fun h=>ht h.2)]
def valF (M:List (Int×Sb)) (x:Int):Sb:=M.foldl (fun v p=>if p.1<=x then p.2 else v) Yb
theorem ql (M:List (Int×Sb)) (p:Int×Sb) (x:Int):valF (M++[p]) x=if p.1<=x then p.2 else valF M x:=by unfold valF;rw[List.foldl_append];rfl
def putM (M:List (Int×Sb)) (t:Int) (s:Sb):List (Int×Sb):=match M.getLast? with
 |some q=>if q.1=t then M.dropLast++[(t,s)] else M++[(t,s)]
 |none=>[(t,s)]
theorem EW (t:Int) (s:Sb):putM [] t s=[(t,s)]:=rfl
theorem W4 (M:List (Int×Sb)) (q s:Sb) (t:Int):putM (M++[(t,q)]) t s=M++[(t,s)]:=by unfold putM;simp
theorem W0 (M:List (Int×Sb)) (q:Int×Sb) (t:Int) (s:Sb) (h:q.1≠t):putM (M++[q]) t s=M++[q]++[(t,s)]:=by unfold putM;simp[h]
def uo (n:Int) (st:List (Int×Sb)×Sb) (e:Ev):List (Int×Sb)×Sb:=if n=0\/e.sb≠n then st else (putM st.1 e.tm (yV st.2 e),yV st.2 e)
def momF (n:Int) (l:List Ev):List (Int×Sb)×Sb:=l.foldl (uo n) ([],Yb)
theorem kY (n:Int) (l:List Ev) (k:Nat) (h:k<l.length):momF n (l.take (k+1))=uo n (momF n (l.take k)) l[k]:=by unfold momF;rw[List.take_succ_eq_append_getElem h,List.foldl_append];rfl
theorem um {n:Int} {st:List (Int×Sb)×Sb} {e:Ev} (h:n=0\/e.sb≠n):uo n st e=st:=if_pos h
theorem Vu {n:Int} {st:List (Int×Sb)×Sb} {e:Ev} (h1:n≠0) (h2:e.sb=n):uo n st e=(putM st.1 e.tm (yV st.2 e),yV st.2 e):=if_neg (by simp[h1,h2])
theorem EX (M:List (Int×Sb)) (t:Int) (s:Sb):(putM M t s).length<=M.length+1:=by
 unfold putM;split
 · split
   iterate 2
    · simp
 simp
theorem Qu (n:Int) (l:List Ev) (k:Nat) (hk:k<=l.length):(momF n (l.take k)).1.length<=k:=by
 induction k with
 |zero=>simp[momF]
 |succ k ih=>
   rw[kY n l k (by omega)];unfold uo;split;· have:=ih (by omega);omega
   have:=ih (by omega);have:=EX (momF n (l.take k)).1 (l[k]'(by omega)).tm (yV (momF n (l.take k)).2 (l[k]'(by omega)));dsimp only;omega
def AscM (M:List (Int×Sb)):Prop:=M.Pairwise (fun a b=>a.1<b.1)
theorem ud (M:List (Int×Sb)) (p:Int×Sb):AscM (M++[p])↔AscM M/\∀q∈M,q.1<p.1:=by unfold AscM;rw[List.pairwise_append];simp
theorem EY (M:List (Int×Sb)) (t:Int) (s:Sb) (hM:AscM M) (hq:∀q∈M,q.1<=t):
 AscM (putM M t s)/\(∀q∈putM M t s,q.1=t\/q∈M)/\∀x,valF (putM M t s) x=if t<=x then s else valF M x:=by
 by_cases h:M=[]
 · subst h
   rw[EW];exact⟨List.pairwise_singleton _ _,fun q hq=>Or.inl (by rw[List.mem_singleton.1 hq]),fun x=>ql [] (t,s) x⟩
 obtain⟨K,⟨u,q⟩,rfl⟩:∃K z,M=K++[z]:=⟨_,_,(List.dropLast_concat_getLast h).symm⟩;obtain⟨c1,c2⟩:=(ud K (u,q)).1 hM;by_cases hz:u=t
 · subst hz
   rw[W4];refine⟨(ud K (u,s)).2 ⟨c1,c2⟩,fun p hp=>?_,fun x=>?_⟩
   · rcases List.mem_append.1 hp with hp|hp
     · exact Or.inr (List.mem_append_left _ hp)
     rw[List.mem_singleton.1 hp];exact Or.inl rfl
   rw[ql,ql];dsimp only;split<;>rfl
 rw[W0 K (u,q) t s hz];refine⟨(ud _ (t,s)).2 ⟨hM,fun p hp=>?_⟩,fun p hp=>?_,fun x=>ql _ _ x⟩
 · have:=hq p hp
   rcases List.mem_append.1 hp with hp'|hp'
   · have:=c2 p hp'
     have:=hq (u,q) (by simp);dsimp only at *;omega
   rw[List.mem_singleton.1 hp']at this⊢;dsimp only at *;omega
 rcases List.mem_append.1 hp with hp|hp;· exact Or.inr hp
 rw[List.mem_singleton.1 hp];exact Or.inl rfl
theorem UW {l:List Ev} (hr:yB l) (n:Int):∀k,k<=l.length->
 AscM (momF n (l.take k)).1/\(∀q∈(momF n (l.take k)).1,∃i,∃hi:i<l.length,i<k/\q.1=(l[i]).tm)/\(∀x,valF (momF n (l.take k)).1 x=stAt n (l.take k) x)/\(momF n (l.take k)).2=uz n (l.take k)
 |0,_=>by
   rw[List.take_zero];exact⟨List.Pairwise.nil,fun q hq=>(by cases hq),fun x=>rfl,rfl⟩
 |k+1,hk=>by
   obtain⟨h1,h2,h3,h4⟩:=UW hr n k (by omega);have h:=qA hr;rw[kY n l k (by omega),QD n l k (by omega)];by_cases hn:n=0
   · subst hn
     rw[um (Or.inl rfl)];have hz:=gh (hr k (by omega));refine⟨h1,fun q hq=>?_,fun x=>?_,?_⟩
     · obtain⟨i,hi,hik,e⟩:=h2 q hq
       exact⟨i,hi,by omega,e⟩
     · rw[h3,YM h k (by omega)]
       split
       · rename_i hc
         rw[hz hc.1];unfold stAt;have e2:yM (l.take k) x=l.take k:=by
          unfold yM;rw[List.filter_eq_self];intro y hy;obtain⟨j,hj,rfl⟩:=List.mem_take_iff_getElem.1 hy;have:=h j k (by omega) (by omega) (by omega)
          simp;omega
         rw[e2]
       rfl
     rw[h4];split
     · rename_i hc
       rw[hz hc]
     rfl
   by_cases hs:(l[k]'(by omega)).sb=n
   · rw[Vu hn hs,if_pos hs]
     have hq:∀q∈(momF n (l.take k)).1,q.1<=(l[k]'(by omega)).tm:=fun q hq=>by
      obtain⟨i,hi,hik,e⟩:=h2 q hq;rw[e];exact h i k hi (by omega) (by omega)
     obtain⟨g1,g2,g3⟩:=EY _ (l[k]'(by omega)).tm (yV (momF n (l.take k)).2 (l[k]'(by omega))) h1 hq;refine⟨g1,fun q hq=>?_,fun x=>?_,by rw[h4]⟩
     · rcases g2 q hq with e|hq
       · exact⟨k,by omega,by omega,e⟩
       obtain⟨i,hi,hik,e⟩:=h2 q hq;exact⟨i,hi,by omega,e⟩
     rw[g3,YM h k (by omega),h3,h4];by_cases hx:(l[k]'(by omega)).tm<=x;· rw[if_pos hx,if_pos ⟨hs,hx⟩]
     rw[if_neg hx,if_neg (fun h=>hx h.2)]
   rw[um (Or.inr hs),if_neg hs];refine⟨h1,fun q hq=>?_,fun x=>?_,h4⟩
   · obtain⟨i,hi,hik,e⟩:=h2 q hq
     exact⟨i,hi,by omega,e⟩
   rw[h3,YM h k (by omega),if_neg (fun h=>hs h.1)]
def qK (a b:List ByteArray):Bool:=decide (a.length=b.length)&&(a.zip b).all fun p=>ye p.1 p.2
theorem jU:∀(a b:List ByteArray),qK a b=true↔a=b
 | [],[]=>by simp[qK]
 | [],_::_=>by simp[qK]
 |_::_,[]=>by simp[qK]
 |x::a,y::b=>by
   have ih:=jU a b;unfold qK at ih⊢;rw[Bool.and_eq_true,decide_eq_true_eq]at ih;rw[List.zip_cons_cons,List.all_cons,Bool.and_eq_true,Bool.and_eq_true,decide_eq_true_eq,zH,List.cons.injEq,<-ih,List.length_cons,List.length_cons];constructor;· rintro⟨h1,h2,h3⟩;exact⟨h2,by omega,h3⟩
   rintro⟨h1,h2,h3⟩;exact⟨by omega,h1,h3⟩
def view (s:Sb):Sb:={ s with ac:=0,si:=0,nus:=[] }
def vT (a b:Sb):Bool:=decide (a.id=b.id)&&ye a.plan b.plan&&(a.su==b.su)&&(a.fa==b.fa)&&qK a.prs b.prs
theorem Z8 (a b:Sb):vT a b=true↔view a=view b:=by
 unfold vT view;obtain⟨a1,a2,a3,a4,a5,a6,a7,a8⟩:=a;obtain⟨b1,b2,b3,b4,b5,b6,b7,b8⟩:=b;simp only[Bool.and_eq_true,decide_eq_true_eq,zH,jU,beq_iff_eq,Sb.mk.injEq];constructor;· rintro⟨⟨⟨⟨h1,h2⟩,h3⟩,h4⟩,h5⟩;exact⟨h1,trivial,trivial,h2,trivial,h5,h3,h4⟩
 rintro⟨h1,-,-,h2,-,h5,h3,h4⟩;exact⟨⟨⟨⟨h1,h2⟩,h3⟩,h4⟩,h5⟩
theorem VJ {a b:Sb} (h:view a=view b):a.id=b.id/\a.prs=b.prs/\a.su=b.su/\a.fa=b.fa/\a.plan=b.plan:=
 ⟨congrArg (·.id) h,congrArg (·.prs) h,congrArg (·.su) h,congrArg (·.fa) h,congrArg (·.plan) h⟩
def jW (O:List (Int×Sb)) (p:Int×Sb):List (Int×Sb):=match O.getLast? with
 |some q=>if vT q.2 p.2=true then O else O++[p]
 |none=>[p]
theorem Wi (p:Int×Sb):jW [] p=[p]:=rfl
theorem Ka (K:List (Int×Sb)) (q p:Int×Sb) (h:vT q.2 p.2=true):jW (K++[q]) p=K++[q]:=by unfold jW;simp[h]
theorem J9 (K:List (Int×Sb)) (q p:Int×Sb) (h:vT q.2 p.2=false):jW (K++[q]) p=K++[q]++[p]:=by unfold jW;simp[h]
def jmL (M:List (Int×Sb)):List (Int×Sb):=M.foldl jW []
theorem Nj (M:List (Int×Sb)) (p:Int×Sb):jmL (M++[p])=jW (jmL M) p:=by unfold jmL;rw[List.foldl_append];rfl
theorem Ym (M:List (Int×Sb)) (k:Nat) (h:k<M.length):jmL (M.take (k+1))=jW (jmL (M.take k)) M[k]:=by rw[List.take_succ_eq_append_getElem h,Nj]
theorem Wj (O:List (Int×Sb)) (p:Int×Sb):(jW O p).length<=O.length+1:=by
 unfold jW;split
 · split
   · omega
   simp
 simp
theorem KX (M:List (Int×Sb)) (k:Nat) (hk:k<=M.length):(jmL (M.take k)).length<=k:=by
 induction k with
 |zero=>simp[jmL]
 |succ k ih=>rw[Ym M k (by omega)];have:=ih (by omega);have:=Wj (jmL (M.take k)) (M[k]'(by omega));omega
theorem Ge (M:List (Int×Sb)) (hM:AscM M):∀k,k<=M.length->AscM (jmL (M.take k))/\(∀q∈jmL (M.take k),q∈M.take k)/\∀x,view (valF (jmL (M.take k)) x)=view (valF (M.take k) x)
 |0,_=>by
   rw[List.take_zero];exact⟨List.Pairwise.nil,fun q hq=>(by cases hq),fun x=>rfl⟩
 |k+1,hk=>by
   obtain⟨h1,h2,h3⟩:=Ge M hM k (by omega);have hlt:∀q∈M.take k,q.1<(M[k]'(by omega)).1:=fun q hq=>by
    obtain⟨j,hj,rfl⟩:=List.mem_take_iff_getElem.1 hq;exact List.pairwise_iff_getElem.1 hM j k (by omega) (by omega) (by omega)
   rw[Ym M k (by omega),List.take_succ_eq_append_getElem (by omega)];generalize M[k]'(by omega)=p at hlt⊢;by_cases h:jmL (M.take k)=[]
   · rw[h]at h3⊢
     rw[Wi];refine⟨List.pairwise_singleton _ _,fun q hq=>by rw[List.mem_singleton.1 hq];simp,fun x=>?_⟩;rw[ql,show valF [p] x=if p.1<=x then p.2 else Yb from rfl];split;· rfl
     exact h3 x
   obtain⟨K,q,hK⟩:∃K z,jmL (M.take k)=K++[z]:=⟨_,_,(List.dropLast_concat_getLast h).symm⟩;rw[hK]at h1 h2 h3⊢;cases ha:vT q.2 p.2 with
   |true=>
     rw[Ka K q p ha];refine⟨h1,fun z hz=>List.mem_append_left _ (h2 z hz),fun x=>?_⟩;have hq:=hlt q (h2 q (by simp));by_cases hx:p.1<=x
     · rw[ql K q x,if_pos (by omega),ql (M.take k) p x,if_pos hx]
       exact(Z8 _ _).1 ha
     rw[ql (M.take k) p x,if_neg hx];exact h3 x
   |false=>
     rw[J9 K q p ha];refine⟨(ud _ p).2 ⟨h1,fun z hz=>hlt z (h2 z hz)⟩,fun z hz=>?_,fun x=>?_⟩
     · rcases List.mem_append.1 hz with hz|hz
       · exact List.mem_append_left _ (h2 z hz)
       exact List.mem_append_right _ hz
     rw[ql (K++[q]) p x,ql (M.take k) p x];split;· rfl
     exact h3 x
theorem VZ (x:Int):∀(R:List (Int×Sb)) (v:Sb),(∀q∈R,x<q.1)->R.foldl (fun v p=>if p.1<=x then p.2 else v) v=v
 | [],_,_=>rfl
 |p::R,v,h=>by
   rw[List.foldl_cons,if_neg (by have:=h p List.mem_cons_self;omega)];exact VZ x R v (fun q hq=>h q (List.mem_cons_of_mem _ hq))
theorem WO {M:List (Int×Sb)} (hM:AscM M) {i:Nat} (hi:i<M.length) {x:Int} (h1:(M[i]).1<=x) (h2:∀h:i+1<M.length,x<(M[i+1]).1):valF M x=(M[i]).2:=by
 have e:M=M.take (i+1)++M.drop (i+1):=(List.take_append_drop _ _).symm;have hd:∀q∈M.drop (i+1),x<q.1:=fun q hq=>by
  obtain⟨j,hj,rfl⟩:=List.mem_iff_getElem.1 hq;rw[List.getElem_drop];rw[List.length_drop]at hj;have h3:=h2 (by omega);by_cases hj0:j=0;· subst hj0;exact h3
  have:=List.pairwise_iff_getElem.1 hM (i+1) (i+1+j) (by omega) (by omega) (by omega);omega
 have e2:valF M x=(M.drop (i+1)).foldl (fun v p=>if p.1<=x then p.2 else v) (valF (M.take (i+1)) x):=by
  conv=>lhs;rw[e]
  unfold valF;rw[List.foldl_append]
 rw[e2,VZ x _ _ hd,List.take_succ_eq_append_getElem hi,ql,if_pos h1]
theorem V1 (x:Int):∀(k:Nat) (M:List (Int×Sb)),M.length=k->AscM M->(∀q∈M,x<q.1)\/∃i,∃hi:i<M.length,(M[i]).1<=x/\∀h:i+1<M.length,x<(M[i+1]).1
 |0,M,hk,_=>Or.inl fun q hq=>by rw[List.length_eq_zero_iff.1 hk]at hq;cases hq
 |k+1,M,hk,hM=>by
   obtain⟨K,p,rfl⟩:∃K z,M=K++[z]:=⟨_,_,(List.dropLast_concat_getLast (l:=M) (by rintro rfl;cases hk)).symm⟩;rw[List.length_append,List.length_singleton]at hk;obtain⟨h1,h2⟩:=(ud K p).1 hM;by_cases hp:p.1<=x;· exact Or.inr ⟨K.length,by simp,by simpa using hp,fun h=>by simp at h⟩
   rcases V1 x k K (by omega) h1 with h|⟨i,hi,g1,g2⟩
   · refine Or.inl fun q hq=>?_
     rcases List.mem_append.1 hq with hq|hq;· exact h q hq
     rw[List.mem_singleton.1 hq];omega
   refine Or.inr ⟨i,by simp;omega,by rw[List.getElem_append_left hi];exact g1,fun h=>?_⟩;by_cases hl:i+1<K.length;· rw[List.getElem_append_left hl];exact g2 hl
   rw[List.getElem_append_right (by omega)];simp;omega
structure Sp where
 f:Int
 t:Int
 s:Sb
def je (L:List (Int×Sb)) (i:Nat):Int:=match L[i+1]? with
 |some q=>q.1
 |none=>12622780800
def JY (L:List (Int×Sb)) (i:Nat):List Sp:=match L[i]? with
 |some m=>if m.2.id=0 then [] else [⟨m.1,je L i,m.2⟩]
 |none=>[]
def qy (L:List (Int×Sb)) (k:Nat):List Sp:=(List.range k).flatMap (JY L)
theorem uF (L:List (Int×Sb)) (k:Nat):qy L (k+1)=qy L k++JY L k:=by unfold qy;rw[List.range_succ,List.flatMap_append];simp
theorem GO (L:List (Int×Sb)) (k:Nat):(JY L k).length<=1:=by
 unfold JY;split;· split<;>simp
 simp
theorem ZI (L:List (Int×Sb)):∀k,(qy L k).length<=k
 |0=>Nat.le_refl _
 |k+1=>by
   rw[uF,List.length_append];have:=ZI L k;have:=GO L k;omega
structure SpOk (n:Int) (l:List Ev) (S:List Sp):Prop where
 asc:S.Pairwise (fun a b=>a.t<=b.f)
 ne:∀a∈S,0<=a.f/\a.f<a.t/\a.t<=12622780800
 is:∀a∈S,∀x,a.f<=x->x<a.t->view (stAt n l x)=view a.s/\a.s.id≠0
 all:∀x,x<12622780800->(stAt n l x).id≠0->∃a∈S,a.f<=x/\x<a.t
theorem kX {L:List (Int×Sb)} {i:Nat} (h:i+1<L.length):je L i=(L[i+1]).1:=by unfold je;rw[List.getElem?_eq_getElem h]
theorem ZO {L:List (Int×Sb)} {i:Nat} (h:L.length<=i+1):je L i=12622780800:=by unfold je;rw[List.getElem?_eq_none h]
theorem uG {L:List (Int×Sb)} {i:Nat} (h:i<L.length):JY L i=if (L[i]).2.id=0 then [] else [⟨(L[i]).1,je L i,(L[i]).2⟩]:=by unfold JY;rw[List.getElem?_eq_getElem h]
theorem up {L:List (Int×Sb)} {k:Nat} (hk:k<=L.length) {a:Sp}:a∈qy L k↔∃i,∃h:i<k,(L[i]'(by omega)).2.id≠0/\a=⟨(L[i]'(by omega)).1,je L i,(L[i]'(by omega)).2⟩:=by
 unfold qy;rw[List.mem_flatMap];constructor
 · rintro⟨i,hi,ha⟩
   have hi:=List.mem_range.1 hi;rw[uG (by omega)]at ha;split at ha;· cases ha
   rename_i h;exact⟨i,hi,h,List.mem_singleton.1 ha⟩
 rintro⟨i,hi,h1,rfl⟩;exact⟨i,List.mem_range.2 hi,by rw[uG (by omega),if_neg h1];exact List.mem_singleton.2 rfl⟩
theorem XQ {l:List Ev} {n:Int} {L:List (Int×Sb)} (hA:AscM L) (hb:∀q∈L,0<=q.1/\q.1<12622780800) (hv:∀x,view (valF L x)=view (stAt n l x)):SpOk n l (qy L L.length):=by
 have hn:∀i (h:i<L.length),(L[i]).1<je L i/\je L i<=12622780800:=fun i h=>by
  by_cases h1:i+1<L.length
  · rw[kX h1]
    have:=List.pairwise_iff_getElem.1 hA i (i+1) h h1 (by omega);have:=hb _ (List.getElem_mem h1);omega
  rw[ZO (by omega)];have:=hb _ (List.getElem_mem h);omega
 refine⟨?_,fun a ha=>?_,fun a ha x h1 h2=>?_,fun x hx hid=>?_⟩
 · have:∀k,k<=L.length->(qy L k).Pairwise (fun a b=>a.t<=b.f):=by
    intro k;induction k with
    |zero=>intro _;exact List.Pairwise.nil
    |succ k ih=>
      intro hk;rw[uF,List.pairwise_append];refine⟨ih (by omega),?_,fun a ha b hb2=>?_⟩
      · rw[uG (by omega)]
        split;· exact List.Pairwise.nil
        exact List.pairwise_singleton _ _
      obtain⟨i,hi,-,rfl⟩:=(up (by omega)).1 ha;rw[uG (by omega)]at hb2;split at hb2;· cases hb2
      rw[List.mem_singleton.1 hb2,kX (by omega)];by_cases hik:i+1=k;· subst hik;exact Int.le_refl _
      exact Int.le_of_lt (List.pairwise_iff_getElem.1 hA (i+1) k (by omega) (by omega) (by omega))
   exact this _ (Nat.le_refl _)
 · obtain⟨i,hi,-,rfl⟩:=(up (Nat.le_refl _)).1 ha
   have:=hb _ (List.getElem_mem hi);exact⟨this.1,hn i hi⟩
 · obtain⟨i,hi,h3,rfl⟩:=(up (Nat.le_refl _)).1 ha
   dsimp only at h1 h2⊢;refine⟨?_,h3⟩;rw[<-hv,WO hA hi h1 (fun h=>by rw[kX h]at h2;exact h2)]
 rcases V1 x _ L rfl hA with h|⟨i,hi,g1,g2⟩
 · have h0:=VZ x L Yb h
   have:=(VJ (hv x)).1;rw[show valF L x=Yb from h0]at this;exact absurd this.symm hid
 refine⟨⟨(L[i]).1,je L i,(L[i]).2⟩,(up (Nat.le_refl _)).2 ⟨i,hi,?_,rfl⟩,g1,?_⟩
 · have:=(VJ (hv x)).1
   rw[WO hA hi g1 g2]at this;rw[this];exact hid
 show x<je L i;by_cases h1:i+1<L.length;· rw[kX h1];exact g2 h1
 rw[ZO (by omega)];exact hx
def kB (n:Int) (l:List Ev):List Sp:=qy (jmL (momF n l).1) (jmL (momF n l).1).length
theorem ZH {l:List Ev} (hr:yB l) (n:Int):SpOk n l (kB n l):=by obtain⟨h1,h2,h3,-⟩:=UW hr n l.length (Nat.le_refl _);rw[List.take_of_length_le (Nat.le_refl _)]at h1 h2 h3;obtain⟨g1,g2,g3⟩:=Ge _ h1 _ (Nat.le_refl _);rw[List.take_of_length_le (Nat.le_refl _)]at g1 g2 g3;refine XQ g1 (fun q hq=>?_) (fun x=>by rw[g3,h3]);obtain⟨i,hi,-,e⟩:=h2 q (g2 q hq);rw[e];exact⟨(hr i hi).t0,(hr i hi).t1⟩
theorem Ux (n:Int) (l:List Ev):(kB n l).length<=l.length:=by have h1:=ZI (jmL (momF n l).1) (jmL (momF n l).1).length;have h2:=KX (momF n l).1 _ (Nat.le_refl _);rw[List.take_of_length_le (Nat.le_refl _)]at h2;have h3:=Qu n l l.length (Nat.le_refl _);rw[List.take_of_length_le (Nat.le_refl _)]at h3;unfold kB;omega
def q7 (k:Sp->Bool) (S:List Sp):List (Int×Int):=(S.filter k).map fun a=>(a.f,a.t)
def vW (L:List (Int×Int)):List (Int×Int):=L.foldl (fun O p=>vF O p.1 p.2) []
theorem kp (L:List (Int×Int)) (k:Nat) (h:k<L.length):vW (L.take (k+1))=vF (vW (L.take k)) (L[k]).1 (L[k]).2:=by unfold vW;rw[List.take_succ_eq_append_getElem h,List.foldl_append];rfl
theorem J6 (L:List (Int×Int)) (k:Nat) (hk:k<=L.length):(vW (L.take k)).length<=k:=by
 induction k with
 |zero=>simp[vW]
 |succ k ih=>rw[kp L k (by omega)];have:=ih (by omega);have:=QY (vW (L.take k)) (L[k]'(by omega)).1 (L[k]'(by omega)).2;omega
theorem J7 (L:List (Int×Int)) (hL:L.Pairwise (fun a b=>a.2<=b.1)) (hn:∀p∈L,p.1<p.2):∀k,k<=L.length->
 Can (vW (L.take k))/\(∀h:k<L.length,∀q∈vW (L.take k),q.2<=(L[k]).1)/\∀x,MemP (vW (L.take k)) x↔MemP (L.take k) x
 |0,_=>by
   rw[List.take_zero];exact⟨trivial,fun _ q hq=>(by cases hq),fun x=>Iff.rfl⟩
 |k+1,hk=>by
   obtain⟨h1,h2,h3⟩:=J7 L hL hn k (by omega);have hp:=hn _ (List.getElem_mem (by omega:k<L.length));obtain⟨g1,g2,g3⟩:=QZ _ _ _ h1 hp (h2 (by omega));rw[kp L k (by omega)];refine⟨g1,fun h q hq=>?_,fun x=>?_⟩
   · have:=g2 q hq
     have:=List.pairwise_iff_getElem.1 hL k (k+1) (by omega) h (by omega);omega
   rw[g3,h3,List.take_succ_eq_append_getElem (by omega),j8]
def Held (P:Sb->Bool) (n:Int) (l:List Ev) (x:Int):Prop:=x<12622780800/\(stAt n l x).id≠0/\P (stAt n l x)=true
theorem QA {l:List Ev} {n:Int} {S:List Sp} (h:SpOk n l S) (P:Sb->Bool) (hP:∀a b,view a=view b->P a=P b):
 Can (vW (q7 (fun a=>P a.s) S))/\∀x,MemP (vW (q7 (fun a=>P a.s) S)) x↔Held P n l x:=by
 have hmem:∀p,p∈q7 (fun a=>P a.s) S↔∃a∈S,P a.s=true/\p=(a.f,a.t):=fun p=>by
  unfold q7;rw[List.mem_map];constructor
  · rintro⟨a,ha,rfl⟩
    obtain⟨h1,h2⟩:=List.mem_filter.1 ha;exact⟨a,h1,h2,rfl⟩
  rintro⟨a,h1,h2,rfl⟩;exact⟨a,List.mem_filter.2 ⟨h1,h2⟩,rfl⟩
 have hp:(q7 (fun a=>P a.s) S).Pairwise (fun a b=>a.2<=b.1):=by unfold q7;rw[List.pairwise_map];exact h.asc.filter _
 have hn:∀p∈q7 (fun a=>P a.s) S,p.1<p.2:=fun p hp=>by
  obtain⟨a,ha,-,rfl⟩:=(hmem p).1 hp;exact(h.ne a ha).2.1
 obtain⟨g1,-,g3⟩:=J7 _ hp hn _ (Nat.le_refl _);rw[List.take_of_length_le (Nat.le_refl _)]at g1 g3;refine⟨g1,fun x=>?_⟩;rw[g3];constructor
 · rintro⟨p,hp,h1,h2⟩
   obtain⟨a,ha,hPa,rfl⟩:=(hmem p).1 hp;obtain⟨e1,e2⟩:=h.is a ha x h1 h2;have hne:=h.ne a ha;dsimp only at h1 h2;exact⟨by omega,by rw[(VJ e1).1];exact e2,by rw[hP _ _ e1];exact hPa⟩
 rintro⟨h1,h2,h3⟩;obtain⟨a,ha,e1,e2⟩:=h.all x h1 h2;exact⟨(a.f,a.t),(hmem _).2 ⟨a,ha,by rw[<-hP _ _ (h.is a ha x e1 e2).1];exact h3,rfl⟩,e1,e2⟩
def hasT (s:ByteArray) (a:Sb):Bool:=a.prs.any fun x=>ye x s
theorem YY (s:ByteArray) (a b:Sb) (h:view a=view b):hasT s a=hasT s b:=by unfold hasT;rw[(VJ h).2.1]
def actL (n:Int) (s:ByteArray) (l:List Ev):List (Int×Int):=vW (q7 (fun a=>hasT s a.s) (kB n l))
theorem YE {l:List Ev} (hr:yB l) (n:Int) (s:ByteArray):Can (actL n s l):=(QA (ZH hr n) (hasT s) (YY s)).1
theorem Jb {l:List Ev} (hr:yB l) (n:Int) (s:ByteArray) (x:Int):MemP (actL n s l) x↔Held (hasT s) n l x:=(QA (ZH hr n) (hasT s) (YY s)).2 x
theorem J8 (L:List (Int×Int)) (P:Int×Int->Prop) (hP:∀a b,P a->P b->P (a.1,b.2)) (h:∀p∈L,P p):∀k,k<=L.length->∀q∈vW (L.take k),P q
 |0,_=>fun q hq=>by rw[List.take_zero]at hq;cases hq
 |k+1,hk=>by
   have ih:=J8 L P hP h k (by omega);rw[kp L k (by omega)];have hk':=h _ (List.getElem_mem (by omega:k<L.length));by_cases h0:vW (L.take k)=[]
   · rw[h0,jh]
     intro q hq;rw[List.mem_singleton.1 hq];exact hk'
   obtain⟨K,z,hK⟩:∃K z,vW (L.take k)=K++[z]:=⟨_,_,(List.dropLast_concat_getLast h0).symm⟩;rw[hK]at ih⊢;by_cases hz:z.2=(L[k]'(by omega)).1
   · rw[jH K z _ _ hz]
     intro q hq;rcases List.mem_append.1 hq with hq|hq;· exact ih q (List.mem_append_left _ hq)
     rw[List.mem_singleton.1 hq];exact hP _ _ (ih z (by simp)) hk'
   rw[jG K z _ _ hz];intro q hq;rcases List.mem_append.1 hq with hq|hq;· exact ih q hq
   rw[List.mem_singleton.1 hq];exact hk'
theorem Uk {l:List Ev} (hr:yB l) (n:Int) (s:ByteArray):∀q∈actL n s l,0<=q.1/\q.1<q.2/\q.2<=12622780800:=by
 have hok:=ZH hr n;have h1:=Xy (YE hr n s);have h2:=J8 (q7 (fun a=>hasT s a.s) (kB n l)) (fun q=>0<=q.1/\q.2<=12622780800) (fun a b ha hb=>⟨ha.1,hb.2⟩) (fun p hp=>by
  unfold q7 at hp;obtain⟨a,ha,rfl⟩:=List.mem_map.1 hp;have:=hok.ne a (List.mem_filter.1 ha).1;exact⟨this.1,this.2.2⟩) _ (Nat.le_refl _);rw[List.take_of_length_le (Nat.le_refl _)]at h2;intro q hq;exact⟨(h2 q hq).1,h1 q hq,(h2 q hq).2⟩
theorem Gi {l:List Ev} (hr:yB l):∀k,k<=l.length->∀s∈(zZ (l.take k)).subs,1<=s.id
 |0,_=>fun s hs=>by rw[List.take_zero]at hs;cases hs
 |k+1,hk=>by
   have ih:=Gi hr k (by omega);rw[vZ l k (by omega)];have hok:=hr k (by omega);generalize l[k]'(by omega)=e at hok⊢;have hk1:=hok.k1;have hk2:=hok.k2;by_cases c1:e.kd=1\/e.kd=2\/14<=e.kd;· rw[(ZZ c1).1];exact ih
   by_cases c2:e.kd=3
   · rw[(Zq c2).1]
     intro s hs;rcases List.mem_append.1 hs with hs|hs;· exact ih s hs
     rw[List.mem_singleton.1 hs];exact(hok.s1 (by rw[c2];rfl)).1
   rw[(uX (by omega) (by omega)).1];intro s hs;rcases ZP hs with hs|⟨y,hy,rfl⟩;· exact ih s hs
   rw[uW];exact ih y hy
theorem EU {b:Bk} {n:Int} {q:Sb} (h:refS b n=some q):q∈b.subs:=by
 unfold refS at h;split at h;· cases h
 exact List.mem_of_getElem? h
theorem z9a {l:List Ev} (hr:yB l) (t n:Int) {q:Sb} (h:refS (zZ (yM l t)) n=some q):q.id≠0:=by obtain⟨h1,h2⟩:=Zd hr t;rw[h1]at h;have:=Gi hr _ h2 q (EU h);omega
def toAt (l:List Ev) (i:Nat):Int:=match l[i+1]? with
 |some e=>e.tm
 |none=>12622780800
theorem Kz {l:List Ev} {i:Nat} (h:i+1<l.length):toAt l i=(l[i+1]).tm:=by unfold toAt;rw[List.getElem?_eq_getElem h]
theorem Us {l:List Ev} {i:Nat} (h:l.length<=i+1):toAt l i=12622780800:=by unfold toAt;rw[List.getElem?_eq_none h]
def vq (a b:Sb):Bool:=ye a.plan b.plan&&(a.su==b.su)&&(a.fa==b.fa)&&qK a.prs b.prs
theorem Uj {a b:Sb} (h:vq a b=true) (hi:a.id=b.id):view a=view b:=by rw[<-Z8];unfold vq at h;unfold vT;simp only[Bool.and_eq_true]at h⊢;exact⟨⟨⟨⟨decide_eq_true hi,h.1.1.1⟩,h.1.1.2⟩,h.1.2⟩,h.2⟩
def kk (O:List Sp) (f t:Int) (s:Sb):List Sp:=match O.getLast? with
 |some q=>if q.t=f/\vq q.s s=true then O.dropLast++[⟨q.f,t,q.s⟩] else O++[⟨f,t,s⟩]
 |none=>[⟨f,t,s⟩]
theorem J0 (K:List Sp) (q:Sp) (f t:Int) (s:Sb) (h1:q.t=f) (h2:vq q.s s=true):kk (K++[q]) f t s=K++[⟨q.f,t,q.s⟩]:=by unfold kk;simp[h1,h2]
theorem JZ (K:List Sp) (q:Sp) (f t:Int) (s:Sb) (h:¬(q.t=f/\vq q.s s=true)):kk (K++[q]) f t s=K++[q]++[⟨f,t,s⟩]:=by unfold kk;rw[List.getLast?_append,List.getLast?_singleton];simp only[Option.some_or];rw[if_neg h]
theorem XZ (O:List Sp) (f t:Int) (s:Sb):(kk O f t s).length<=O.length+1:=by
 unfold kk;split
 · split
   iterate 2
    · simp
 simp
def jJ (n:Int) (l:List Ev) (O:List Sp) (i:Nat):List Sp:=match l[i]? with
 |none=>O
 | some e=>if e.tm=toAt l i then O else match refS (zZ (yM l e.tm)) n with
   |none=>O
   |some s=>kk O e.tm (toAt l i) s
def rspL (n:Int) (l:List Ev) (k:Nat):List Sp:=(List.range k).foldl (jJ n l) []
theorem YQ (n:Int) (l:List Ev) (k:Nat):rspL n l (k+1)=jJ n l (rspL n l k) k:=by unfold rspL;rw[List.range_succ,List.foldl_append];rfl
theorem Qi (n:Int) (l:List Ev) (O:List Sp) (k:Nat) (h:k<l.length) (ht:(l[k]).tm=toAt l k):jJ n l O k=O:=by unfold jJ;rw[List.getElem?_eq_getElem h];dsimp only;rw[if_pos ht]
theorem Yg (n:Int) (l:List Ev) (O:List Sp) (k:Nat) (h:k<l.length) (hr:refS (zZ (yM l (l[k]).tm)) n=none):jJ n l O k=O:=by
 unfold jJ;rw[List.getElem?_eq_getElem h];dsimp only;split;· rfl
 rw[hr]
theorem KK (n:Int) (l:List Ev) (O:List Sp) (k:Nat) (h:k<l.length) (ht:(l[k]).tm≠toAt l k) {s:Sb} (hr:refS (zZ (yM l (l[k]).tm)) n=some s):jJ n l O k=kk O (l[k]).tm (toAt l k) s:=by unfold jJ;rw[List.getElem?_eq_getElem h];dsimp only;rw[if_neg ht,hr]
theorem Qj (n:Int) (l:List Ev):∀k,(rspL n l k).length<=k
 |0=>Nat.le_refl _
 |k+1=>by
   rw[YQ];have:=Qj n l k;unfold jJ;split;· omega
   split;· omega
   split;· omega
   rename_i e _ _ _ s _;have:=XZ (rspL n l k) e.tm (toAt l k) s;omega
structure SpTo (n:Int) (l:List Ev) (b:Int) (S:List Sp):Prop where
 asc:S.Pairwise (fun a b=>a.t<=b.f)
 ne:∀a∈S,0<=a.f/\a.f<a.t/\a.t<=b
 id:∀a∈S,a.s.id=n
 is:∀a∈S,∀x,a.f<=x->x<a.t->view (stAt n l x)=view a.s/\a.s.id≠0
 all:∀x,x<b->(stAt n l x).id≠0->∃a∈S,a.f<=x/\x<a.t
def bndE (l:List Ev) (k:Nat):Int:=match l[k]? with
 |some e=>e.tm
 |none=>12622780800
theorem Gu {l:List Ev} {k:Nat} (h:k<l.length):bndE l k=(l[k]).tm:=by unfold bndE;rw[List.getElem?_eq_getElem h]
theorem NZ {l:List Ev} {k:Nat} (h:l.length<=k):bndE l k=12622780800:=by unfold bndE;rw[List.getElem?_eq_none h]
theorem gv (l:List Ev) (k:Nat):bndE l (k+1)=toAt l k:=rfl
theorem GJ {l:List Ev} (hr:yB l) {k:Nat} (hk:k<l.length) {x:Int} (h1:(l[k]).tm<=x) (h2:x<toAt l k):yM l x=yM l (l[k]).tm:=by
 unfold yM;refine List.filter_congr fun e he=>?_;obtain⟨j,hj,rfl⟩:=List.mem_iff_getElem.1 he;by_cases hjk:j<=k
 · have:=qA hr j k hj hk hjk
   rw[decide_eq_true (by omega),decide_eq_true (by omega)]
 rw[Kz (by omega)]at h2;have:=qA hr (k+1) j (by omega) hj (by omega);rw[decide_eq_false (by omega),decide_eq_false (by omega)]
theorem WY {l:List Ev} (hr:yB l) (n:Int):∀k,k<=l.length->SpTo n l (bndE l k) (rspL n l k)
 |0,_=>by
   refine⟨List.Pairwise.nil,fun a ha=>(by cases ha),fun a ha=>(by cases ha),fun a ha=>(by cases ha),fun x hx hid=>?_⟩;exfalso;apply hid;unfold stAt;have:yM l x=[]:=by
    unfold yM;rw[List.filter_eq_nil_iff];intro e he;obtain⟨j,hj,rfl⟩:=List.mem_iff_getElem.1 he;rw[Gu (by omega)]at hx;have:=qA hr 0 j (by omega) hj (by omega)
    simp;omega
   rw[this];rfl
 |k+1,hk=>by
   have hk':k<l.length:=by omega
   obtain⟨h1,h2,h3,h4,h5⟩:=WY hr n k (by omega);rw[Gu hk']at h2 h5;have t0:=(hr k hk').t0;have t1:=(hr k hk').t1;have hle:(l[k]).tm<=toAt l k:=by
    by_cases h:k+1<l.length;· rw[Kz h];exact qA hr k (k+1) hk' h (by omega)
    rw[Us (by omega)];omega
   rw[YQ,gv];by_cases ht:(l[k]).tm=toAt l k
   · rw[Qi n l _ k hk' ht]
     exact⟨h1,by rw[<-ht];exact h2,h3,h4,by rw[<-ht];exact h5⟩
   have hst:∀x,(l[k]).tm<=x->x<toAt l k->stAt n l x=toS (refS (zZ (yM l (l[k]).tm)) n):=fun x g1 g2=>by
    rw[GN hr,GJ hr hk' g1 g2]
   cases hrf:refS (zZ (yM l (l[k]).tm)) n with
   |none=>
     rw[Yg n l _ k hk' hrf];refine⟨h1,fun a ha=>?_,h3,h4,fun x hx hid=>?_⟩;· have:=h2 a ha;omega
     by_cases hxk:x<(l[k]).tm;· exact h5 x hxk hid
     rw[hst x (by omega) hx,hrf]at hid;exact absurd rfl hid
   |some s=>
     rw[KK n l _ k hk' ht hrf];have hsi:=xK hrf;have hs0:=z9a hr _ _ hrf;have hnew:∀x,(l[k]).tm<=x->x<toAt l k->view (stAt n l x)=view s:=fun x g1 g2=>by
      rw[hst x g1 g2,hrf];rfl
     have plain:SpTo n l (toAt l k) (rspL n l k++[⟨(l[k]).tm,toAt l k,s⟩]):=by
      refine⟨?_,fun a ha=>?_,fun a ha=>?_,fun a ha x g1 g2=>?_,fun x hx hid=>?_⟩
      · rw[List.pairwise_append]
        refine⟨h1,List.pairwise_singleton _ _,fun a ha b hb=>?_⟩;rw[List.mem_singleton.1 hb];exact(h2 a ha).2.2
      · rcases List.mem_append.1 ha with ha|ha
        · have:=h2 a ha;omega
        rw[List.mem_singleton.1 ha];dsimp only;omega
      · rcases List.mem_append.1 ha with ha|ha
        · exact h3 a ha
        rw[List.mem_singleton.1 ha];exact hsi
      · rcases List.mem_append.1 ha with ha|ha
        · exact h4 a ha x g1 g2
        rw[List.mem_singleton.1 ha]at g1 g2⊢;exact⟨hnew x g1 g2,hs0⟩
      by_cases hxk:x<(l[k]).tm
      · obtain⟨a,ha,g⟩:=h5 x hxk hid
        exact⟨a,List.mem_append_left _ ha,g⟩
      exact⟨_,List.mem_append_right _ (List.mem_singleton.2 rfl),by dsimp only;omega,hx⟩
     by_cases h0:rspL n l k=[]
     · rw[h0]at plain⊢
       exact plain
     obtain⟨K,q,hK⟩:∃K z,rspL n l k=K++[z]:=⟨_,_,(List.dropLast_concat_getLast h0).symm⟩;by_cases hq:q.t=(l[k]).tm/\vq q.s s=true
     · rw[hK]at h1 h2 h3 h4 h5⊢
       rw[J0 K q _ _ s hq.1 hq.2];have hqi:=h3 q (by simp);have hvw:=Uj hq.2 (by rw[hqi,hsi]);have hq2:=h2 q (by simp);rw[List.pairwise_append]at h1;refine⟨?_,fun a ha=>?_,fun a ha=>?_,fun a ha x g1 g2=>?_,fun x hx hid=>?_⟩
       · rw[List.pairwise_append]
         refine⟨h1.1,List.pairwise_singleton _ _,fun a ha b hb=>?_⟩;rw[List.mem_singleton.1 hb];exact h1.2.2 a ha q (by simp)
       · rcases List.mem_append.1 ha with ha|ha
         · have:=h2 a (List.mem_append_left _ ha);omega
         rw[List.mem_singleton.1 ha];dsimp only;omega
       · rcases List.mem_append.1 ha with ha|ha
         · exact h3 a (List.mem_append_left _ ha)
         rw[List.mem_singleton.1 ha];exact hqi
       · rcases List.mem_append.1 ha with ha|ha
         · exact h4 a (List.mem_append_left _ ha) x g1 g2
         rw[List.mem_singleton.1 ha]at g1 g2⊢;dsimp only at g1 g2⊢;by_cases hxq:x<q.t;· exact h4 q (by simp) x g1 hxq
         refine⟨(hnew x (by omega) g2).trans hvw.symm,?_⟩;rw[hqi,<-hsi];exact hs0
       by_cases hxk:x<(l[k]).tm
       · obtain⟨a,ha,g1,g2⟩:=h5 x hxk hid
         rcases List.mem_append.1 ha with ha|ha;· exact⟨a,List.mem_append_left _ ha,g1,g2⟩
         rw[List.mem_singleton.1 ha]at g1 g2;exact⟨_,List.mem_append_right _ (List.mem_singleton.2 rfl),g1,by dsimp only;omega⟩
       exact⟨_,List.mem_append_right _ (List.mem_singleton.2 rfl),by dsimp only;omega,hx⟩
     rw[hK]at plain⊢;rw[JZ K q _ _ s hq];exact plain
theorem xJ {l:List Ev} (hr:yB l) (n:Int):SpOk n l (rspL n l l.length):=by have h:=WY hr n l.length (Nat.le_refl _);rw[NZ (Nat.le_refl _)]at h;exact⟨h.asc,h.ne,h.is,h.all⟩
theorem xf {l:List Ev} (hr:yB l) (n:Int) (s:ByteArray) {S:List Sp} (h:SpOk n l S):vW (q7 (fun a=>hasT s a.s) S)=actL n s l:=by obtain⟨h1,h2⟩:=QA h (hasT s) (YY s);exact Q1 _ _ h1 (YE hr n s) (fun x=>(h2 x).trans (Jb hr n s x).symm)
end Go.Proofs.YtngippiilgdnoaaGreat
