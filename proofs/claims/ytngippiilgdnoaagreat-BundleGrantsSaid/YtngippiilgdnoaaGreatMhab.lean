/-
  The walk of the reference's Valid of numbers.
-/
import Derived.Test.YtngippiilgdnoaaGreatMhaa
import Derived.Handy
import Derived.Lib.Bytealg
set_option maxRecDepth 100000
set_option maxHeartbeats 25600000
namespace Go.Proofs.YtngippiilgdnoaaGreat
open Go.RowKit
def Ug (c:UInt8):Bool:=decide (97<=(c.toNat:Int)/\(c.toNat:Int)<=122)
def qV (c:UInt8):Bool:=Ug c||decide (48<=(c.toNat:Int)/\(c.toNat:Int)<=57)||decide ((c.toNat:Int)=45)
def yT (s:ByteArray):Bool:=decide (0<s.size/\s.size<=24)&&Ug (s.data.toList.headD 0)&&s.data.toList.all qV
theorem Jq (s:ByteArray) (k:Nat) (h:k<s.size):(s.data.toList.take (k+1)).all qV=((s.data.toList.take k).all qV&&qV s[k]):=by rw[List.take_succ_eq_append_getElem (by simpa using h),List.all_append];simp only[List.all_cons,List.all_nil,Bool.and_true];rfl
theorem GH (s:ByteArray) (k:Nat) (h:k<s.size) (hs:qV s[k]=false):s.data.toList.all qV=false:=by rw[List.all_eq_false];exact⟨s[k],by have:s[k]=s.data.toList[k]'(by simpa using h):=rfl;rw[this];exact List.getElem_mem _,by rw[hs];decide⟩
theorem Gd (l:List UInt8) (h:0<l.length):l.headD 0=l[0]:=by
 cases l with
 |nil=>cases h
 |cons a r=>rfl
theorem NK (s:ByteArray) (h:0<s.size):s.data.toList.headD 0=s[0]:=Gd s.data.toList (by simpa using h)
theorem W6 (s:ByteArray) (h:0<s.size):s.toList.isEmpty=false:=by
 rw[Lib.toList_data];cases hl:s.data.toList with
 | nil => exfalso; have : s.data.toList.length = s.size := by simp
          rw[hl]at this;simp at this;omega
 |cons a t=>rfl
theorem UV {c:UInt8} (h:qV c=false):((c.toNat:Int)<97\/122<(c.toNat:Int))/\((c.toNat:Int)<48\/57<(c.toNat:Int))/\((c.toNat:Int) != 45)=true:=by unfold qV Ug at h;simp only[Bool.or_eq_false_iff,decide_eq_false_iff_not]at h;obtain⟨⟨h1,h2⟩,h3⟩:=h;exact⟨by omega,by omega,by rw[bne_iff_ne];exact h3⟩
theorem WP {c:UInt8} (h:qV c=true):(97<=(c.toNat:Int)/\(c.toNat:Int)<=122)\/(((c.toNat:Int)<97\/122<(c.toNat:Int))/\48<=(c.toNat:Int)/\(c.toNat:Int)<=57)\/(((c.toNat:Int)<97\/122<(c.toNat:Int))/\((c.toNat:Int)<48\/57<(c.toNat:Int))/\((c.toNat:Int) != 45)=false):=by unfold qV Ug at h;simp only[Bool.or_eq_true,decide_eq_true_eq]at h;rw[bne_eq_false_iff_eq];omega
theorem uq (s:ByteArray) (w:World) (hs:s.size<=maxLen):Calls Tryz.prog 119 #[.string s] w fun e w'=>e=.returned (.bool (yT s))/\w=w':=by
 unfold maxLen at hs;by_cases h0:0<s.size
 · have hne:=W6 s h0
   by_cases h24:s.size<=24
   · have hd:=NK s h0
     cases hl:Ug s[0]with
     |false=>
       have H:=zb (show yT s=false by unfold yT;rw[hd,hl];simp);have hc:(s[0].toNat:Int)<97\/(97<=(s[0].toNat:Int)/\122<(s[0].toNat:Int)):=by have:=of_decide_eq_false hl;omega
       clear hl hd;rcases hc with hc|hc;all_goals
        go_enter Tryz.func119,Tryz.ntmps119;go_wp2;go_ret;exact⟨zo H.out.symm,rfl⟩
     |true=>
       have H:=zb (show yT s=s.data.toList.all qV by unfold yT;rw[hd,hl,decide_eq_true ⟨h0,h24⟩];rfl);obtain⟨l1,l2⟩:=of_decide_eq_true hl;have H1:=zb (show(s.data.toList.take 0).all qV=true by rw[List.take_zero];rfl);clear hl hd;go_enter Tryz.func119,Tryz.ntmps119;go_wp2;go_loop [3] (fun i=>∃k:Nat,0<=k/\k<=s.size/\i=.int .i64 k/\(s.data.toList.take k).all qV=true) (fun i=>s.size-(intOf i).toNat);case atStart=>exact⟨0,Nat.le_refl _,by omega,rfl,H1.out⟩
       case round=>
        obtain⟨k,hk0,hk,rfl,ha⟩:=hrel;have Ha:=zb ha;clear ha;by_cases hlt:k<s.size
        · have hlt':(k:Int)<(s.size:Int):=by omega
          cases hg:qV s[k]with
          |false=>have HF:=zb (GH s k hlt hg);obtain⟨e1,e2,e3⟩:=UV hg;clear hg;rcases e1 with e1|e1<;>rcases e2 with e2|e2;all_goals first|(exfalso;omega)|(go_wp2;go_ret;exact⟨zo (by rw[H.out,HF.out]),rfl⟩)
          |true=>have HT:=zb (show(s.data.toList.take (k+1)).all qV=true by rw[Jq s k hlt,Ha.out,hg];rfl);have hs3:=WP hg;clear hg;rcases hs3 with⟨f1,f2⟩|⟨f1|f1,f2,f3⟩|⟨f1|f1,f2|f2,f3⟩;all_goals first|(exfalso;omega)|(go_wp2;exact⟨⟨k+1,by omega,by omega,by go_num,HT.out⟩,by simp[intOf];omega⟩)
        go_wp2;go_ret;exact⟨zo (by rw[H.out,<-Ha.out,List.take_of_length_le (by simp;omega)]),rfl⟩
   have H:=zb (show yT s=false by unfold yT;rw[decide_eq_false (by omega)];rfl);go_enter Tryz.func119,Tryz.ntmps119;go_wp2;go_ret;exact⟨zo H.out.symm,rfl⟩
 have H:=zb (show yT s=false by unfold yT;rw[decide_eq_false (by omega)];rfl);have hz:s.size=0:=by omega
 have hem:s.toList.isEmpty=true:=by rw[Lib.toList_data,List.isEmpty_iff];exact List.length_eq_zero_iff.1 (by simpa using hz)
 go_enter Tryz.func119,Tryz.ntmps119;go_wp2;go_ret;exact⟨zo H.out.symm,rfl⟩
def yt (a b:ByteArray):Bool:=a.toList==b.toList
theorem zI (a b:ByteArray):yt a b=true↔a=b:=by
 unfold yt;rw[beq_iff_eq];constructor
 · intro h
   rw[Lib.toList_data,Lib.toList_data]at h;exact ByteArray.ext (Array.ext' h)
 rintro rfl;rfl
end Go.Proofs.YtngippiilgdnoaaGreat
namespace Go.Proofs.YtngippiilgdnoaaGreat
structure Ev where
 tm:Int
 kd:Int
 ac:Int
 sb:Int
 nu:ByteArray
 nm:ByteArray
 vl:Int
instance evInh:Inhabited Ev:=⟨⟨0,0,0,0,ByteArray.empty,ByteArray.empty,0⟩⟩
structure Ac where
 id:Int
 si:Int
 an:Int
 pre:Bool
 clo:Bool
structure Sb where
 id:Int
 ac:Int
 si:Int
 plan:ByteArray
 nus:List ByteArray
 prs:List ByteArray
 su:Bool
 fa:Bool
instance sbInh:Inhabited Sb:=⟨⟨0,0,0,ByteArray.empty,[],[],false,false⟩⟩
structure Bk where
 accs:List Ac
 subs:List Sb
 ended:List Int
def ixOf {α:Type} (p:α->Bool) (l:List α):Int:=if l.any p=true then (l.findIdx p:Int) else -1
theorem qC {α:Type} {l:List α} {p:α->Bool} {k:Nat} (hk:k<l.length) (h:(l.take k).any p=false) (hp:p l[k]=false):(l.take (k+1)).any p=false:=by rw[List.take_succ_eq_append_getElem hk,List.any_append,h];simp[hp]
theorem Vx {α:Type} {l:List α} {p:α->Bool} {k:Nat} (hk:k<l.length) (hp:p l[k]=true):l.any p=true:=List.any_eq_true.2 ⟨_,List.getElem_mem hk,hp⟩
theorem Vy {α:Type} {l:List α} {p:α->Bool} {k:Nat} (hk:l.length<=k) (h:(l.take k).any p=false):l.any p=false:=by rwa[List.take_of_length_le hk]at h
theorem Z5 {α:Type} {l:List α} {p:α->Bool} {k:Nat} (hk:k<l.length) (h:(l.take k).any p=false) (hp:p l[k]=true):ixOf p l=k:=by
 unfold ixOf;rw[if_pos (Vx hk hp)];have h1:l.findIdx p=k:=by
  rw[List.findIdx_eq hk];refine⟨hp,fun j hj=>?_⟩;have:=List.any_eq_false.1 h l[j] (by
   rw[List.mem_take_iff_getElem];exact⟨j,by omega,rfl⟩);simpa using this
 rw[h1]
theorem Qd {α:Type} {l:List α} {p:α->Bool} {k:Nat} (hk:l.length<=k) (h:(l.take k).any p=false):ixOf p l=-1:=by unfold ixOf;rw[Vy hk h,if_neg (by decide)]
theorem jk {α:Type} (p:α->Bool) (l:List α):(ixOf p l=-1/\l.any p=false)\/∃k,∃h:k<l.length,ixOf p l=k/\p l[k]=true/\(l.take k).any p=false:=by
 unfold ixOf;by_cases h:l.any p=true
 · rw[if_pos h]
   have h1:l.findIdx p<l.length:=List.findIdx_lt_length.2 (List.any_eq_true.1 h);refine Or.inr ⟨_,h1,rfl,List.findIdx_getElem (w:=h1),?_⟩;rw[List.any_eq_false];intro x hx;obtain⟨j,hj,rfl⟩:=List.mem_take_iff_getElem.1 hx;have:=List.not_of_lt_findIdx (p:=p) (xs:=l) (i:=j) (by omega);simpa using this
 rw[if_neg h];exact Or.inl ⟨rfl,by simpa using h⟩
theorem NH {α:Type} {p:α->Bool} {l:List α} (h:ixOf p l<0):l.any p=false:=by
 rcases jk p l with⟨-,h1⟩|⟨k,hk,e,-⟩;· exact h1
 omega
theorem ZZ {α:Type} {p:α->Bool} {l:List α} (h:0<=ixOf p l):∃k,∃h:k<l.length,ixOf p l=k/\p l[k]=true/\(l.take k).any p=false:=by
 rcases jk p l with⟨h1,-⟩|h1;· omega
 exact h1
def kW (l:List ByteArray) (s:ByteArray):Nat:=(l.takeWhile fun x=>Op.bytesLess x.toList s.toList).length
def vq (l:List ByteArray) (s:ByteArray):List ByteArray:=l.take (kW l s)++[s]++l.drop (kW l s)
def yj (l:List ByteArray) (s:ByteArray):List ByteArray:=l.filter fun x=>!yt x s
theorem kW_le (l:List ByteArray) (s:ByteArray):kW l s<=l.length:=List.Sublist.length_le (List.takeWhile_sublist _)
theorem Yn (l:List ByteArray) (s:ByteArray):(vq l s).length=l.length+1:=by have:=kW_le l s;unfold vq;simp only[List.length_append,List.length_take,List.length_drop,List.length_singleton];omega
theorem ja (l:List ByteArray) (s:ByteArray):(yj l s).length<=l.length:=List.length_filter_le _ _
theorem xm {l:List ByteArray} {s:ByteArray} {k:Nat} (hk:k<l.length) (h:∀j (hj:j<k),Op.bytesLess l[j].toList s.toList=true) (hn:Op.bytesLess l[k].toList s.toList=false):kW l s=k:=by
 unfold kW;have e:l=l.take k++(l[k]::l.drop (k+1)):=by rw[<-List.drop_eq_getElem_cons hk,List.take_append_drop]
 have h2:(l.takeWhile fun x=>Op.bytesLess x.toList s.toList)=((l.take k++(l[k]::l.drop (k+1))).takeWhile fun x=>Op.bytesLess x.toList s.toList):=congrArg _ e;rw[h2,List.takeWhile_append_of_pos,List.takeWhile_cons_of_neg (by simp[hn]),List.append_nil,List.length_take];· omega
 intro x hx;obtain⟨j,hj,rfl⟩:=List.mem_take_iff_getElem.1 hx;exact h j (by omega)
theorem Ee {l:List ByteArray} {s:ByteArray} (h:∀j (hj:j<l.length),Op.bytesLess l[j].toList s.toList=true):kW l s=l.length:=by
 unfold kW;have h2:((l++[]).takeWhile fun x=>Op.bytesLess x.toList s.toList)=l++([]:List ByteArray).takeWhile fun x=>Op.bytesLess x.toList s.toList:=List.takeWhile_append_of_pos (by
  intro x hx;obtain⟨j,hj,rfl⟩:=List.mem_iff_getElem.1 hx;exact h j hj);rw[List.append_nil,List.takeWhile_nil,List.append_nil]at h2;rw[h2]
def yg (s:Sb) (e:Ev):Sb:=
 if e.kd=4 then { s with nus:=[],prs:=[] }
 else if e.kd=5 then { s with nus:=vq s.nus e.nu }
 else if e.kd=6 then { s with nus:=yj s.nus e.nu }
 else if e.kd=7 then { s with plan:=e.nm }
 else if e.kd=8 then { s with prs:=vq s.prs e.nm }
 else if e.kd=9 then { s with prs:=yj s.prs e.nm }
 else if e.kd=10 then { s with su:=true }
 else if e.kd=11 then { s with su:=false }
 else if e.kd=12 then { s with fa:=true }
 else if e.kd=13 then { s with fa:=false }
 else s
def jU:ByteArray:=⟨#[112,114,101,112,97,105,100]⟩
def qm (b:Bk) (n:Int):Int:=ixOf (fun a=>decide (a.id=n)) b.accs
def zT (b:Bk) (n:Int):Int:=ixOf (fun s=>decide (s.id=n)) b.subs
def vk (b:Bk) (n:Int):Bool:=b.ended.any fun m=>decide (m=n)
def zM (b:Bk) (e:Ev):Bk:=
 if e.kd=1 then { b with accs:=b.accs++[⟨e.ac,e.tm,e.vl,yt e.nm jU,false⟩] }
 else if e.kd=2 then { b with accs:=b.accs.modify (qm b e.ac).toNat fun a=>{ a with clo:=true } }
 else if e.kd=3 then { b with subs:=b.subs++[⟨e.sb,e.ac,e.tm,e.nm,[],[],false,false⟩] }
 else if 14<=e.kd then b
 else { b with subs:=b.subs.modify (zT b e.sb).toNat fun s=>yg s e,ended:=if e.kd=4 then b.ended++[e.sb] else b.ended }
def vB (k:Int):Bool:=decide (k=1)||decide (k=2)||decide (k=3)||decide (k=14)||decide (k=15)
def qv (k:Int):Bool:=!(decide (k=1)||decide (k=2)||decide (k=14)||decide (k=15))
structure OkEv (b:Bk) (last:Int) (e:Ev):Prop where
 k1:1<=e.kd
 k2:e.kd<=15
 t0:0<=e.tm
 t1:e.tm<12622780800
 t2:last<=e.tm
 a1:vB e.kd=true->1<=e.ac/\e.ac<=9999
 a0:vB e.kd=false->e.ac=0
 s1:qv e.kd=true->1<=e.sb/\e.sb<=9999
 s0:qv e.kd=false->e.sb=0
 v1:e.kd=1->1<=e.vl/\e.vl<=28
 opn:e.kd=1->qm b e.ac<0
 acc:vB e.kd=true->e.kd≠1->∃k,∃h:k<b.accs.length,qm b e.ac=k/\(b.accs[k]).clo=false
 add:e.kd=3->zT b e.sb<0
 sub:vB e.kd=false->0<=zT b e.sb/\vk b e.sb=false
def zQ (l:List Ev):Bk:=l.foldl zM ⟨[],[],[]⟩
theorem vM (l:List Ev) (k:Nat) (h:k<l.length):zQ (l.take (k+1))=zM (zQ (l.take k)) l[k]:=by unfold zQ;rw[List.take_succ_eq_append_getElem h,List.foldl_append];rfl
def jr (l:List Ev) (k:Nat):Int:=match k with|0=>0|k+1=>(l.getD k default).tm
def yp (l:List Ev):Prop:=∀i (h:i<l.length),OkEv (zQ (l.take i)) (jr l i) l[i]
structure uJ (b:Bk) (n:Nat):Prop where
 a:b.accs.length<=n
 s:b.subs.length<=n
 e:b.ended.length<=n
 nu:∀s∈b.subs,s.nus.length<=n
 pr:∀s∈b.subs,s.prs.length<=n
theorem uJ.mono {b:Bk} {n m:Nat} (h:uJ b n) (hm:n<=m):uJ b m:=
 ⟨Nat.le_trans h.a hm,Nat.le_trans h.s hm,Nat.le_trans h.e hm,fun s hs=>Nat.le_trans (h.nu s hs) hm,fun s hs=>Nat.le_trans (h.pr s hs) hm⟩
theorem kY {α:Type} {f:α->α} {l:List α} {i:Nat} {x:α} (h:x∈l.modify i f):x∈l\/∃y∈l,x=f y:=by
 obtain⟨j,hj,rfl⟩:=List.mem_iff_getElem.1 h;rw[List.length_modify]at hj;rw[List.getElem_modify];split;· exact Or.inr ⟨_,List.getElem_mem hj,rfl⟩
 exact Or.inl (List.getElem_mem hj)
theorem Ye (s:Sb) (e:Ev) (n:Nat) (h1:s.nus.length<=n) (h2:s.prs.length<=n):(yg s e).nus.length<=n+1/\(yg s e).prs.length<=n+1:=by
 have a1:=Yn s.nus e.nu;have a2:=ja s.nus e.nu;have a3:=Yn s.prs e.nm;have a4:=ja s.prs e.nm;unfold yg
 repeat' split
 all_goals ((try dsimp only);refine⟨?_,?_⟩<;>(first|omega|(simp;done)))
theorem uJ.apply {b:Bk} {n:Nat} (h:uJ b n) (e:Ev):uJ (zM b e) (n+1):=by
 obtain⟨h1,h2,h3,h4,h5⟩:=h;unfold zM;split;· exact⟨by simp;omega,by simp;omega,by simp;omega,fun s hs=>Nat.le_succ_of_le (h4 s hs),fun s hs=>Nat.le_succ_of_le (h5 s hs)⟩
 split;· exact⟨by simp;omega,by simp;omega,by simp;omega,fun s hs=>Nat.le_succ_of_le (h4 s hs),fun s hs=>Nat.le_succ_of_le (h5 s hs)⟩
 split
 · refine⟨by simp;omega,by simp;omega,by simp;omega,fun s hs=>?_,fun s hs=>?_⟩
   · rcases List.mem_append.1 hs with hs|hs
     · exact Nat.le_succ_of_le (h4 s hs)
     rw[List.mem_singleton]at hs;subst hs;exact Nat.zero_le _
   rcases List.mem_append.1 hs with hs|hs;· exact Nat.le_succ_of_le (h5 s hs)
   rw[List.mem_singleton]at hs;subst hs;exact Nat.zero_le _
 split;· exact⟨Nat.le_succ_of_le h1,Nat.le_succ_of_le h2,Nat.le_succ_of_le h3,fun s hs=>Nat.le_succ_of_le (h4 s hs),fun s hs=>Nat.le_succ_of_le (h5 s hs)⟩
 refine⟨Nat.le_succ_of_le h1,by simp;omega,?_,fun s hs=>?_,fun s hs=>?_⟩
 · show(if e.kd=4 then b.ended++[e.sb] else b.ended).length<=_
   split;· simp;omega
   omega
 · rcases kY hs with hs|⟨y,hy,rfl⟩
   · exact Nat.le_succ_of_le (h4 s hs)
   exact(Ye y e n (h4 y hy) (h5 y hy)).1
 rcases kY hs with hs|⟨y,hy,rfl⟩;· exact Nat.le_succ_of_le (h5 s hs)
 exact(Ye y e n (h4 y hy) (h5 y hy)).2
theorem jS (l:List Ev):∀k,k<=l.length->uJ (zQ (l.take k)) k
 |0,_=>by
   rw[List.take_zero];exact⟨Nat.le_refl _,Nat.le_refl _,Nat.le_refl _,(fun s hs=>by cases hs),(fun s hs=>by cases hs)⟩
 |k+1,hk=>by
   rw[vM l k (by omega)];exact(jS l k (by omega)).apply _
end Go.Proofs.YtngippiilgdnoaaGreat
namespace Go.Proofs.YtngippiilgdnoaaGreat
open Go.RowKit
structure Bd where
 kd:Int
 zs:List ByteArray
 un:Int
 ro:Int
 pr:Int
 sh:Bool
structure Pd where
 nm:ByteArray
 fm:Int
 fe:Int
 ct:ByteArray
 pro:Bool
 bs:List Bd
def ltS (a b:ByteArray):Bool:=Op.bytesLess a.toList b.toList
def eqS (a b:ByteArray):Bool:=a.toList==b.toList
def uc (l:List ByteArray) (n:Nat):Bool:=(List.range n).all fun i=>ltS (l.getD i ByteArray.empty) (l.getD (i+1) ByteArray.empty)
def ascS (l:List ByteArray):Bool:=uc l (l.length-1)
theorem Vu {α:Type} (l:List α) (i:Nat) (d:α) (h:i<l.length):l.getD i d=l[i]:=by simp[List.getD,h]
theorem KB (l:List ByteArray) (k:Nat) (hk:1<=k) (h:k<l.length):uc l k=(uc l (k-1)&&ltS l[k-1] l[k]):=by obtain⟨j,rfl⟩:∃j,k=j+1:=⟨k-1,by omega⟩;unfold uc;rw[List.range_succ,List.all_append];simp only[List.all_cons,List.all_nil,Bool.and_true,Nat.add_sub_cancel];rw[Vu _ _ _ (by omega),Vu _ _ _ h]
theorem Jp (l:List ByteArray) (k:Nat) (hk:1<=k) (h:k<l.length) (hf:ltS l[k-1] l[k]=false):ascS l=false:=by
 unfold ascS uc;rw[List.all_eq_false];refine⟨k-1,by simp;omega,?_⟩;have e:k-1+1=k:=by omega
 rw[e,Vu _ _ _ (by omega),Vu _ _ _ h,hf];decide
def Bd.ok (b:Bd):Prop:=1<=b.un/\b.un<=1099511627776/\0<=b.ro/\b.ro<=1099511627776/\0<=b.pr/\b.pr<=99
instance decBdOk (b:Bd):Decidable b.ok:=by unfold Bd.ok;infer_instance
def qM (l:List ByteArray):Int:=if 64<l.length then 5 else if l.all yT=false then 8 else if ascS l=false then 9 else 0
def vR (b:Bd):Int:=if b.kd<1\/4<b.kd then 7 else if qM b.zs≠0 then qM b.zs else if ¬b.ok then 6 else 0
def vY:List Bd->Int
 | []=>0
 |b::r=>if vR b≠0 then vR b else vY r
def vD (p:Pd):Int:=
 if yT p.nm=false then 8 else if p.fm<0\/12622780800<=p.fm then 15 else if p.fe<0\/1125899906842624<p.fe then 6 else if yT p.ct=false then 8
 else if 64<p.bs.length then 5 else vY p.bs
def Vs (a b:Pd):Bool:=(!(ltS a.nm b.nm)&&!(eqS a.nm b.nm))||(eqS a.nm b.nm&&decide (b.fm<=a.fm))
def vX:Option Pd->List Pd->Int
 |_,[]=>0
 |q,p::r=>if vD p≠0 then vD p else if (match q with|some a=>Vs a p|none=>false) then 9 else vX (some p) r
def uy (c:UInt8):Bool:=decide (48<=(c.toNat:Int)/\(c.toNat:Int)<=57)
def Uf (s:ByteArray):Bool:=decide (1<=s.size/\s.size<=15)&&s.data.toList.all uy
theorem ED (s:ByteArray) (k:Nat) (h:k<s.size):(s.data.toList.take (k+1)).all uy=((s.data.toList.take k).all uy&&uy s[k]):=by rw[List.take_succ_eq_append_getElem (by simpa using h),List.all_append];simp only[List.all_cons,List.all_nil,Bool.and_true];rfl
theorem Gm (s:ByteArray) (k:Nat) (h:k<s.size) (hs:uy s[k]=false):s.data.toList.all uy=false:=by rw[List.all_eq_false];exact⟨s[k],by have:s[k]=s.data.toList[k]'(by simpa using h):=rfl;rw[this];exact List.getElem_mem _,by rw[hs];decide⟩
theorem ND (s:ByteArray) (h:s.data.toList.all uy=true):Uf s=decide (1<=s.size/\s.size<=15):=by unfold Uf;rw[h,Bool.and_true]
theorem NE (s:ByteArray) (h:s.data.toList.all uy=false):Uf s=false:=by unfold Uf;rw[h,Bool.and_false]
theorem Jc (s:ByteArray) (w:World) (hs:s.size<=maxLen):Calls Tryz.prog 151 #[.string s] w fun e w'=>e=.returned (.bool (Uf s))/\w=w':=by
 unfold maxLen at hs;have HB:=zb (NE s);have HE:=zb (ND s);go_enter Tryz.func151,Tryz.ntmps151;go_wp2;go_loop [3] (fun i=>∃k:Nat,k<=s.size/\i=.int .i64 k/\(s.data.toList.take k).all uy=true) (fun i=>s.size-(intOf i).toNat);case atStart=>exact⟨0,Nat.zero_le _,rfl,rfl⟩
 case round=>
  obtain⟨k,hk,rfl,ha⟩:=hrel;have Ha:=zb ha;clear ha;by_cases hlt:k<s.size
  · have hlt':(k:Int)<(s.size:Int):=by omega
    have HT:=zb (ED s k hlt);have HF:=zb (Gm s k hlt);cases hg:uy s[k]with
    |true=>have hd:48<=(s[k].toNat:Int)/\(s[k].toNat:Int)<=57:=of_decide_eq_true hg;obtain⟨d1,d2⟩:=hd;have HT2:=zb (show(s.data.toList.take (k+1)).all uy=true by rw[HT.out,Ha.out,hg];rfl);clear hg;go_wp2;exact⟨⟨k+1,by omega,by go_num,HT2.out⟩,by simp[intOf];omega⟩
    |false=>
      have hd:¬(48<=(s[k].toNat:Int)/\(s[k].toNat:Int)<=57):=of_decide_eq_false hg;have HN:=zb (HB.out (HF.out hg));have hc:(s[k].toNat:Int)<48\/(48<=(s[k].toNat:Int)/\57<(s[k].toNat:Int)):=by omega
      clear hg hd;rcases hc with hc|⟨h1,h2⟩;all_goals
       go_wp2;go_ret;exact⟨zo HN.out.symm,rfl⟩
  have HN:=zb (HE.out (by rw[<-Ha.out,List.take_of_length_le (by simp;omega)]));by_cases h1:1<=s.size
  · go_wp2
    go_ret;exact⟨zo (by rw[HN.out];exact decide_eq_decide.2 (by omega)),rfl⟩
  go_wp2;go_ret;exact⟨zo (by rw[HN.out];first|exact(decide_eq_false (by omega)).symm|exact decide_eq_decide.2 (by omega)),rfl⟩
end Go.Proofs.YtngippiilgdnoaaGreat
