/-
  What stays when a map turns, or a box that holds no such cells; the invariant of the program's holdings.
-/
import Derived.Test.YtngippiilgdnoaaGreatMhbn
import Derived.Maps.StringElems
import Derived.Maps.OwnSet
import Derived.Maps.OwnOps
import Derived.DeepKeys4
set_option maxRecDepth 100000
set_option maxHeartbeats 25600000
namespace Go.Proofs.YtngippiilgdnoaaGreat
open Go.RowKit Go.Maps Go.WideMaps
theorem ZQ {α:Type} {p:List α->Prop} (h0:p []) (h1:∀l x,p l->p (l++[x])) (l:List α):p l:=by
 have h:∀r:List α,p r.reverse:=by
  intro r;induction r with
  |nil=>exact h0
  |cons x r ih=>rw[List.reverse_cons];exact h1 _ _ ih
 have:=h l.reverse;rwa[List.reverse_reverse]at this
section
noncomputable def litK (k:TypeId) (v:Value):Lit:=(keyOf Tryz.prog k v).getD (.bool false)
theorem We {k:TypeId} {v:Value} {l:Lit} (h:keyOf Tryz.prog k v=some l):litK k v=l:=by unfold litK;rw[h];rfl
noncomputable def setV (k:TypeId) (vs:List Value):DataW Unit:=vs.foldl (fun m v=>m.put (litK k v) (.lit (.bool true))) (.map [])
theorem Yq (k:TypeId) (vs:List Value) (v:Value):setV k (vs++[v])=(setV k vs).put (litK k v) (.lit (.bool true)):=by simp[setV,List.foldl_append]
theorem UW (k:TypeId) (vs:List Value):IsMap (setV k vs):=by
 induction vs using ZQ with
 |h0=>exact isMap_empty
 |h1 l x ih=>rw[Yq];exact ih.put _ _
theorem Nr {k:TypeId} (K:Keyed Tryz.prog k) {x:Value} {lx:Lit} (hx:keyOf Tryz.prog k x=some lx) (vs:List Value) (hvs:∀v∈vs,∃l,keyOf Tryz.prog k v=some l):
 ∃bo:Bool,(bo=true↔x∈vs)/\(setV k vs).atKey lx (.lit (.bool false))=.lit (.bool bo):=by
 induction vs using ZQ with
 |h0=>exact⟨false,by simp,rfl⟩
 |h1 l y ih=>
   obtain⟨bo,h1,h2⟩:=ih fun v hv=>hvs v (List.mem_append_left _ hv);obtain⟨ly,hy⟩:=hvs y (by simp);rw[Yq,We hy];by_cases e:y=x
   · subst e
     obtain rfl:lx=ly:=Option.some.inj (hx.symm.trans hy);exact⟨true,by simp,atKey_put_same (UW k l) (K.key hx) _ _⟩
   refine⟨bo,?_,?_⟩
   · rw[h1,List.mem_append,List.mem_singleton]
     exact⟨Or.inl,fun h=>h.resolve_right (Ne.symm e)⟩
   rw[atKey_put_other (fun h=>by subst h;exact e (K.inj hy hx)),h2]
theorem xi (w:World):(zeroValue 4).run Tryz.prog w=.ok (.bool false) w:=by kernel_rfl
theorem U9 {P:Program} {e:TypeId} (he:P.underlying e=some .bool) {v:Value} {z:DataW Unit×List MemPlace} (h:plainElem P e v=some z):∃x,v=.bool x/\z=(.lit (.bool x),[]):=by
 unfold plainElem at h;rw[he]at h;cases v with
 |bool x=>exact⟨x,rfl,(Option.some.inj h).symm⟩
 |_=>cases h
def OwnS (k:TypeId) (w:World) (b:Nat) (vs:List Value):Prop:=w.ownsMap Tryz.prog k (plainElem Tryz.prog 4) b vs.length (setV k vs)/\∀v∈vs,∃l,keyOf Tryz.prog k v=some l
theorem OwnS.made (k:TypeId) (w:World):OwnS k (w.alloc (.map #[] 0)) w.heap.size []:=⟨World.ownsMap_made _ _ _ _,fun v hv=>by cases hv⟩
theorem OwnS.lt {k:TypeId} {w:World} {b:Nat} {vs:List Value} (h:OwnS k w b vs):b<w.heap.size:=World.ownsMap.lt h.1
theorem OwnS.map {k:TypeId} {w:World} {b:Nat} {vs:List Value} (h:OwnS k w b vs):∃es c,w.heap[b]?=some (.map es c):=by obtain⟨es,c,h1,-⟩:=h.1;exact⟨es,c,h1⟩
theorem OwnS.keep {k:TypeId} {w w':World} {b:Nat} {vs:List Value} (h:OwnS k w b vs) (hb:w'.heap[b]?=w.heap[b]?):OwnS k w' b vs:=by obtain⟨⟨es,c,h1,h2⟩,h3⟩:=h;exact⟨⟨es,c,hb.trans h1,h2⟩,h3⟩
theorem OwnS.below {k:TypeId} {w w':World} {b:Nat} {vs:List Value} (h:OwnS k w b vs) (hb:Below w.heap.size w w'):OwnS k w' b vs:=h.keep (hb.block b h.lt)
theorem OwnS.look {k t:TypeId} (K:Keyed Tryz.prog k) (ht:Tryz.prog.underlying t=some (.map k 4)) {w:World} {b:Nat} {vs:List Value} (h:OwnS k w b vs) {x:Value} {l:Lit} (hx:keyOf Tryz.prog k x=some l):
 ∃bo:Bool,(bo=true↔x∈vs)/\(Instr.lookup t (.map (some b)) x false).run Tryz.prog w=.ok (.bool bo) w:=by
 obtain⟨v,ps,hrun,hv⟩:=h.1.lookup K ht (xi w) (plainElem_bool Tryz.underlying4 false) hx;obtain⟨bo,h1,h2⟩:=Nr K hx vs h.2;obtain⟨y,rfl,hy⟩:=U9 Tryz.underlying4 hv;rw[h2]at hy;have:bo=y:=by simpa using congrArg Prod.fst hy
 subst this;exact⟨bo,h1,hrun⟩
theorem vv {k t:TypeId} (K:Keyed Tryz.prog k) (ht:Tryz.prog.underlying t=some (.map k 4)) (w:World) {ops:Array Oper} {rest:List Oper} {o:Oper} {a:Act} {Q:Exit->Act->World->Prop}
 (hg:o.guard=none) (m x v:Operand) (hop:o.op=Op.mapUpdate t m x v) (b:Nat) (vs:List Value)
 (hm:a.eval m=.map (some b)) (hown:OwnS k w b vs) (hn:vs.length<maxLen) (y:Value) (l:Lit) (hx:a.eval x=y) (hv:a.eval v=.bool true) (hk:keyOf Tryz.prog k y=some l)
 (hK:∀w',OwnS k w' b (vs++[y])->w.grownBy w' (some b)->wpList Tryz.prog ops Q rest (a.put o.dst undef) w'):
 wpList Tryz.prog ops Q (o::rest) a w:=
 wpList_mapUpdate_own w hg m x v t hop k 4 K ht _ b vs.length (setV k vs) hm hown.1 hn y (.bool true) l hx hv hk (.lit (.bool true)) [] (plainElem_bool Tryz.underlying4 true) (fun w' h1 h2=>hK w' ⟨by
  rw[Yq,We hk,List.length_append];exact h1,fun u hu=>by
  rcases List.mem_append.1 hu with hu|hu;· exact hown.2 u hu
  rw[List.mem_singleton.1 hu];exact⟨l,hk⟩⟩ h2)
end
theorem lawI:Keyed Tryz.prog 3:=int_keyed Tryz.underlying3
theorem lawT:Keyed Tryz.prog 9:=string_keyed Tryz.underlying9
theorem keyI {n:Int} (h0:-9223372036854775808<=n) (h1:n<=9223372036854775807):keyOf Tryz.prog 3 (.int .i64 n)=some (.int .i64 n):=keyOf_int_mk Tryz.underlying3 (by
 have e1:IntKind.i64.min=-9223372036854775808:=rfl;have e2:IntKind.i64.max=9223372036854775807:=rfl;unfold Lit.wf;simp[e1,e2]
 omega)
theorem keyT {s:ByteArray} (h:s.size<=maxLen):keyOf Tryz.prog 9 (.string s)=some (.string s.data.toList):=keyOf_string_mk Tryz.underlying9 h
def encO:Option Nat->Int
 |none=>-1
 |some b=>(b:Int)
theorem EB {a b:Option Nat} (h:encO a=encO b):a=b:=by
 cases a with
 | none=>cases b with
   |none=>rfl
   |some y=>exfalso;have h2:(-1:Int)=(y:Int):=h;omega
 | some x=>cases b with
   |none=>exfalso;have h2:(x:Int)=-1:=h;omega
   |some y=>have h2:(x:Int)=(y:Int):=h;rw[show x=y by omega]
def Vt (v:Value):Option (DataW Unit×List MemPlace):=match v with
 |.map none=>some (.lit (.int .i64 (-1)),[])
 |.map (some b)=>some (.lit (.int .i64 (b:Int)),[])
 |_=>none
theorem Ua {v:Value} {z:DataW Unit×List MemPlace} (h:Vt v=some z):∃o:Option Nat,v=.map o/\z=(.lit (.int .i64 (encO o)),[]):=by
 unfold Vt at h;split at h;· cases h;exact⟨none,rfl,rfl⟩
 · cases h;exact⟨some _,rfl,rfl⟩
 cases h
noncomputable def mapN (l:List (ByteArray×Nat)):DataW Unit:=l.foldl (fun m x=>m.put (.string x.1.data.toList) (.lit (.int .i64 (x.2:Int)))) (.map [])
def valN (l:List (ByteArray×Nat)) (s:ByteArray):Option Nat:=l.foldl (fun v x=>if yt x.1 s=true then some x.2 else v) none
theorem Yv (l:List (ByteArray×Nat)) (x:ByteArray×Nat):mapN (l++[x])=(mapN l).put (.string x.1.data.toList) (.lit (.int .i64 (x.2:Int))):=by simp[mapN,List.foldl_append]
theorem kv (l:List (ByteArray×Nat)) (x:ByteArray×Nat) (s:ByteArray):valN (l++[x]) s=if yt x.1 s=true then some x.2 else valN l s:=by simp[valN,List.foldl_append]
theorem Xf (l:List (ByteArray×Nat)):IsMap (mapN l):=by
 induction l using ZQ with
 |h0=>exact isMap_empty
 |h1 l x ih=>rw[Yv];exact ih.put _ _
theorem NF (l:List (ByteArray×Nat)) (s:ByteArray):(mapN l).atKey (.string s.data.toList) (.lit (.int .i64 (-1)))=.lit (.int .i64 (encO (valN l s))):=by
 induction l using ZQ with
 |h0=>rfl
 |h1 l x ih=>
   rw[Yv,kv];by_cases h:yt x.1 s=true
   · rw[<-(zI _ _).1 h,atKey_put_same (Xf l) (by trivial),if_pos (jf _)]
     rfl
   rw[atKey_put_other (fun e=>h ((zI _ _).2 (ByteArray.ext (Array.toList_inj.1 ((Lit.string.injEq _ _).mp e)).symm))),ih,if_neg h]
theorem zeroM (w:World):(zeroValue 157).run Tryz.prog w=.ok (.map none) w:=by kernel_rfl
def OwnN (w:World) (b:Nat) (l:List (ByteArray×Nat)):Prop:=w.ownsMap Tryz.prog 9 Vt b l.length (mapN l)
theorem OwnN.made (w:World):OwnN (w.alloc (.map #[] 0)) w.heap.size []:=World.ownsMap_made _ _ _ _
theorem OwnN.lt {w:World} {b:Nat} {l:List (ByteArray×Nat)} (h:OwnN w b l):b<w.heap.size:=World.ownsMap.lt h
theorem OwnN.keep {w w':World} {b:Nat} {l:List (ByteArray×Nat)} (h:OwnN w b l) (hb:w'.heap[b]?=w.heap[b]?):OwnN w' b l:=by obtain⟨es,c,h1,h2⟩:=h;exact⟨es,c,hb.trans h1,h2⟩
theorem OwnN.look {w:World} {b:Nat} {l:List (ByteArray×Nat)} (h:OwnN w b l) {s:ByteArray} (hs:s.size<=maxLen):(Instr.lookup 158 (.map (some b)) (.string s) false).run Tryz.prog w=.ok (.map (valN l s)) w:=by obtain⟨v,ps,hrun,hv⟩:=World.ownsMap.lookup h lawT Tryz.underlying158 (zeroM w) (show Vt (.map none)=some (.lit (.int .i64 (-1)),[])from rfl) (keyT hs);obtain⟨o,rfl,hy⟩:=Ua hv;rw[NF]at hy;have h2:o=valN l s:=EB (by simpa using(congrArg Prod.fst hy).symm);rw[<-h2];exact hrun
theorem VC (w:World) {ops:Array Oper} {rest:List Oper} {o:Oper} {a:Act} {Q:Exit->Act->World->Prop}
 (hg:o.guard=none) (m x v:Operand) (hop:o.op=Op.mapUpdate 158 m x v) (b:Nat) (l:List (ByteArray×Nat))
 (hm:a.eval m=.map (some b)) (hown:OwnN w b l) (hn:l.length<maxLen) (s:ByteArray) (g:Nat) (hx:a.eval x=.string s) (hv:a.eval v=.map (some g)) (hs:s.size<=maxLen)
 (hK:∀w',OwnN w' b (l++[(s,g)])->w.grownBy w' (some b)->wpList Tryz.prog ops Q rest (a.put o.dst undef) w'):
 wpList Tryz.prog ops Q (o::rest) a w:=
 wpList_mapUpdate_own w hg m x v 158 hop 9 157 lawT Tryz.underlying158 _ b l.length (mapN l) hm hown hn (.string s) (.map (some g)) (.string s.data.toList) hx hv (keyT hs) (.lit (.int .i64 (g:Int))) [] rfl (fun w' h1 h2=>hK w' (by
  unfold OwnN;rw[Yv,List.length_append];exact h1) h2)
theorem W9 (n:Int) (h0:-9223372036854775808<=n) (h1:n<=9223372036854775807) (w:World):(Instr.lookup 157 (.map none) (.int .i64 n) false).run Tryz.prog w=.ok (.bool false) w:=by have:=Maps.look_nil (P:=Tryz.prog) (w:=w) false lawI Tryz.underlying157 (xi w) (keyI h0 h1);simpa using this
def yo (b:Bu):Value:=.agg #[.int .i64 b.sb,.string b.pr,.int .i64 b.ix,.int .i64 b.f]
theorem lawD:Keyed Tryz.prog 111:=Keyed.of_law (deep_law_laid (m:=2) (by kernel_rfl) (by omega) (of_decide_eq_true (by kernel_rfl)) (by kernel_rfl) (by kernel_rfl))
theorem Em (b:Bu):(yo b).formed Tryz.prog 111=true:=by
 have hc:Tryz.prog.cellsOf 111=4:=by kernel_rfl
 unfold yo Value.formed;rw[Tryz.underlying111];simp[hc]
theorem xM {b:Bu} (h1:(Lit.int .i64 b.sb).wf=true) (h2:b.pr.size<=maxLen) (h3:(Lit.int .i64 b.ix).wf=true) (h4:(Lit.int .i64 b.f).wf=true) (n:Nat):∃ls,Tryz.prog.keyLits (n+2) 111 (yo b).cells.toList=some ls:=by
 have hc:Tryz.prog.cellsOf 111=4:=by kernel_rfl
 have hi:Tryz.prog.cellsOf 3=1:=by kernel_rfl
 have hs:Tryz.prog.cellsOf 9=1:=by kernel_rfl
 have li:∀m:Int,(Lit.int .i64 m).wf=true->Tryz.prog.keyLits (n+1) 3 [.int .i64 m]=some [.int .i64 m]:=fun m hm=>by
  unfold Program.keyLits;rw[Tryz.underlying3];simp[hm]
 have ls:∀s:ByteArray,s.size<=maxLen->Tryz.prog.keyLits (n+1) 9 [.string s]=some [.string s.data.toList]:=fun s hs=>by
  unfold Program.keyLits;rw[Tryz.underlying9];simp[hs]
 refine⟨[Lit.int .i64 b.sb,.string b.pr.data.toList,.int .i64 b.ix,.int .i64 b.f],?_⟩;unfold yo Value.cells;show Tryz.prog.keyLits (n+1+1) 111 [.int .i64 b.sb,.string b.pr,.int .i64 b.ix,.int .i64 b.f]=_;unfold Program.keyLits;rw[Tryz.underlying111];simp[hc,hi,hs,li,ls,h1,h2,h3,h4]
theorem wf64 {n:Int} (h0:-9223372036854775808<=n) (h1:n<=9223372036854775807):(Lit.int .i64 n).wf=true:=by have e1:IntKind.i64.min=-9223372036854775808:=rfl;have e2:IntKind.i64.max=9223372036854775807:=rfl;unfold Lit.wf;simp[e1,e2];omega
structure KeyB (b:Bu):Prop where
 s:(Lit.int .i64 b.sb).wf=true
 p:b.pr.size<=maxLen
 i:(Lit.int .i64 b.ix).wf=true
 f:(Lit.int .i64 b.f).wf=true
theorem keyD {b:Bu} (h:KeyB b):∃l,keyOf Tryz.prog 111 (yo b)=some l:=by
 have hk:Tryz.prog.keyType 111=true:=by kernel_rfl
 obtain⟨n,hn⟩:∃n,Tryz.prog.types.size+1=n+2:=⟨Tryz.prog.types.size-1,by
  have:0<Tryz.prog.types.size:=of_decide_eq_true (by kernel_rfl)
  omega⟩;obtain⟨ls,hl⟩:=xM h.s h.p h.i h.f n;refine⟨.string (keyBytes ls),?_⟩;unfold keyOf;rw[Tryz.underlying111,hn];simp only[hk,Em,Bool.and_self,if_true,hl,Option.map_some]
theorem jQ {a b:Bu}:yo a=yo b↔yz a b=true:=by rw[qT];unfold yo;simp only[Value.agg.injEq,Array.mk.injEq,List.cons.injEq,Value.int.injEq,Value.string.injEq,true_and,and_true]
end Go.Proofs.YtngippiilgdnoaaGreat
namespace Go.Proofs.YtngippiilgdnoaaGreat
open Go.RowKit
def yH (x y:Had):Bool:=decide (x.1<y.1)||(decide (x.1=y.1)&&ltS x.2 y.2)
theorem Qh {x y:Had}:yH x y=true↔jz x y:=by unfold yH jz;simp only[Bool.or_eq_true,Bool.and_eq_true,decide_eq_true_eq]
theorem KR {l:List Ev} (hr:yp l) {i:Nat} (hi:i<l.length) (h8:(l[i]).kd=8):∀k,i<k->k<=l.length->0<=zT (zQ (l.take k)) (l[i]).sb
 |0,h,_=>by omega
 |k+1,hik,hk=>by
   have hlt:k<l.length:=hk;rw[vM l k hlt];by_cases h:i<k;· exact VM (hr k hlt) _ (KR hr hi h8 k h (by omega))
   have:i=k:=by omega
   subst this;exact VM (hr i hi) _ ((hr i hi).sub (by rw[h8];rfl)).1
def YK (l:List Ev) (ac:Int) (k:Nat) (ms:List Value):Prop:=∀n:Int,Value.int .i64 n∈ms↔∃f∈l.take k,f.kd=3/\f.ac=ac/\f.sb=n
theorem K8 (l:List Ev) (ac:Int):YK l ac 0 []:=fun n=>by simp
theorem Y7 {l:List Ev} {ac:Int} {k:Nat} {ms:List Value} (hk:k<l.length) (h:YK l ac k ms) (hn:¬((l[k]).kd=3/\(l[k]).ac=ac)):YK l ac (k+1) ms:=fun n=>by
 rw[h n,List.take_succ_eq_append_getElem hk];constructor;· rintro⟨f,hf,q⟩;exact⟨f,List.mem_append_left _ hf,q⟩
 rintro⟨f,hf,q1,q2,q3⟩;rcases List.mem_append.1 hf with hf|hf;· exact⟨f,hf,q1,q2,q3⟩
 rw[List.mem_singleton]at hf;subst hf;exact absurd ⟨q1,q2⟩ hn
theorem Xe {l:List Ev} {ac:Int} {k:Nat} {ms:List Value} (hk:k<l.length) (h:YK l ac k ms) (h3:(l[k]).kd=3) (ha:(l[k]).ac=ac):YK l ac (k+1) (ms++[.int .i64 (l[k]).sb]):=fun n=>by
 rw[List.mem_append,h n,List.mem_singleton,List.take_succ_eq_append_getElem hk];constructor
 · rintro(⟨f,hf,q⟩|e)
   · exact⟨f,List.mem_append_left _ hf,q⟩
   have e2:n=(l[k]).sb:=by simpa using e
   exact⟨l[k],List.mem_append_right _ (by simp),h3,ha,e2.symm⟩
 rintro⟨f,hf,q1,q2,q3⟩;rcases List.mem_append.1 hf with hf|hf;· exact Or.inl ⟨f,hf,q1,q2,q3⟩
 rw[List.mem_singleton]at hf;subst hf;rw[q3];exact Or.inr rfl
structure QM (l:List Ev) (ac:Int) (k:Nat) (H:List Had):Prop where
 srt:H.Pairwise jz
 mem:∀h,h∈H↔∃e∈l.take k,e.kd=8/\(∃f∈l.take k,f.kd=3/\f.ac=ac/\f.sb=e.sb)/\(e.sb,e.nm)=h
theorem Xl (l:List Ev) (ac:Int):QM l ac 0 []:=⟨List.Pairwise.nil,fun h=>by simp⟩
theorem Gf {l:List Ev} {ac:Int} {k:Nat} {H:List Had} (h:QM l ac k H) (hk:l.length<=k):jI l ac H:=by have e:=List.take_of_length_le hk;refine⟨h.srt,fun x=>?_⟩;rw[h.mem x,e]
theorem Qg {l:List Ev} (hr:yp l) {ac:Int} {k:Nat} {H:List Had} (hk:k<l.length) (h:QM l ac k H) (hn:(l[k]).kd≠8\/(¬∃f∈l.take k,f.kd=3/\f.ac=ac/\f.sb=(l[k]).sb)\/((l[k]).sb,(l[k]).nm)∈H):QM l ac (k+1) H:=by
 refine⟨h.srt,fun x=>?_⟩;rw[h.mem x,List.take_succ_eq_append_getElem hk];constructor
 · rintro⟨e,he,q1,⟨f,hf,q2⟩,q3⟩
   exact⟨e,List.mem_append_left _ he,q1,⟨f,List.mem_append_left _ hf,q2⟩,q3⟩
 rintro⟨e,he,q1,⟨f,hf,p1,p2,p3⟩,q3⟩;rcases List.mem_append.1 he with he|he
 · refine⟨e,he,q1,?_,q3⟩
   rcases List.mem_append.1 hf with hf|hf;· exact⟨f,hf,p1,p2,p3⟩
   exfalso;rw[List.mem_singleton]at hf;subst hf;obtain⟨i,hi,rfl⟩:=List.mem_take_iff_getElem.1 he;have:=KR hr (show i<l.length by omega) q1 k (by omega) (by omega);have:=(hr k hk).add p1;rw[p3]at this;omega
 rw[List.mem_singleton]at he;subst he;have hf2:∃f∈l.take k,f.kd=3/\f.ac=ac/\f.sb=(l[k]).sb:=by
  rcases List.mem_append.1 hf with hf|hf;· exact⟨f,hf,p1,p2,p3⟩
  rw[List.mem_singleton]at hf;subst hf;omega
 rcases hn with hn|hn|hn;· exact absurd q1 hn
 · exact absurd hf2 hn
 rw[<-q3];exact(h.mem _).1 hn
theorem Ge {l:List Ev} {ac:Int} {k:Nat} {H:List Had} (hk:k<l.length) (h:QM l ac k H) (h8:(l[k]).kd=8) (hm:∃f∈l.take k,f.kd=3/\f.ac=ac/\f.sb=(l[k]).sb) (hn:((l[k]).sb,(l[k]).nm)∉H):QM l ac (k+1) (insT (fun y=>yH y ((l[k]).sb,(l[k]).nm)) ((l[k]).sb,(l[k]).nm) H):=by
 generalize hx:((l[k]).sb,(l[k]).nm)=x at hn⊢;have hkl:=Ef (fun y=>yH y x) H;have hp:KH jz H x (kT (fun y=>yH y x) H):=by
  refine⟨hkl,fun j hj hkj=>?_,fun j hj e=>?_⟩
  · have h0:=Kd (fun y=>yH y x) H (by omega)
    have h1:jz x H[kT (fun y=>yH y x) H]:=JF _ _ (fun hl=>by rw[Qh.2 hl]at h0;cases h0) (fun e=>hn (e▸List.getElem_mem _));rcases Nat.lt_or_ge (kT (fun y=>yH y x) H) j with h2|h2;· exact kn _ _ _ h1 (List.pairwise_iff_getElem.1 h.srt _ _ (by omega) hj h2)
    have:j=kT (fun y=>yH y x) H:=by omega
    subst this;exact h1
  have h0:=Yx (fun y=>yH y x) H j hj (by omega);exact fun hl=>kE _ (kn _ _ _ hl (Qh.1 h0))
 obtain⟨s1,s2⟩:=J6 kn JF h.srt hn hp;refine⟨s1,fun y=>?_⟩;show y∈H.take _++[x]++H.drop _↔_;rw[s2 y,h.mem y,List.take_succ_eq_append_getElem hk];constructor
 · rintro(⟨e,he,q1,⟨f,hf,q2⟩,q3⟩|rfl)
   · exact⟨e,List.mem_append_left _ he,q1,⟨f,List.mem_append_left _ hf,q2⟩,q3⟩
   obtain⟨f,hf,q2⟩:=hm;exact⟨l[k],List.mem_append_right _ (by simp),h8,⟨f,List.mem_append_left _ hf,q2⟩,hx⟩
 rintro⟨e,he,q1,⟨f,hf,p1,p2,p3⟩,q3⟩;rcases List.mem_append.1 he with he|he
 · rcases List.mem_append.1 hf with hf|hf
   · exact Or.inl ⟨e,he,q1,⟨f,hf,p1,p2,p3⟩,q3⟩
   rw[List.mem_singleton]at hf;subst hf;omega
 rw[List.mem_singleton]at he;subst he;exact Or.inr (q3.symm.trans hx)
theorem Wi (x:HoX) (X:List HoX):(insT (fun y:HoX=>yH y.h x.h) x X).map (·.h)=insT (fun y=>yH y x.h) x.h (X.map (·.h)):=by unfold insT;rw[Xg];simp only[List.map_append,List.map_take,List.map_drop,List.map_cons,List.map_nil]
theorem JM {w w':World} {b j:Nat} (h:w'.heap[b]?=w.heap[b]?):w'.cell? ⟨b,j,none⟩=w.cell? ⟨b,j,none⟩:=by unfold World.cell?;simp only[h]
def ks (w:World) (g:Nat) (p:Value->Prop):Prop:=∀j u,w.cell? ⟨g,j,none⟩=some u->¬p u
theorem kG {w:World} {g:Nat} {es:Array MapEntry} {c:Nat} (h:w.heap[g]?=some (.map es c)) (p:Value->Prop):ks w g p:=fun j u hu=>by
 unfold World.cell? at hu;rw[h]at hu;cases hu
theorem YF {w:World} {g:Nat} {cs:Array Value} {t:TypeId} {p:Value->Prop} (h:w.heap[g]?=some (Obj.cells cs t)) (hp:∀u∈cs,¬p u):ks w g p:=fun j u hu=>by
 unfold World.cell? at hu;rw[h]at hu;simp only[]at hu;exact hp u (Array.mem_of_getElem? (by simpa using hu))
theorem YX {α:Type} {sz:Nat} {R:World->Nat->Nat->α->Prop} {p:Value->Prop} (hR:∀(w w':World) b o x,(∀j,w'.cell? ⟨b,j,none⟩=w.cell? ⟨b,j,none⟩)->R w b o x->R w' b o x) (hp:∀(w:World) b o x,R w b o x->∃j u,w.cell? ⟨b,j,none⟩=some u/\p u)
 {w w':World} {v:Value} {L:List α} {g:Nat} (h:zz sz R w v L) (hg:ks w g p) (hs:w.heap.size<=w'.heap.size) (hk:∀k,k<w.heap.size->k≠g->w'.heap[k]?=w.heap[k]?):zz sz R w' v L:=by
 obtain⟨av,cap,rfl,h1,h2,h3⟩:=h;refine⟨av,cap,rfl,h1,h2,fun hne=>?_⟩;obtain⟨b,o,rfl,hB,hx⟩:=h3 hne;have hb:b≠g:=by rintro rfl;have hpos:0<L.length:=List.length_pos_iff.2 hne;obtain⟨j,u,hu,hpu⟩:=hp _ _ _ _ (hx 0 hpos);exact hg j u hu hpu
 exact⟨b,o,rfl,Nat.lt_of_lt_of_le hB hs,fun i hi=>hR w w' b _ _ (fun j=>JM (hk b hB hb)) (hx i hi)⟩
def jX (u:Value):Prop:=∃q n,u=.int q n
def Wh (u:Value):Prop:=∃s,u=.string s
theorem V4 {w w':World} {v:Value} {L:List (Int×Int)} {g:Nat} (h:yd w v L) (hg:ks w g jX) (hs:w.heap.size<=w'.heap.size) (hk:∀k,k<w.heap.size->k≠g->w'.heap[k]?=w.heap[k]?):yd w' v L:=
 YX (R:=PerR) (p:=jX) (fun _ _ _ _ _ hj h=>⟨(hj _).trans h.1,(hj _).trans h.2⟩) (fun _ _ _ _ h=>⟨_,_,h.1,_,_,rfl⟩) h hg hs hk
theorem WW {α:Type} {c:α->List Value} {sz:Nat} {p:Value->Prop} (j0:Nat) (hj0:j0<sz) (hc:∀x,∃u,(c x)[j0]?=some u/\p u) {w w':World} {v:Value} {L:List α} {g:Nat} (h:zi c sz w v L) (hg:ks w g p) (hs:w.heap.size<=w'.heap.size) (hk:∀k,k<w.heap.size->k≠g->w'.heap[k]?=w.heap[k]?):zi c sz w' v L:=
 YX (R:=RecR c sz) (p:=p) (fun _ _ _ _ _ hj h j hjs=>(hj _).trans (h j hjs)) (fun _ _ _ x h=>by
  obtain⟨u,hu,hpu⟩:=hc x;exact⟨_,u,(h j0 hj0).trans hu,hpu⟩) h hg hs hk
theorem uT {ac:Int} {w w':World} {v:Value} {L:List HoX} {g:Nat} (h:zi (yK ac) 4 w v L) (hg:ks w g jX) (hs:w.heap.size<=w'.heap.size) (hk:∀k,k<w.heap.size->k≠g->w'.heap[k]?=w.heap[k]?):zi (yK ac) 4 w' v L:=
 WW (p:=jX) 0 (by decide) (fun x=>⟨_,rfl,_,_,rfl⟩) h hg hs hk
theorem Z7 {l:List Ev} {w w':World} {x:HoX} {g:Nat} (h:HoRd l w x) (hg:ks w g jX) (hs:w.heap.size<=w'.heap.size) (hk:∀k,k<w.heap.size->k≠g->w'.heap[k]?=w.heap[k]?):HoRd l w' x:=⟨V4 h.1 hg hs hk,h.2⟩
structure vO (l:List Ev) (ac:Int) (w:World) (m1 m2 k B:Nat) (E:List Had) (X:List HoX) (ms:List Value) (P:List (ByteArray×Nat)) (Kf:ByteArray->List Value) (vo:Value) (wr:World):Prop where
 had:QM l ac k (X.map (·.h))
 mine:OwnS 3 wr m1 ms
 minek:YK l ac k ms
 msl:ms.length<=B
 seen:OwnN wr m2 P
 seenl:P.length<=B
 inn:∀s b,valN P s=some b->OwnS 3 wr b (Kf s)/\m2<b/\(Kf s).length<=B
 inz:∀s,valN P s=none->Kf s=[]
 inj:∀s s' b,valN P s=some b->valN P s'=some b->s=s'
 kf:∀(n:Int) s,Value.int .i64 n∈Kf s↔(((n,s):Had)∈X.map (·.h)\/((n,s):Had)∈E)
 row:zi (yK ac) 4 wr vo X
 rd:∀x∈X,HoRd l wr x
 len:X.length<=k
 m12:m1<m2
 lo:w.heap.size<=m1
 below:Below w.heap.size w wr
section
variable {l:List Ev} {ac:Int} {w:World} {m1 m2 k B:Nat} {E:List Had} {X:List HoX} {ms:List Value} {P:List (ByteArray×Nat)} {Kf:ByteArray->List Value} {vo:Value} {wr wr':World}
theorem vO.go (h:vO l ac w m1 m2 k B E X ms P Kf vo wr) (hb:Below wr.heap.size wr wr'):vO l ac w m1 m2 k B E X ms P Kf vo wr':=
 ⟨h.had,h.mine.below hb,h.minek,h.msl,h.seen.keep (hb.block _ h.seen.lt),h.seenl,fun s b hs=>⟨(h.inn s b hs).1.below hb,(h.inn s b hs).2⟩,h.inz,h.inj,h.kf,h.row.below hb,fun x hx=>(h.rd x hx).below hb,h.len,h.m12,h.lo,h.below.trans (hb.mono h.below.size)⟩
theorem vO.mono (h:vO l ac w m1 m2 k B E X ms P Kf vo wr) {B':Nat} (hB:B<=B'):vO l ac w m1 m2 k B' E X ms P Kf vo wr:=
 ⟨h.had,h.mine,h.minek,Nat.le_trans h.msl hB,h.seen,Nat.le_trans h.seenl hB,fun s b hs=>⟨(h.inn s b hs).1,(h.inn s b hs).2.1,Nat.le_trans (h.inn s b hs).2.2 hB⟩,h.inz,h.inj,h.kf,h.row,h.rd,h.len,h.m12,h.lo,h.below⟩
theorem vO.skip (hr:yp l) (hk:k<l.length) (h:vO l ac w m1 m2 k B [] X ms P Kf vo wr) (h3:¬((l[k]).kd=3/\(l[k]).ac=ac)) (h8:(l[k]).kd≠8\/Value.int .i64 (l[k]).sb∉ms\/Value.int .i64 (l[k]).sb∈Kf (l[k]).nm):vO l ac w m1 m2 (k+1) (B+2) [] X ms P Kf vo wr:=
 ⟨Qg hr hk h.had (by
  rcases h8 with h8|h8|h8;· exact Or.inl h8
  · exact Or.inr (Or.inl fun hf=>h8 ((h.minek _).2 hf))
  rcases(h.kf _ _).1 h8 with h8|h8;· exact Or.inr (Or.inr h8)
  cases h8),h.mine,Y7 hk h.minek h3,by have:=h.msl;omega,h.seen,by have:=h.seenl;omega,fun s b hs=>⟨(h.inn s b hs).1,(h.inn s b hs).2.1,by have:=(h.inn s b hs).2.2;omega⟩,h.inz,h.inj,h.kf,h.row,h.rd,by have:=h.len;omega,h.m12,h.lo,h.below⟩
theorem vO.add (hr:yp l) (hk:k<l.length) (h:vO l ac w m1 m2 k B [] X ms P Kf vo wr) (h3:(l[k]).kd=3) (ha:(l[k]).ac=ac) (hm:OwnS 3 wr' m1 (ms++[.int .i64 (l[k]).sb])) (hg:wr.grownBy wr' (some m1)):vO l ac w m1 m2 (k+1) (B+2) [] X (ms++[.int .i64 (l[k]).sb]) P Kf vo wr':=by have hkb:∀j,j<wr.heap.size->j≠m1->wr'.heap[j]?=wr.heap[j]?:=fun j hj hne=>hg.block j hj (fun e=>hne (Option.some.inj e));obtain⟨es,c,hmap⟩:=h.mine.map;have hbl:=kG hmap jX;have hlo:=h.lo;have hm12:=h.m12;have hbs:=h.below.size;refine⟨Qg hr hk h.had (Or.inl (by omega)),hm,Xe hk h.minek h3 ha,by rw[List.length_append,List.length_singleton];have:=h.msl;omega,h.seen.keep (hkb _ h.seen.lt (by omega)),by have:=h.seenl;omega,fun s b hs=>?_,h.inz,h.inj,h.kf,uT h.row hbl hg.size hkb,fun x hx=>Z7 (h.rd x hx) hbl hg.size hkb,by have:=h.len;omega,hm12,hlo,h.below.grown hg h.below.size (fun i hi=>by cases hi;omega)⟩;obtain⟨q1,q2,q3⟩:=h.inn s b hs;exact⟨q1.keep (hkb _ q1.lt (by omega)),q2,by omega⟩
theorem vO.fresh (h:vO l ac w m1 m2 k B E X ms P Kf vo wr) {s:ByteArray} (hn:valN P s=none) (hm:OwnN wr' m2 (P++[(s,wr.heap.size)])) (hg:(wr.alloc (.map #[] 0)).grownBy wr' (some m2)):vO l ac w m1 m2 k (B+1) E X ms (P++[(s,wr.heap.size)]) Kf vo wr':=by
 have h1:vO l ac w m1 m2 k B E X ms P Kf vo (wr.alloc (.map #[] 0)):=h.go ((Below.refl _ _).alloc (Nat.le_refl _) _);have hsz:(wr.alloc (.map #[] 0)).heap.size=wr.heap.size+1:=by simp
 have hkb:∀j,j<(wr.alloc (.map #[] 0)).heap.size->j≠m2->wr'.heap[j]?=(wr.alloc (.map #[] 0)).heap[j]?:=fun j hj hne=>hg.block j hj (fun e=>hne (Option.some.inj e));obtain⟨es,c,hmap,-⟩:=h1.seen;have hbl:=kG hmap jX;have hlo:=h.lo;have hm12:=h.m12;have hbs:=h.below.size;have hm2:=h.seen.lt;refine⟨h.had,h1.mine.keep (hkb _ h1.mine.lt (by omega)),h.minek,by have:=h.msl;omega,hm,by rw[List.length_append,List.length_singleton];have:=h.seenl;omega,fun s' b hs=>?_,fun s' hs=>?_,fun s1 s2 b hs1 hs2=>?_,h.kf,uT h1.row hbl hg.size hkb,fun x hx=>Z7 (h1.rd x hx) hbl hg.size hkb,h.len,hm12,hlo,h1.below.grown hg h1.below.size (fun i hi=>by cases hi;omega)⟩
 · rw[kv]at hs
   split at hs
   · rename_i he
     obtain rfl:wr.heap.size=b:=Option.some.inj hs;have es:=(zI _ _).1 he;dsimp only at es;subst es;rw[h.inz s hn];exact⟨(OwnS.made 3 wr).keep (hkb _ (by omega) (by omega)),hm2,Nat.zero_le _⟩
   obtain⟨q1,q2,q3⟩:=h1.inn s' b hs;exact⟨q1.keep (hkb _ q1.lt (by omega)),q2,by omega⟩
 · rw[kv]at hs
   split at hs;· cases hs
   exact h.inz s' hs
 rw[kv]at hs1 hs2;split at hs1<;>split at hs2
 · rename_i e1 e2
   exact((zI _ _).1 e1).symm.trans ((zI _ _).1 e2)
 · have:=(h.inn _ _ hs2).1.lt
   have:=Option.some.inj hs1;omega
 · have:=(h.inn _ _ hs1).1.lt
   have:=Option.some.inj hs2;omega
 exact h.inj _ _ _ hs1 hs2
theorem vO.join (h:vO l ac w m1 m2 k B [] X ms P Kf vo wr) {s:ByteArray} {n:Int} {b:Nat} (hv:valN P s=some b) (hm:OwnS 3 wr' b (Kf s++[.int .i64 n])) (hg:wr.grownBy wr' (some b)):vO l ac w m1 m2 k (B+1) [(n,s)] X ms P (fun s'=>if yt s' s=true then Kf s++[.int .i64 n] else Kf s') vo wr':=by
 have hkb:∀j,j<wr.heap.size->j≠b->wr'.heap[j]?=wr.heap[j]?:=fun j hj hne=>hg.block j hj (fun e=>hne (Option.some.inj e));obtain⟨q1,q2,q3⟩:=h.inn s b hv;obtain⟨es,c,hmap⟩:=q1.map;have hbl:=kG hmap jX;have hlo:=h.lo;have hm12:=h.m12;have hbs:=h.below.size;refine⟨h.had,h.mine.keep (hkb _ h.mine.lt (by omega)),h.minek,by have:=h.msl;omega,h.seen.keep (hkb _ h.seen.lt (by omega)),by have:=h.seenl;omega,fun s' b' hs=>?_,fun s' hs=>?_,h.inj,fun n' s'=>?_,uT h.row hbl hg.size hkb,fun x hx=>Z7 (h.rd x hx) hbl hg.size hkb,h.len,hm12,hlo,h.below.grown hg h.below.size (fun i hi=>by cases hi;omega)⟩
 · by_cases he:yt s' s=true
   · have es:=(zI _ _).1 he
     subst es;obtain rfl:b'=b:=Option.some.inj (hs.symm.trans hv);rw[if_pos he];exact⟨hm,q2,by rw[List.length_append,List.length_singleton];omega⟩
   rw[if_neg he];obtain⟨p1,p2,p3⟩:=h.inn s' b' hs;have hne:b'≠b:=by rintro rfl;exact he ((zI _ _).2 (h.inj _ _ _ hs hv))
   exact⟨p1.keep (hkb _ p1.lt hne),p2,by omega⟩
 · rw[if_neg (fun he=>by
    have es:=(zI _ _).1 he;subst es;rw[hv]at hs;cases hs)]
   exact h.inz s' hs
 by_cases he:yt s' s=true
 · have es:=(zI _ _).1 he
   subst es;rw[if_pos he,List.mem_append,h.kf,List.mem_singleton,List.mem_singleton];constructor
   · rintro((h1|h1)|h1)
     · exact Or.inl h1
     · cases h1
     exact Or.inr (Prod.ext (by simpa using h1) rfl)
   rintro(h1|h1);· exact Or.inl (Or.inl h1)
   exact Or.inr (by have e:n'=n:=congrArg Prod.fst h1;rw[e])
 rw[if_neg he,h.kf,List.mem_singleton];constructor
 · rintro(h1|h1)
   · exact Or.inl h1
   cases h1
 rintro(h1|h1);· exact Or.inl h1
 exact absurd ((zI _ _).2 (congrArg Prod.snd h1)) he
theorem vO.fin (hk:k<l.length) (h:vO l ac w m1 m2 k B [((l[k]).sb,(l[k]).nm)] X ms P Kf vo wr) (h3:(l[k]).kd=8) (hm:Value.int .i64 (l[k]).sb∈ms) (hn:((l[k]).sb,(l[k]).nm)∉X.map (·.h)) {x:HoX} (hx:x.h=((l[k]).sb,(l[k]).nm)) {vo':Value} (hb:Below wr.heap.size wr wr') (hrow:zi (yK ac) 4 wr' vo' (insT (fun y:HoX=>yH y.h x.h) x X)) (hrd:HoRd l wr' x):vO l ac w m1 m2 (k+1) B [] (insT (fun y:HoX=>yH y.h x.h) x X) ms P Kf vo' wr':=by
 have h1:=h.go hb;refine⟨?_,h1.mine,Y7 hk h.minek (by omega),h.msl,h1.seen,h.seenl,h1.inn,h.inz,h.inj,fun n s=>?_,hrow,fun y hy=>?_,by rw[kD];have:=h.len;omega,h.m12,h.lo,h1.below⟩
 · rw[Wi,hx]
   exact Ge hk h.had h3 ((h.minek _).1 hm) hn
 · rw[h.kf,Wi,jY,hx,List.mem_singleton]
   simp
 rcases jY.1 hy with hy|rfl;· exact h1.rd y hy
 exact hrd
end
end Go.Proofs.YtngippiilgdnoaaGreat
