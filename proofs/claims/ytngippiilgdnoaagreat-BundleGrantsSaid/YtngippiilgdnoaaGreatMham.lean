/-
  The walks of the value of an event and of an event's form.
-/
import Derived.Test.YtngippiilgdnoaaGreatMhab
import Derived.Test.YtngippiilgdnoaaGreatMhal
import Derived.Test.YtngippiilgdnoaaGreatMhaj
import Derived.Deep.LoopGhost
import Derived.WalkMore
set_option maxRecDepth 100000
set_option maxHeartbeats 25600000
namespace Go.Proofs.YtngippiilgdnoaaGreat
open Go.RowKit
def jt (e:Ev):List Value:=[.int .i64 e.tm,.int .i64 e.kd,.int .i64 e.ac,.int .i64 e.sb,.string e.nu,.string e.nm,.int .i64 e.vl]
def yU (e:Ev):Value:=.agg #[.int .i64 e.tm,.int .i64 e.kd,.int .i64 e.ac,.int .i64 e.sb,.string e.nu,.string e.nm,.int .i64 e.vl]
def vE (w:World) (v:Value) (l:List Ev):Prop:=zi jt 7 w v l/\∀e∈l,e.nu.size<=maxLen/\e.nm.size<=maxLen
theorem vE.below {w w':World} {v:Value} {l:List Ev} (h:vE w v l) (hb:Below w.heap.size w w'):vE w' v l:=⟨h.1.below hb,h.2⟩
def vS (a:Ac):List Value:=[.int .i64 a.id,.int .i64 a.si,.int .i64 a.an,.bool a.pre,.bool a.clo,.slice none 0 0]
structure SbX where
 s:Sb
 na:Option Addr
 nn:Nat
 nc:Nat
 pa:Option Addr
 pn:Nat
 pc:Nat
def zK (x:SbX):List Value:=[.int .i64 x.s.id,.int .i64 x.s.ac,.int .i64 x.s.si,.string x.s.plan,.slice x.na x.nn x.nc,.slice x.pa x.pn x.pc,.bool x.s.su,.bool x.s.fa]
def jb (x:SbX):Value:=.agg #[.int .i64 x.s.id,.int .i64 x.s.ac,.int .i64 x.s.si,.string x.s.plan,.slice x.na x.nn x.nc,.slice x.pa x.pn x.pc,.bool x.s.su,.bool x.s.fa]
def qF (a:Option Addr):Prop:=∀ad,a=some ad->ad.spot=none
theorem qF.nil:qF none:=fun _ h=>by cases h
theorem qF.at (b o:Nat):qF (some ⟨b,o,none⟩):=fun _ h=>by cases h;rfl
def SbRd (w:World) (x:SbX):Prop:=zR w (.slice x.na x.nn x.nc) x.s.nus/\zR w (.slice x.pa x.pn x.pc) x.s.prs/\x.s.plan.size<=maxLen/\qF x.na/\qF x.pa
theorem SbRd.below {w w':World} {x:SbX} (h:SbRd w x) (hb:Below w.heap.size w w'):SbRd w' x:=⟨h.1.below hb,h.2.1.below hb,h.2.2⟩
structure BkAt (w:World) (va vs ve:Value) (X:List SbX) (b:Bk):Prop where
 a:zi vS 6 w va b.accs
 s:zi zK 8 w vs X
 x:X.map (·.s)=b.subs
 r:∀x∈X,SbRd w x
 e:zi qq 1 w ve b.ended
theorem BkAt.below {w w':World} {va vs ve:Value} {X:List SbX} {b:Bk} (h:BkAt w va vs ve X b) (hb:Below w.heap.size w w'):BkAt w' va vs ve X b:=
 ⟨h.a.below hb,h.s.below hb,h.x,fun x hx=>(h.r x hx).below hb,h.e.below hb⟩
theorem BkAt.len {w:World} {va vs ve:Value} {X:List SbX} {b:Bk} (h:BkAt w va vs ve X b):X.length=b.subs.length:=by rw[<-h.x,List.length_map]
theorem zq {α:Type} {c:α->List Value} {sz:Nat} {w:World} {v:Value} {l:List α} (h:zi c sz w v l):∃a n,v=.slice a l.length n/\l.length<=n/\n<=maxLen:=by obtain⟨a,n,rfl,h1,h2,-⟩:=h;exact⟨a,n,rfl,h1,h2.1⟩
theorem Zl (va vs ve:Value) (X:List SbX) (b:Bk) (n:Int) (w:World) (h:BkAt w va vs ve X b):
 Calls Tryz.prog 116 #[.agg #[va,vs,ve],.int .i64 n] w fun e w'=>e=.returned (.int .i64 (qm b n))/\Below w.heap.size w w':=by
 have hA:=h.a;obtain⟨aa,an,rfl,hla,hma⟩:=zq h.a;obtain⟨sa,sn,rfl,-,-⟩:=zq h.s;obtain⟨ea,en,rfl,-,-⟩:=zq h.e;obtain⟨W,hW⟩:∃W,W=w.alloc (Obj.cells #[.slice aa b.accs.length an,.slice sa X.length sn,.slice ea b.ended.length en] 142):=⟨_,rfl⟩;have hw0:Below w.heap.size w W:=by rw[hW];go_grown
 have r0:W.heap[w.heap.size]?=some (Obj.cells #[.slice aa b.accs.length an,.slice sa X.length sn,.slice ea b.ended.length en] 142):=by rw[hW];exact heap_alloc_new _ _
 have c0:=cell_of_row W _ 0 _ _ _ r0;have HA:=zb (hA.below hw0);have HI:=zb (show qm b n=ixOf (fun a=>decide (a.id=n)) b.accs from rfl);rw[HI.out];generalize b.accs=L at *;unfold maxLen at hma;have HW:=zb hW;have Hw0:=zb hw0;clear hW hw0 r0 h hA HI;go_enter Tryz.func116,Tryz.ntmps116;go_upto_region 1 with(fail);rw[<-HW.out];go_wp2_with fail;go_loop [5] (fun i=>∃k:Nat,k<=L.length/\i=.int .i64 k/\(L.take k).any (fun a=>decide (a.id=n))=false) (fun i=>L.length-(intOf i).toNat);case atStart=>exact⟨0,Nat.zero_le _,rfl,rfl⟩
 case round=>
  obtain⟨k,hk,rfl,hno⟩:=hrel;have Hno:=zb hno;clear hno;by_cases hlt:k<L.length
  · have hk1:(k:Int)<(L.length:Int):=by omega
    have hk0:(0:Int)<=(k:Int):=Int.natCast_nonneg _;obtain⟨a2,n2,e2,-,-,hx⟩:=HA.out;cases e2;obtain⟨bb,o,rfl,hB,hx⟩:=hx (by rintro rfl;cases hlt);have x0:W.cell? ⟨bb,o+k*6,none⟩=some (.int .i64 (L[k]).id):=hx k hlt 0 (by decide);have HH:=zb (fun hp=>Z5 (p:=fun a=>decide (a.id=n)) hlt Hno.out hp);have HT:=zb (fun hp=>qC (p:=fun a=>decide (a.id=n)) hlt Hno.out hp);clear hx;generalize L[k]=a at *;by_cases hid:a.id=n
    · have hidb:(a.id==n)=true:=beq_iff_eq.2 hid
      have HE:=zb (HH.out (decide_eq_true hid));clear hid;go_wp2;go_ret;exact⟨zO HE.out.symm,Hw0.out⟩
    have hidb:(a.id==n)=false:=beq_eq_false_iff_ne.2 hid;have HE:=zb (HT.out (decide_eq_false hid));clear hid;go_wp2;exact⟨⟨k+1,by omega,by go_num,HE.out⟩,by simp[intOf];omega⟩
  have HE:=zb (Qd (by omega) Hno.out);go_wp2;go_ret;exact⟨zO HE.out.symm,Hw0.out⟩
theorem kx (va vs ve:Value) (X:List SbX) (b:Bk) (n:Int) (w:World) (h:BkAt w va vs ve X b):
 Calls Tryz.prog 117 #[.agg #[va,vs,ve],.int .i64 n] w fun e w'=>e=.returned (.int .i64 (zT b n))/\Below w.heap.size w w':=by
 have hA:=h.s;have hXs:=h.x;obtain⟨aa,an,rfl,-,-⟩:=zq h.a;obtain⟨sa,sn,rfl,hla,hma⟩:=zq h.s;obtain⟨ea,en,rfl,-,-⟩:=zq h.e;obtain⟨W,hW⟩:∃W,W=w.alloc (Obj.cells #[.slice aa b.accs.length an,.slice sa X.length sn,.slice ea b.ended.length en] 142):=⟨_,rfl⟩;have hw0:Below w.heap.size w W:=by rw[hW];go_grown
 have r0:W.heap[w.heap.size]?=some (Obj.cells #[.slice aa b.accs.length an,.slice sa X.length sn,.slice ea b.ended.length en] 142):=by rw[hW];exact heap_alloc_new _ _
 have c0:=cell_of_row W _ 1 _ _ _ r0;have HA:=zb (hA.below hw0);have HI:=zb (show zT b n=ixOf (fun a=>decide (a.id=n)) b.subs from rfl);have HI2:=zb (show ixOf (fun s:Sb=>decide (s.id=n)) b.subs=ixOf (fun x:SbX=>decide (x.s.id=n)) X by
  rw[<-hXs];unfold ixOf;rw[List.any_map,List.findIdx_map]
  rfl);rw[HI.out,HI2.out];unfold maxLen at hma;have HW:=zb hW;have Hw0:=zb hw0;clear hW hw0 r0 h hA HI HI2 hXs;go_enter Tryz.func117,Tryz.ntmps117;go_upto_region 1 with(fail);rw[<-HW.out];go_wp2_with fail;go_loop [5] (fun i=>∃k:Nat,k<=X.length/\i=.int .i64 k/\(X.take k).any (fun a=>decide (a.s.id=n))=false) (fun i=>X.length-(intOf i).toNat);case atStart=>exact⟨0,Nat.zero_le _,rfl,rfl⟩
 case round=>
  obtain⟨k,hk,rfl,hno⟩:=hrel;have Hno:=zb hno;clear hno;by_cases hlt:k<X.length
  · have hk1:(k:Int)<(X.length:Int):=by omega
    have hk0:(0:Int)<=(k:Int):=Int.natCast_nonneg _;obtain⟨a2,n2,e2,-,-,hx⟩:=HA.out;cases e2;obtain⟨bb,o,rfl,hB,hx⟩:=hx (by rintro rfl;cases hlt);have x0:W.cell? ⟨bb,o+k*8,none⟩=some (.int .i64 (X[k]).s.id):=hx k hlt 0 (by decide);have HH:=zb (fun hp=>Z5 (p:=fun a=>decide (a.s.id=n)) hlt Hno.out hp);have HT:=zb (fun hp=>qC (p:=fun a=>decide (a.s.id=n)) hlt Hno.out hp);clear hx;generalize X[k]=a at *;by_cases hid:a.s.id=n
    · have hidb:(a.s.id==n)=true:=beq_iff_eq.2 hid
      have HE:=zb (HH.out (decide_eq_true hid));clear hid;go_wp2;go_ret;exact⟨zO HE.out.symm,Hw0.out⟩
    have hidb:(a.s.id==n)=false:=beq_eq_false_iff_ne.2 hid;have HE:=zb (HT.out (decide_eq_false hid));clear hid;go_wp2;exact⟨⟨k+1,by omega,by go_num,HE.out⟩,by simp[intOf];omega⟩
  have HE:=zb (Qd (by omega) Hno.out);go_wp2;go_ret;exact⟨zO HE.out.symm,Hw0.out⟩
theorem kp (va vs ve:Value) (X:List SbX) (b:Bk) (n:Int) (w:World) (h:BkAt w va vs ve X b):
 Calls Tryz.prog 154 #[.agg #[va,vs,ve],.int .i64 n] w fun e w'=>e=.returned (.bool (vk b n))/\Below w.heap.size w w':=by
 have hA:=h.e;obtain⟨aa,an,rfl,-,-⟩:=zq h.a;obtain⟨sa,sn,rfl,-,-⟩:=zq h.s;obtain⟨ea,en,rfl,hla,hma⟩:=zq h.e;obtain⟨W,hW⟩:∃W,W=w.alloc (Obj.cells #[.slice aa b.accs.length an,.slice sa X.length sn,.slice ea b.ended.length en] 142):=⟨_,rfl⟩;have hw0:Below w.heap.size w W:=by rw[hW];go_grown
 have r0:W.heap[w.heap.size]?=some (Obj.cells #[.slice aa b.accs.length an,.slice sa X.length sn,.slice ea b.ended.length en] 142):=by rw[hW];exact heap_alloc_new _ _
 have c0:=cell_of_row W _ 2 _ _ _ r0;have HA:=zb (hA.below hw0);have HI:=zb (show vk b n=b.ended.any fun m=>decide (m=n)from rfl);rw[HI.out];generalize b.ended=L at *;unfold maxLen at hma;have HW:=zb hW;have Hw0:=zb hw0;clear hW hw0 r0 h hA HI;go_enter Tryz.func154,Tryz.ntmps154;go_upto_region 1 with(fail);rw[<-HW.out];go_wp2_with fail;go_loop [5] (fun i=>∃k:Nat,k<=L.length/\i=.int .i64 k/\(L.take k).any (fun a=>decide (a=n))=false) (fun i=>L.length-(intOf i).toNat);case atStart=>exact⟨0,Nat.zero_le _,rfl,rfl⟩
 case round=>
  obtain⟨k,hk,rfl,hno⟩:=hrel;have Hno:=zb hno;clear hno;by_cases hlt:k<L.length
  · have hk1:(k:Int)<(L.length:Int):=by omega
    have hk0:(0:Int)<=(k:Int):=Int.natCast_nonneg _;obtain⟨a2,n2,e2,-,-,hx⟩:=HA.out;cases e2;obtain⟨bb,o,rfl,hB,hx⟩:=hx (by rintro rfl;cases hlt);have x0:W.cell? ⟨bb,o+k,none⟩=some (.int .i64 L[k]):=by have h:=hx k hlt 0 (by decide);rw[Nat.mul_one]at h;exact h
    have HH:=zb (fun hp=>Vx (p:=fun a=>decide (a=n)) hlt hp);have HT:=zb (fun hp=>qC (p:=fun a=>decide (a=n)) hlt Hno.out hp);clear hx;generalize L[k]=a at *;by_cases hid:a=n
    · have hidb:(a==n)=true:=beq_iff_eq.2 hid
      have HE:=zb (HH.out (decide_eq_true hid));clear hid;go_wp2;go_ret;exact⟨zo HE.out.symm,Hw0.out⟩
    have hidb:(a==n)=false:=beq_eq_false_iff_ne.2 hid;have HE:=zb (HT.out (decide_eq_false hid));clear hid;go_wp2;exact⟨⟨k+1,by omega,by go_num,HE.out⟩,by simp[intOf];omega⟩
  have HE:=zb (Vy (by omega) Hno.out);go_wp2;go_ret;exact⟨zo HE.out.symm,Hw0.out⟩
theorem Yz (v:Value) (L:List ByteArray) (s:ByteArray) (w:World) (h:zR w v L):
 Calls Tryz.prog 110 #[v,.string s] w fun e w'=>e=.returned (.bool (L.any fun x=>yt x s))/\w=w':=by
 have HA:=zb h;obtain⟨aa,an,rfl,hla,hma,-⟩:=h;have hma:=hma.1;unfold maxLen at hma;go_enter Tryz.func110,Tryz.ntmps110;go_wp2_with fail;go_loop [5] (fun i=>∃k:Nat,k<=L.length/\i=.int .i64 k/\(L.take k).any (fun x=>yt x s)=false) (fun i=>L.length-(intOf i).toNat);case atStart=>exact⟨0,Nat.zero_le _,rfl,rfl⟩
 case round=>
  obtain⟨k,hk,rfl,hno⟩:=hrel;have Hno:=zb hno;clear hno;by_cases hlt:k<L.length
  · have hk1:(k:Int)<(L.length:Int):=by omega
    have hk0:(0:Int)<=(k:Int):=Int.natCast_nonneg _;obtain⟨a2,n2,e2,-,-,hx⟩:=HA.out;cases e2;obtain⟨bb,o,rfl,hB,hx⟩:=hx (by rintro rfl;cases hlt);obtain⟨x0,-⟩:=hx k hlt;rw[Nat.mul_one]at x0;have HH:=zb (fun hp=>Vx (p:=fun x=>yt x s) hlt hp);have HT:=zb (fun hp=>qC (p:=fun x=>yt x s) hlt Hno.out hp);clear hx;generalize L[k]=a at *;cases hid:(a.toList==s.toList)with
    |true=>have HE:=zb (HH.out hid);go_wp2;go_ret;exact⟨zo HE.out.symm,rfl⟩
    |false=>have HE:=zb (HT.out hid);go_wp2;exact⟨⟨k+1,by omega,by go_num,HE.out⟩,by simp[intOf];omega⟩
  have HE:=zb (Vy (by omega) Hno.out);go_wp2;go_ret;exact⟨zo HE.out.symm,rfl⟩
def xu (w:World) (e:Ending) (w':World):Prop:=∃b,e=.returned (.bool b)/\w=w'
theorem KS {w:World} (b:Bool):xu w (.returned (.bool b)) w:=⟨b,rfl,rfl⟩
def idB (n:Int):Bool:=decide (1<=n/\n<=9999)
theorem Wm (n:Int):idB n=true↔1<=n/\n<=9999:=decide_eq_true_iff
theorem El (n:Int) (w:World):Calls Tryz.prog 150 #[.int .i64 n] w fun e w'=>e=.returned (.bool (idB n))/\w=w':=by
 by_cases h1:1<=n
 · have k1:decide (1<=n)=true:=decide_eq_true h1
   by_cases h2:n<=9999
   · have k2:decide (n<=9999)=true:=decide_eq_true h2
     have H:=zb (show idB n=true from decide_eq_true ⟨h1,h2⟩);go_enter Tryz.func150,Tryz.ntmps150;go_wp2;go_ret;exact⟨zo H.out.symm,rfl⟩
   have k2:decide (n<=9999)=false:=decide_eq_false h2;have H:=zb (show idB n=false from decide_eq_false fun h=>h2 h.2);go_enter Tryz.func150,Tryz.ntmps150;go_wp2;go_ret;exact⟨zo H.out.symm,rfl⟩
 have k1:decide (1<=n)=false:=decide_eq_false h1;have H:=zb (show idB n=false from decide_eq_false fun h=>h1 h.1);go_enter Tryz.func150,Tryz.ntmps150;go_wp2;go_ret;exact⟨zo H.out.symm,rfl⟩
theorem J8 (s:ByteArray) (w:World) (hs:s.size<=maxLen):Calls Tryz.prog 119 #[.string s] w (xu w):=by
 unfold maxLen at hs;by_cases h0:0<s.size
 · by_cases h24:s.size<=24
   · go_enter Tryz.func119,Tryz.ntmps119
     go_wp2
     all_goals first
      |(go_ret;exact KS _)
      |skip
     go_loop [3] (fun i=>∃k:Nat,k<=s.size/\i=.int .i64 k) (fun i=>s.size-(intOf i).toNat);case atStart=>exact⟨0,Nat.zero_le _,rfl⟩
     case round=>
      obtain⟨k,hk,rfl⟩:=hrel;by_cases hlt:k<s.size
      · have hk1:(k:Int)<(s.size:Int):=by omega
        have hk0:(0:Int)<=(k:Int):=Int.natCast_nonneg _;go_wp2
        all_goals first
         |(go_ret;exact KS _)
         |exact⟨⟨k+1,by omega,by go_num⟩,by simp[intOf];omega⟩
      go_wp2;go_ret;exact KS _
   go_enter Tryz.func119,Tryz.ntmps119;go_wp2;go_ret;exact KS _
 go_enter Tryz.func119,Tryz.ntmps119;go_wp2;go_ret;exact KS _
def usV (k:Int):Array Value:=
 if k=1 then #[.bool true,.bool false,.bool false,.bool true,.bool true]
 else if k=2 then #[.bool true,.bool false,.bool false,.bool false,.bool false]
 else if k=3 then #[.bool true,.bool true,.bool false,.bool true,.bool false]
 else if k=5\/k=6 then #[.bool false,.bool true,.bool true,.bool false,.bool false]
 else if k=7\/k=8\/k=9 then #[.bool false,.bool true,.bool false,.bool true,.bool false]
 else if k=14\/k=15 then #[.bool true,.bool false,.bool false,.bool false,.bool true]
 else #[.bool false,.bool true,.bool false,.bool false,.bool false]
theorem VH (k:Int) (w:World) (h1:1<=k) (h2:k<=15):Calls Tryz.prog 113 #[.int .i64 k] w fun e w'=>e=.returned (.agg (usV k))/\Below w.heap.size w w':=by
 obtain rfl|rfl|rfl|rfl|rfl|rfl|rfl|rfl|rfl|rfl|rfl|rfl|rfl|rfl|rfl:k=1\/k=2\/k=3\/k=4\/k=5\/k=6\/k=7\/k=8\/k=9\/k=10\/k=11\/k=12\/k=13\/k=14\/k=15:=by omega
 all_goals
  go_enter Tryz.func113,Tryz.ntmps113;go_wp2;refine bodyPost_ret (v:=.agg _) (by simp[results,Tryz.results113,go_sem];rfl) rfl ⟨rfl,?_⟩;go_grown
def xt (ev:Ev) (w:World) (e:Ending) (w':World):Prop:=∃b,e=.returned (.bool b)/\(b=true->ev.kd=1->1<=ev.vl/\ev.vl<=28)/\Below w.heap.size w w'
theorem valTo {ev:Ev} {w w':World} (b:Bool) (h:b=true->ev.kd=1->1<=ev.vl/\ev.vl<=28) (hb:Below w.heap.size w w'):xt ev w (.returned (.bool b)) w':=⟨b,rfl,h,hb⟩
theorem WH (ev:Ev) (w:World):Calls Tryz.prog 152 #[yU ev] w (xt ev w):=by
 have HT:=zb (fun b w'=>@valTo ev w w' b);obtain⟨tm,kd,ac,sb,nu,nm,vl⟩:=ev;unfold yU;dsimp only at HT⊢;by_cases hk:kd=1
 · subst hk
   by_cases h1:1<=vl
   · have k1:decide (1<=vl)=true:=decide_eq_true h1
     by_cases h2:vl<=28
     · have k2:decide (vl<=28)=true:=decide_eq_true h2
       go_enter Tryz.func152,Tryz.ntmps152;go_wp2;go_ret;exact HT.out _ _ (fun _ _=>⟨h1,h2⟩) (by go_grown)
     have k2:decide (vl<=28)=false:=decide_eq_false h2;go_enter Tryz.func152,Tryz.ntmps152;go_wp2;go_ret;exact HT.out false _ (fun h=>by cases h) (by go_grown)
   have k1:decide (1<=vl)=false:=decide_eq_false h1;go_enter Tryz.func152,Tryz.ntmps152;go_wp2;go_ret;exact HT.out false _ (fun h=>by cases h) (by go_grown)
 have hkb:(kd==1)=false:=beq_eq_false_iff_ne.2 hk;have Hk:=zb hk;clear hk;go_enter Tryz.func152,Tryz.ntmps152;go_wp2;all_goals
  go_ret;exact HT.out _ _ (fun _ h=>absurd h Hk.out) (by go_grown)
structure XM (last:Int) (e:Ev):Prop where
 k1:1<=e.kd
 k2:e.kd<=15
 t0:0<=e.tm
 t1:e.tm<12622780800
 t2:last<=e.tm
 a1:vB e.kd=true->1<=e.ac/\e.ac<=9999
 a0:vB e.kd=false->e.ac=0
 s1:qv e.kd=true->1<=e.sb/\e.sb<=9999
 s0:qv e.kd=false->e.sb=0
 v1:e.kd=1->1<=e.vl/\e.vl<=28
def XL (last:Int) (ev:Ev) (w:World) (e:Ending) (w':World):Prop:=∃r,e=.returned (.int .i64 r)/\(r=0->XM last ev)/\Below w.heap.size w w'
theorem Wp {last:Int} {ev:Ev} {w w':World} {r:Int} (h:r≠0) (hb:Below w.heap.size w w'):XL last ev w (.returned (.int .i64 r)) w':=⟨r,rfl,fun e=>absurd e h,hb⟩
end Go.Proofs.YtngippiilgdnoaaGreat
