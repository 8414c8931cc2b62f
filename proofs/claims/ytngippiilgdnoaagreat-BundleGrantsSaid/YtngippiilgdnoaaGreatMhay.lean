/-
  The dues plainly: the cycles that end in a window, ordered by their ends and accounts.
-/
import Derived.Test.YtngippiilgdnoaaGreatMhax
import Derived.Test.YtngippiilgdnoaaGreatMhac
import Derived.Test.YtngippiilgdnoaaGreatMhaq
import Derived.Test.YtngippiilgdnoaaGreatMhat
set_option maxRecDepth 100000
set_option maxHeartbeats 25600000
namespace Go.Proofs.YtngippiilgdnoaaGreat
open Go.RowKit
theorem Tryz.accInfo:(Tryz.prog.info? 178).map (fun i=>(i.zero,i.size,i.bytes))=some (some (.agg #[.int .i64 0,.int .i64 0,.int .i64 0,.bool false,.bool false,.slice none 0 0]),6,56):=by kernel_rfl
theorem Tryz.subInfo:(Tryz.prog.info? 181).map (fun i=>(i.zero,i.size,i.bytes))=some (some (.agg #[.int .i64 0,.int .i64 0,.int .i64 0,.string ⟨#[]⟩,.slice none 0 0,.slice none 0 0,.bool false,.bool false]),8,96):=by kernel_rfl
theorem KF (a:Ac):∀u∈vS a,u.oneCell'=true:=by intro u hu;simp only[vS,List.mem_cons,List.not_mem_nil,or_false]at hu;rcases hu with rfl|rfl|rfl|rfl|rfl|rfl<;>rfl
theorem VS (x:SbX):∀u∈zK x,u.oneCell'=true:=by intro u hu;simp only[zK,List.mem_cons,List.not_mem_nil,or_false]at hu;rcases hu with rfl|rfl|rfl|rfl|rfl|rfl|rfl|rfl<;>rfl
structure BkSt (W wx:World) (g:Nat) (s1 s2 s3:Value) (A:List Ac) (X:List SbX) (E:List Int):Prop where
 row:wx.heap[g]?=some (Obj.cells #[s1,s2,s3] 142)
 hg:W.heap.size<=g
 o1:wx.ownsRow W.heap.size 178 6 s1 A.length (A.flatMap vS)
 o2:wx.ownsRow W.heap.size 181 8 s2 X.length (X.flatMap zK)
 o3:wx.ownsRow W.heap.size 3 1 s3 E.length (E.flatMap qq)
 b:Below W.heap.size W wx
theorem BkSt.below {W wx w2:World} {g:Nat} {s1 s2 s3:Value} {A:List Ac} {X:List SbX} {E:List Int} (h:BkSt W wx g s1 s2 s3 A X E) (hb:Below wx.heap.size wx w2):BkSt W w2 g s1 s2 s3 A X E:=
 ⟨(hb.block _ (zu h.row)).trans h.row,h.hg,zd h.o1 hb,zd h.o2 hb,zd h.o3 hb,h.b.trans (hb.mono h.b.size)⟩
theorem BkSt.lt {W wx:World} {g:Nat} {s1 s2 s3:Value} {A:List Ac} {X:List SbX} {E:List Int} (h:BkSt W wx g s1 s2 s3 A X E):g<wx.heap.size:=(zu h.row)
theorem zt {w:World} {base:Nat} {e:TypeId} {sz n g:Nat} {v:Value} {xs:List Value} (h:w.ownsRow base e sz v n xs) (hg:v.ownBlock≠some g) (cs:Array Value):(w.setRow g cs).ownsRow base e sz v n xs:=by
 obtain⟨h1,h2⟩:=h;refine⟨h1,?_⟩;rcases h2 with h2|⟨g',cap,cur,hv,hg',hh,r⟩;· exact Or.inl h2
 exact Or.inr ⟨g',cap,cur,hv,hg',by rw[setRow_other _ _ _ _ (by intro e;subst hv;exact hg (by rw[<-e];rfl))];exact hh,r⟩
theorem zp {w:World} {base:Nat} {e:TypeId} {sz n g j:Nat} {v u:Value} {xs:List Value} (h:w.ownsRow base e sz v n xs) (hg:v.ownBlock≠some g):(w.setCell ⟨g,j,none⟩ u).ownsRow base e sz v n xs:=by
 obtain⟨h1,h2⟩:=h;refine⟨h1,?_⟩;rcases h2 with h2|⟨g',cap,cur,hv,hg',hh,r⟩;· exact Or.inl h2
 exact Or.inr ⟨g',cap,cur,hv,hg',zF hh (by intro e;subst hv;exact hg (by rw[<-e];rfl)),r⟩
def PaIn (B:Nat) (Y:List SbX) (x:SbX):Prop:=(∃y∈Y,x.pa=y.pa)\/jd B x.pa
theorem PaIn.old {B:Nat} {Y:List SbX} {x:SbX} (h:x∈Y):PaIn B Y x:=Or.inl ⟨x,h,rfl⟩
def Ym (Y:List SbX) (b:Bk) (w:World) (e:Ending) (w':World):Prop:=∃(a1 a2 a3:Option Addr) (n1 n2 n3 c1 c2 c3:Nat) (X:List SbX),e=.returned (.agg #[.slice a1 n1 c1,.slice a2 n2 c2,.slice a3 n3 c3])/\BkAt w' (.slice a1 n1 c1) (.slice a2 n2 c2) (.slice a3 n3 c3) X b/\Below w.heap.size w w'/\∀x∈X,PaIn w.heap.size Y x
theorem BkSt.finish {w W wx:World} {g R:Nat} {s1 s2 s3:Value} {A:List Ac} {X Y:List SbX} {E:List Int} {b:Bk} (h:BkSt W wx g s1 s2 s3 A X E) (hF:∀x∈X,PaIn w.heap.size Y x) (hw:Below w.heap.size w W) (hR:w.heap.size<=R) (hRW:R<W.heap.size) (cs:Array Value)
 (hA:A=b.accs) (hX:X.map (·.s)=b.subs) (hE:E=b.ended) (hr:∀x∈X,SbRd (wx.setRow R cs) x):Ym Y b w (.returned (.agg #[s1,s2,s3])) (wx.setRow R cs):=by
 obtain⟨row,hg,o1,o2,o3,hb⟩:=h;have key:∀{e:TypeId} {sz n:Nat} {v:Value} {xs:List Value},wx.ownsRow W.heap.size e sz v n xs->v.ownBlock≠some R:=fun h e=>by
  have:=(zg h R e).1;omega
 have p1:=zt o1 (key o1) cs;have p2:=zt o2 (key o2) cs;have p3:=zt o3 (key o3) cs;obtain⟨a1,c1,rfl,-,-⟩:=zf o1;obtain⟨a2,c2,rfl,-,-⟩:=zf o2;obtain⟨a3,c3,rfl,-,-⟩:=zf o3;refine⟨a1,a2,a3,_,_,_,c1,c2,c3,X,rfl,⟨?_,zi.own (fun _=>rfl) p2,hX,hr,?_⟩,zj (hw.trans (hb.mono hw.size)) hR cs,hF⟩;· rw[<-hA];exact zi.own (fun _=>rfl) p1
 rw[<-hE];exact zi.own (fun _=>rfl) p3
def UL (w W:World) (va vs ve:Value) (A:List Ac) (X:List SbX) (E:List Int):Nat->Value->World->Prop
 |0,v,w'=>∃g,v=.slice (some ⟨g,0,none⟩) 0 0/\w'.ownsRow W.heap.size 178 6 (.slice (some ⟨g,0,none⟩) 0 0) 0 []
 |1,v,_=>v=.pointer (some ⟨w.heap.size,0,none⟩)
 |2,v,_=>v=va
 |3,v,w'=>w'.ownsRow W.heap.size 178 6 v A.length (A.flatMap vS)
 |4,v,w'=>∃g,v=.slice (some ⟨g,0,none⟩) 0 0/\w'.ownsRow W.heap.size 181 8 (.slice (some ⟨g,0,none⟩) 0 0) 0 []
 |5,v,_=>v=.pointer (some ⟨w.heap.size,1,none⟩)
 |6,v,_=>v=vs
 |7,v,w'=>w'.ownsRow W.heap.size 181 8 v X.length (X.flatMap zK)
 |8,v,w'=>∃g,v=.slice (some ⟨g,0,none⟩) 0 0/\w'.ownsRow W.heap.size 3 1 (.slice (some ⟨g,0,none⟩) 0 0) 0 []
 |9,v,_=>v=.pointer (some ⟨w.heap.size,2,none⟩)
 |10,v,_=>v=ve
 |11,v,w'=>w'.ownsRow W.heap.size 3 1 v E.length (E.flatMap qq)
 |12,v,w'=>∃v1 v2 v3,v=.agg #[v1,v2,v3]/\w'.ownsRow W.heap.size 178 6 v1 A.length (A.flatMap vS)/\w'.ownsRow W.heap.size 181 8 v2 X.length (X.flatMap zK)/\w'.ownsRow W.heap.size 3 1 v3 E.length (E.flatMap qq)
 |13,v,w'=>∃g cs,v=.pointer (some ⟨g,0,none⟩)/\W.heap.size<=g/\w'.heap[g]?=some (Obj.cells cs 142)/\cs.size=3
 |_,_,_=>True
theorem xq {w W:World} {va vs ve:Value} {A:List Ac} {X:List SbX} {E:List Int} {w1 w2:World} (hb:Below w1.heap.size w1 w2):∀j y,UL w W va vs ve A X E j y w1->UL w W va vs ve A X E j y w2
 |0,_,⟨g,h1,h2⟩=>⟨g,h1,zd h2 hb⟩
 |1,_,h=>h
 |2,_,h=>h
 |3,_,h=>zd h hb
 |4,_,⟨g,h1,h2⟩=>⟨g,h1,zd h2 hb⟩
 |5,_,h=>h
 |6,_,h=>h
 |7,_,h=>zd h hb
 |8,_,⟨g,h1,h2⟩=>⟨g,h1,zd h2 hb⟩
 |9,_,h=>h
 |10,_,h=>h
 |11,_,h=>zd h hb
 |12,_,⟨v1,v2,v3,h0,h1,h2,h3⟩=>⟨v1,v2,v3,h0,zd h1 hb,zd h2 hb,zd h3 hb⟩
 |13,_,⟨g,cs,h1,h2,h3,h4⟩=>⟨g,cs,h1,h2,(hb.block _ (zu h3)).trans h3,h4⟩
 |_+14,_,_=>trivial
theorem Ki (n:Int):∀u∈qq n,u.oneCell'=true:=by intro u hu;simp only[qq,List.mem_cons,List.not_mem_nil,or_false]at hu;rw[hu];rfl
theorem JJ {α:Type} {c:α->List Value} {sz:Nat} (hc:∀a,(c a).length=sz) (l:List α) (k j:Nat) (x:α) (u:Value) (h:k<l.length) (hj:j<sz) (hx:c x=(c l[k]).set j u):(l.flatMap c).set (k*sz+j) u=(l.set k x).flatMap c:=by
 rw[<-JI hc l k x h];have hlen:(k+1)*sz<=l.length*sz:=Nat.mul_le_mul_right _ h;rw[Nat.succ_mul]at hlen;have e1:=zN c sz hc l;apply List.ext_getElem?;intro m;rw[uO _ _ _ _ (by rw[hc,e1];exact hlen),hc,hx];by_cases hm:k*sz<=m/\m<k*sz+sz
 · rw[if_pos hm]
   have g2:=vJ c sz hc l k (m-k*sz) h (by omega);rw[show k*sz+(m-k*sz)=m by omega]at g2;by_cases he:m=k*sz+j
   · subst he
     rw[List.getElem?_set_self (by omega),show k*sz+j-k*sz=j by omega,List.getElem?_set_self (by rw[hc];exact hj)]
   rw[List.getElem?_set_ne (by omega),List.getElem?_set_ne (by omega),g2]
 rw[if_neg hm,List.getElem?_set_ne (by omega)]
theorem V9 {α:Type} (f:α->α) (l:List α) (k:Nat) (h:k<l.length):l.modify k f=l.set k (f l[k]):=by
 apply List.ext_getElem;· simp
 intro i h1 h2;rw[List.getElem_modify,List.getElem_set];by_cases hk:k=i;· subst hk;simp
 rw[if_neg hk,if_neg hk]
theorem BkSt.push1 {W V w5:World} {g:Nat} {s1 s2 s3 v5:Value} {A A':List Ac} {X:List SbX} {E:List Int} (h:BkSt W V g s1 s2 s3 A X E) (ob:Obj) (hg5:(V.alloc ob).grownBy w5 s1.ownBlock) (ho:w5.ownsRow W.heap.size 178 6 v5 A'.length (A'.flatMap vS)):
 w5.heap[g]?=some (Obj.cells #[s1,s2,s3] 142)/\BkSt W (w5.setCell ⟨g,0,none⟩ v5) g v5 s2 s3 A' X E:=by
 have hr:(V.alloc ob).heap[g]?=some (Obj.cells #[s1,s2,s3] 142):=(((Below.refl V.heap.size V).alloc (Nat.le_refl _) ob).block g h.lt).trans h.row;have hr5:=(hg5.block g (by have:=h.lt;simp;omega) (Ne.symm (zk (h.o1.alloc ob) hr (by decide)))).trans hr
 exact⟨hr5,zU v5 hr5,h.hg,zp ho (zk ho hr5 (by decide)),zp ((h.o2.alloc ob).kept hg5 (yk (h.o2.alloc ob) (h.o1.alloc ob) (by decide))) (zk ((h.o2.alloc ob).kept hg5 (yk (h.o2.alloc ob) (h.o1.alloc ob) (by decide))) hr5 (by decide)),
  zp ((h.o3.alloc ob).kept hg5 (yk (h.o3.alloc ob) (h.o1.alloc ob) (by decide))) (zk ((h.o3.alloc ob).kept hg5 (yk (h.o3.alloc ob) (h.o1.alloc ob) (by decide))) hr5 (by decide)),((h.b.alloc h.b.size ob).grown hg5 (by have:=h.b.size;simp;omega) (fun k hk=>(zg h.o1 k hk).1)).setCell h.hg _⟩
theorem BkSt.push2 {W V w5:World} {g:Nat} {s1 s2 s3 v5:Value} {A:List Ac} {X X':List SbX} {E:List Int} (h:BkSt W V g s1 s2 s3 A X E) (ob:Obj) (hg5:(V.alloc ob).grownBy w5 s2.ownBlock) (ho:w5.ownsRow W.heap.size 181 8 v5 X'.length (X'.flatMap zK)):
 w5.heap[g]?=some (Obj.cells #[s1,s2,s3] 142)/\BkSt W (w5.setCell ⟨g,1,none⟩ v5) g s1 v5 s3 A X' E:=by
 have hr:(V.alloc ob).heap[g]?=some (Obj.cells #[s1,s2,s3] 142):=(((Below.refl V.heap.size V).alloc (Nat.le_refl _) ob).block g h.lt).trans h.row;have hr5:=(hg5.block g (by have:=h.lt;simp;omega) (Ne.symm (zk (h.o2.alloc ob) hr (by decide)))).trans hr
 exact⟨hr5,zU v5 hr5,h.hg,zp ((h.o1.alloc ob).kept hg5 (yk (h.o1.alloc ob) (h.o2.alloc ob) (by decide))) (zk ((h.o1.alloc ob).kept hg5 (yk (h.o1.alloc ob) (h.o2.alloc ob) (by decide))) hr5 (by decide)),zp ho (zk ho hr5 (by decide)),
  zp ((h.o3.alloc ob).kept hg5 (yk (h.o3.alloc ob) (h.o2.alloc ob) (by decide))) (zk ((h.o3.alloc ob).kept hg5 (yk (h.o3.alloc ob) (h.o2.alloc ob) (by decide))) hr5 (by decide)),((h.b.alloc h.b.size ob).grown hg5 (by have:=h.b.size;simp;omega) (fun k hk=>(zg h.o2 k hk).1)).setCell h.hg _⟩
theorem BkSt.push3 {W V w5:World} {g:Nat} {s1 s2 s3 v5:Value} {A:List Ac} {X:List SbX} {E E':List Int} (h:BkSt W V g s1 s2 s3 A X E) (ob:Obj) (hg5:(V.alloc ob).grownBy w5 s3.ownBlock) (ho:w5.ownsRow W.heap.size 3 1 v5 E'.length (E'.flatMap qq)):
 w5.heap[g]?=some (Obj.cells #[s1,s2,s3] 142)/\BkSt W (w5.setCell ⟨g,2,none⟩ v5) g s1 s2 v5 A X E':=by
 have hr:(V.alloc ob).heap[g]?=some (Obj.cells #[s1,s2,s3] 142):=(((Below.refl V.heap.size V).alloc (Nat.le_refl _) ob).block g h.lt).trans h.row;have hr5:=(hg5.block g (by have:=h.lt;simp;omega) (Ne.symm (zk (h.o3.alloc ob) hr (by decide)))).trans hr
 exact⟨hr5,zU v5 hr5,h.hg,zp ((h.o1.alloc ob).kept hg5 (yk (h.o1.alloc ob) (h.o3.alloc ob) (by decide))) (zk ((h.o1.alloc ob).kept hg5 (yk (h.o1.alloc ob) (h.o3.alloc ob) (by decide))) hr5 (by decide)),
  zp ((h.o2.alloc ob).kept hg5 (yk (h.o2.alloc ob) (h.o3.alloc ob) (by decide))) (zk ((h.o2.alloc ob).kept hg5 (yk (h.o2.alloc ob) (h.o3.alloc ob) (by decide))) hr5 (by decide)),zp ho (zk ho hr5 (by decide)),((h.b.alloc h.b.size ob).grown hg5 (by have:=h.b.size;simp;omega) (fun k hk=>(zg h.o3 k hk).1)).setCell h.hg _⟩
theorem BkSt.turn1 {W V w5:World} {g:Nat} {s1 s2 s3:Value} {A A':List Ac} {X:List SbX} {E:List Int} (h:BkSt W V g s1 s2 s3 A X E) (hg5:V.grownBy w5 s1.ownBlock) (ho:w5.ownsRow W.heap.size 178 6 s1 A'.length (A'.flatMap vS)):BkSt W w5 g s1 s2 s3 A' X E:=
 ⟨(hg5.block g h.lt (Ne.symm (zk h.o1 h.row (by decide)))).trans h.row,h.hg,ho,h.o2.kept hg5 (yk h.o2 h.o1 (by decide)),h.o3.kept hg5 (yk h.o3 h.o1 (by decide)),h.b.grown hg5 h.b.size (fun k hk=>(zg h.o1 k hk).1)⟩
theorem BkSt.turn2 {W V w5:World} {g:Nat} {s1 s2 s3:Value} {A:List Ac} {X X':List SbX} {E:List Int} (h:BkSt W V g s1 s2 s3 A X E) (hg5:V.grownBy w5 s2.ownBlock) (ho:w5.ownsRow W.heap.size 181 8 s2 X'.length (X'.flatMap zK)):BkSt W w5 g s1 s2 s3 A X' E:=
 ⟨(hg5.block g h.lt (Ne.symm (zk h.o2 h.row (by decide)))).trans h.row,h.hg,h.o1.kept hg5 (yk h.o1 h.o2 (by decide)),ho,h.o3.kept hg5 (yk h.o3 h.o2 (by decide)),h.b.grown hg5 h.b.size (fun k hk=>(zg h.o2 k hk).1)⟩
theorem GA (va vs ve:Value) (X:List SbX) (b:Bk) (ev:Ev) (last:Int) (w:World) (h:BkAt w va vs ve X b) (hok:OkEv b last ev) (hkd:ev.kd=1\/ev.kd=3\/ev.kd=14\/ev.kd=15) (hsm:uJ b 1000) (hn:ev.nu.size<=maxLen) (hm:ev.nm.size<=maxLen):
 Calls Tryz.prog 72 #[.agg #[va,vs,ve],yU ev] w (Ym X (zM b ev) w):=by
 have HXl:=zb h.len;have hXb:X.length<=1000:=by rw[h.len];exact hsm.s
 have hsa:=hsm.a;have hss:=hsm.s;have hse:=hsm.e;obtain⟨tm,kd,ac,sb,nu,nm,vl⟩:=ev;have hh:=h;obtain⟨aa,an,rfl,hla,hma⟩:=zq h.a;obtain⟨sa,sn,rfl,hls,hms⟩:=zq h.s;obtain⟨ea,en,rfl,-,-⟩:=zq h.e;obtain⟨W,hW,r0,r1,r2,hw0,hz⟩:=qf w (Obj.cells #[.slice aa b.accs.length an,.slice sa X.length sn,.slice ea b.ended.length en] 142) (Obj.cells #[.int .i64 tm,.int .i64 kd,.int .i64 ac,.int .i64 sb,.string nu,.string nm,.int .i64 vl] 55) (Obj.cells #[.slice none 0 0,.slice none 0 0,.slice none 0 0] 142);have HC:=zb (show ∀Y,Below W.heap.size W Y->Y.cell? ⟨w.heap.size,0,none⟩=some (.slice aa b.accs.length an)/\Y.cell? ⟨w.heap.size,1,none⟩=some (.slice sa X.length sn)/\Y.cell? ⟨w.heap.size,2,none⟩=some (.slice ea b.ended.length en)/\
  Y.cell? ⟨w.heap.size+1,0,none⟩=some (.int .i64 tm)/\Y.cell? ⟨w.heap.size+1,1,none⟩=some (.int .i64 kd)/\Y.cell? ⟨w.heap.size+1,2,none⟩=some (.int .i64 ac)/\Y.cell? ⟨w.heap.size+1,3,none⟩=some (.int .i64 sb)/\Y.cell? ⟨w.heap.size+1,4,none⟩=some (.string nu)/\Y.cell? ⟨w.heap.size+1,5,none⟩=some (.string nm)/\Y.cell? ⟨w.heap.size+1,6,none⟩=some (.int .i64 vl)from fun Y hb=>by
  have q:=(hb.block _ (by omega)).trans r0;have p:=(hb.block _ (by omega)).trans r1;exact⟨cell_of_row Y _ 0 _ _ _ q,cell_of_row Y _ 1 _ _ _ q,cell_of_row Y _ 2 _ _ _ q,cell_of_row Y _ 0 _ _ _ p,cell_of_row Y _ 1 _ _ _ p,cell_of_row Y _ 2 _ _ _ p,cell_of_row Y _ 3 _ _ _ p,cell_of_row Y _ 4 _ _ _ p,cell_of_row Y _ 5 _ _ _ p,cell_of_row Y _ 6 _ _ _ p⟩);have HBk:=zb (show ∀Y,Below W.heap.size W Y->BkAt Y (.slice aa b.accs.length an) (.slice sa X.length sn) (.slice ea b.ended.length en) X b from fun Y hb=>hh.below (hw0.trans (hb.mono hw0.size)));have HR2:=zb (show ∀Y,Below W.heap.size W Y->Y.heap[w.heap.size+1+1]?=some (Obj.cells #[.slice none 0 0,.slice none 0 0,.slice none 0 0] 142)from fun Y hb=>(hb.block _ hz).trans r2);have HSt:=zb (fun(w1 w2:World) (hb:Below w1.heap.size w1 w2)=>@xq w W (.slice aa b.accs.length an) (.slice sa X.length sn) (.slice ea b.ended.length en) b.accs X b.ended w1 w2 hb);unfold yU;dsimp only;dsimp only at hkd;have Hkd:=zb hkd;clear hkd;have HW:=zb hW;have Hw0:=zb hw0;have Hz:=zb hz;have Hold:=zb h.r;have HXs:=zb h.x;have Hok:=zb hok;have Hsm:=zb hsm;have Hsz:=zb (And.intro hn hm);clear hW r0 r1 r2 hw0 h hh hok hsm hn hm;go_enter Tryz.func72,Tryz.ntmps72;go_upto_region 1 with(fail);rw[<-HW.out];refine yq (fun w'=>Below W.heap.size W w') (UL w W (.slice aa b.accs.length an) (.slice sa X.length sn) (.slice ea b.ended.length en) b.accs X b.ended) (by kernel_rfl) (by decide) (by kernel_rfl) (Below.refl _ _).drew ?_;generalize hfr:(fun v:Nat->Value=>_)=fr;simp only[List.map_cons,List.map_nil,zC,List.setIfInBounds_toArray,List.set_cons_succ,List.set_cons_zero,Nat.zero_add,Nat.reduceAdd]at hfr;simp only[yY];refine⟨?_,?_,?_,?_,?_,?_,?_,?_,?_,?_,?_,?_,?_,?_,?_⟩
 · intro v w1 hC hd K hK
   rw[<-hfr]at hK⊢;go_simp;exact hK _ _ (hC.alloc hC.size _) (HSt.out _ _ ((Below.refl _ _).alloc (Nat.le_refl _) _)) ⟨_,rfl,zx (vu w1 _) hC.size⟩
 · intro v w1 hC hd K hK
   rw[<-hfr]at hK⊢;go_simp;exact hK _ _ hC (HSt.out _ _ (Below.refl _ _)) rfl
 · intro v w1 hC hd K hK
   obtain⟨hv,-⟩:=hd;have hv:v 1=_:=hv;obtain⟨c0,c1,c2,-⟩:=HC.out w1 hC;rw[<-hfr]at hK⊢;simp only[hv]at hK⊢;go_simp;exact hK _ _ hC (HSt.out _ _ (Below.refl _ _)) rfl
 · intro v w1 hC hd K hK
   obtain⟨⟨g0,hv0,ho0⟩,hv2,-⟩:=hd;have hv2:v 2=_:=hv2;refine zZ (c:=vS) (sz:=6) (fun _=>rfl) KF 178 139 _ 56 Tryz.underlying139 Tryz.accInfo rfl (by decide) rfl _ _ rfl W.heap.size hC.size (some ⟨g0,0,none⟩) _ b.accs (by rw[<-hfr];exact hv0) (by rw[<-hfr];exact hv2) ho0 (HBk.out w1 hC).a (by unfold maxLen;omega) (by omega) (fun v' w' h1 h2=>?_);exact hK _ _ (hC.trans (h2.mono hC.size)) (HSt.out _ _ h2) h1
 · intro v w1 hC hd K hK
   rw[<-hfr]at hK⊢;go_simp;exact hK _ _ (hC.alloc hC.size _) (HSt.out _ _ ((Below.refl _ _).alloc (Nat.le_refl _) _)) ⟨_,rfl,zx (vu w1 _) hC.size⟩
 · intro v w1 hC hd K hK
   rw[<-hfr]at hK⊢;go_simp;exact hK _ _ hC (HSt.out _ _ (Below.refl _ _)) rfl
 · intro v w1 hC hd K hK
   obtain⟨hv,-⟩:=hd;have hv:v 5=_:=hv;obtain⟨c0,c1,c2,-⟩:=HC.out w1 hC;rw[<-hfr]at hK⊢;simp only[hv]at hK⊢;go_simp;exact hK _ _ hC (HSt.out _ _ (Below.refl _ _)) rfl
 · intro v w1 hC hd K hK
   obtain⟨⟨g0,hv0,ho0⟩,hv2,-⟩:=hd;have hv2:v 6=_:=hv2;refine zZ (c:=zK) (sz:=8) (fun _=>rfl) VS 181 140 _ 96 Tryz.underlying140 Tryz.subInfo rfl (by decide) rfl _ _ rfl W.heap.size hC.size (some ⟨g0,0,none⟩) _ X (by rw[<-hfr];exact hv0) (by rw[<-hfr];exact hv2) ho0 (HBk.out w1 hC).s (by unfold maxLen;omega) (by omega) (fun v' w' h1 h2=>?_);exact hK _ _ (hC.trans (h2.mono hC.size)) (HSt.out _ _ h2) h1
 · intro v w1 hC hd K hK
   rw[<-hfr]at hK⊢;go_simp;exact hK _ _ (hC.alloc hC.size _) (HSt.out _ _ ((Below.refl _ _).alloc (Nat.le_refl _) _)) ⟨_,rfl,zx (vu w1 _) hC.size⟩
 · intro v w1 hC hd K hK
   rw[<-hfr]at hK⊢;go_simp;exact hK _ _ hC (HSt.out _ _ (Below.refl _ _)) rfl
 · intro v w1 hC hd K hK
   obtain⟨hv,-⟩:=hd;have hv:v 9=_:=hv;obtain⟨c0,c1,c2,-⟩:=HC.out w1 hC;rw[<-hfr]at hK⊢;simp only[hv]at hK⊢;go_simp;exact hK _ _ hC (HSt.out _ _ (Below.refl _ _)) rfl
 · intro v w1 hC hd K hK
   obtain⟨⟨g0,hv0,ho0⟩,hv2,-⟩:=hd;have hv2:v 10=_:=hv2;refine zZ (c:=qq) (sz:=1) (fun _=>rfl) Ki 3 96 _ 8 Tryz.underlying96 Tryz.intInfo rfl (by decide) rfl _ _ rfl W.heap.size hC.size (some ⟨g0,0,none⟩) _ b.ended (by rw[<-hfr];exact hv0) (by rw[<-hfr];exact hv2) ho0 (HBk.out w1 hC).e (by unfold maxLen;omega) (by omega) (fun v' w' h1 h2=>?_);exact hK _ _ (hC.trans (h2.mono hC.size)) (HSt.out _ _ h2) h1
 · intro v w1 hC hd K hK
   obtain⟨h1,h2,h3,-⟩:=hd;have h1:w1.ownsRow _ _ _ (v 3) _ _:=h1;have h2:w1.ownsRow _ _ _ (v 7) _ _:=h2;have h3:w1.ownsRow _ _ _ (v 11) _ _:=h3;obtain⟨b1,q1,e1,-,-⟩:=zf h1;obtain⟨b2,q2,e2,-,-⟩:=zf h2;obtain⟨b3,q3,e3,-,-⟩:=zf h3;rw[e1]at h1;rw[e2]at h2;rw[e3]at h3;have H:=zb (And.intro h1 (And.intro h2 h3));clear h1 h2 h3;rw[<-hfr]at hK⊢;simp only[e1,e2,e3]at hK⊢;go_simp;exact hK _ _ hC (HSt.out _ _ (Below.refl _ _)) ⟨_,_,_,rfl,H.out⟩
 · intro v w1 hC hd K hK
   rw[<-hfr]at hK⊢;go_simp;exact hK _ _ (hC.alloc hC.size _) (HSt.out _ _ ((Below.refl _ _).alloc (Nat.le_refl _) _)) ⟨_,_,rfl,hC.size,heap_alloc_new _ _,rfl⟩
 intro v w1 hC hall;obtain⟨⟨-,v1,v2,v3,hv12,o1,o2,o3⟩,g,cs,hv13,hg,hrow,hcs⟩:=hall;have hw12:v 12=_:=hv12;have hw13:v 13=_:=hv13;have hst:BkSt W (w1.setRow g #[v1,v2,v3]) g v1 v2 v3 b.accs X b.ended:=⟨setRow_heap w1 g cs _ _ _ hrow,hg,zt o1 (zk o1 hrow (by decide)) _,zt o2 (zk o2 hrow (by decide)) _,zt o3 (zk o3 hrow (by decide)) _,zj hC hg _⟩;obtain⟨b1,q1,rfl,-,-⟩:=zf o1;obtain⟨b2,q2,rfl,-,-⟩:=zf o2;obtain⟨b3,q3,rfl,-,-⟩:=zf o3;refine wp_store_row _ _ _ rfl g #[.slice b1 b.accs.length q1,.slice b2 X.length q2,.slice b3 b.ended.length q3] (by rw[<-hfr];exact hv13) (by rw[<-hfr];exact hv12) 142 cs hrow (by kernel_rfl) hcs (by simp[Value.oneCell']) ?_;have Hst:=zb hst;clear hst o1 o2 o3 hrow hC;obtain⟨V,hV⟩:∃V,V=w1.setRow g #[.slice b1 b.accs.length q1,.slice b2 X.length q2,.slice b3 b.ended.length q3]:=⟨_,rfl⟩;rw[<-hV]at Hst⊢;clear hV;rw[<-hfr];simp only[hw12,hw13];generalize v 0=y0,v 1=y1,v 2=y2,v 3=y3,v 4=y4,v 5=y5,v 6=y6,v 7=y7,v 8=y8,v 9=y9,v 10=y10,v 11=y11;clear hv12 hv13 hw12 hw13 hfr hcs v HSt;obtain⟨c0,c1,c2,d0,d1,d2,d3,d4,d5,d6⟩:=HC.out V Hst.out.b;have p0:=cell_of_row V _ 0 _ _ _ Hst.out.row;have p1:=cell_of_row V _ 1 _ _ _ Hst.out.row;have p2:=cell_of_row V _ 2 _ _ _ Hst.out.row;rcases Hkd.out with hk1|hk3|hk14|hk15
 · subst hk1
   have HAp:=zb (show zM b ⟨tm,1,ac,sb,nu,nm,vl⟩={ b with accs:=b.accs++[⟨ac,tm,vl,yt nm jU,false⟩] } from rfl);have hpr:(nm.toList==[112,114,101,112,97,105,100])=yt nm jU:=by unfold yt;rw[Lib.toList_data jU];rfl
   obtain⟨pr,hpre⟩:∃pr,pr=yt nm jU:=⟨_,rfl⟩;rw[<-hpre]at hpr HAp;clear hpre;have HX1:=zb (zi.one (c:=vS) (sz:=6) V ⟨ac,tm,vl,pr,false⟩ 178 #[.int .i64 ac,.int .i64 tm,.int .i64 vl,.bool pr,.bool false,.slice none 0 0] rfl);go_upto_region 8 with(fail);go_wp2_with (at_builtin;refine zX (c:=vS) (sz:=6) (fun _=>rfl) KF 178 139 _ 56 Tryz.underlying139 Tryz.accInfo rfl (by decide) rfl _ _ rfl W.heap.size ?hb1 _ _ b.accs [⟨ac,tm,vl,pr,false⟩] rfl rfl (Hst.out.o1.alloc _) HX1.out ?hl1 ?hl2 ?_);case hb1=>have:=Hst.out.b.size;(try simp);omega
   case hl1=>unfold maxLen;(try simp);omega
   case hl2=>(try simp);omega
   intro R hR v5 w5 own5 hgrow5;obtain⟨hrow5,hst6⟩:=Hst.out.push1 _ hgrow5 own5;obtain⟨a5,c5,rfl,-,-⟩:=zf own5;have o0:=cell_of_row w5 _ 0 _ _ _ hrow5;have of0:=frozen_of_row w5 _ 0 _ _ hrow5;have HRe:=zb hR.out;obtain⟨w6,hw6⟩:∃w6,w6=w5.setCell ⟨g,0,none⟩ (.slice a5 R.length c5):=⟨_,rfl⟩;rw[<-hw6]at hst6;have Hst6:=zb hst6;have Hw6:=zb hw6;clear own5 hgrow5 hrow5 hst6 hw6 hR c0 c1 c2 d0 d1 d2 d3 d4 d5 d6 p0 p1 p2;go_upto_region 16 with(fail);rw[<-Hw6.out];clear o0 of0;obtain⟨u0,u1,u2⟩:w6.cell? ⟨g,0,none⟩=_/\w6.cell? ⟨g,1,none⟩=_/\w6.cell? ⟨g,2,none⟩=_:=⟨cell_of_row w6 _ 0 _ _ _ Hst6.out.row,cell_of_row w6 _ 1 _ _ _ Hst6.out.row,cell_of_row w6 _ 2 _ _ _ Hst6.out.row⟩;go_upto_region 16 with(fail);have tQ:=fun j=>cell_setRow_same w6 (w.heap.size+1+1) j _ #[.slice a5 R.length c5,.slice b2 X.length q2,.slice b3 b.ended.length q3] _ _ (HR2.out w6 Hst6.out.b);have t0:=tQ 0;have t1:=tQ 1;have t2:=tQ 2;clear tQ;repeat (first|refine wpList_store_row rfl _ _ _ rfl (w.heap.size+1+1) #[.slice a5 R.length c5,.slice b2 X.length q2,.slice b3 b.ended.length q3] rfl rfl 142 _ (HR2.out w6 Hst6.out.b) (by kernel_rfl) rfl (by simp[Value.oneCell']) ?_|go_step)
   refine bodyPost_ret (v:=.agg #[.slice a5 R.length c5,.slice b2 X.length q2,.slice b3 b.ended.length q3]) (by simp[results,Tryz.results72,go_sem,t0,t1,t2]) rfl ?_;exact Hst6.out.finish (fun _ hx=>PaIn.old hx) Hw0.out (show w.heap.size<=w.heap.size+1+1 by omega) Hz.out _ (by rw[HAp.out];exact HRe.out) (by rw[HAp.out];exact HXs.out) (by rw[HAp.out]) (fun x hx=>(Hold.out x hx).below (zj (Hw0.out.trans (Hst6.out.b.mono Hw0.out.size)) (by omega) _))
 · subst hk3
   have HAp:=zb (show zM b ⟨tm,3,ac,sb,nu,nm,vl⟩={ b with subs:=b.subs++[⟨sb,ac,tm,nm,[],[],false,false⟩] } from rfl);have HX1:=zb (zi.one (c:=zK) (sz:=8) V ⟨⟨sb,ac,tm,nm,[],[],false,false⟩,none,0,0,none,0,0⟩ 181 #[.int .i64 sb,.int .i64 ac,.int .i64 tm,.string nm,.slice none 0 0,.slice none 0 0,.bool false,.bool false] rfl);go_upto_region 12 with(fail);go_wp2_with (at_builtin;refine zX (c:=zK) (sz:=8) (fun _=>rfl) VS 181 140 _ 96 Tryz.underlying140 Tryz.subInfo rfl (by decide) rfl _ _ rfl W.heap.size ?hb1 _ _ X [⟨⟨sb,ac,tm,nm,[],[],false,false⟩,none,0,0,none,0,0⟩] rfl rfl (Hst.out.o2.alloc _) HX1.out ?hl1 ?hl2 ?_);case hb1=>have:=Hst.out.b.size;(try simp);omega
   case hl1=>unfold maxLen;(try simp);omega
   case hl2=>(try simp);omega
   intro R hR v5 w5 own5 hgrow5;obtain⟨hrow5,hst6⟩:=Hst.out.push2 _ hgrow5 own5;obtain⟨a5,c5,rfl,-,-⟩:=zf own5;have o0:=cell_of_row w5 _ 1 _ _ _ hrow5;have of0:=frozen_of_row w5 _ 1 _ _ hrow5;have HRe:=zb hR.out;have Hr6:=zb (show ∀x∈R,∀Y,Below w.heap.size w Y->SbRd Y x from fun x hx Y hY=>by
    rw[HRe.out,List.mem_append,List.mem_singleton]at hx;rcases hx with hx|rfl;· exact(Hold.out x hx).below hY
    exact⟨zz.nil _,zz.nil _,Hsz.out.2,qF.nil,qF.nil⟩);obtain⟨w6,hw6⟩:∃w6,w6=w5.setCell ⟨g,1,none⟩ (.slice a5 R.length c5):=⟨_,rfl⟩;rw[<-hw6]at hst6;have Hst6:=zb hst6;have Hw6:=zb hw6;clear own5 hgrow5 hrow5 hst6 hw6 hR c0 c1 c2 d0 d1 d2 d3 d4 d5 d6 p0 p1 p2;go_upto_region 16 with(fail);rw[<-Hw6.out];clear o0 of0;obtain⟨u0,u1,u2⟩:w6.cell? ⟨g,0,none⟩=_/\w6.cell? ⟨g,1,none⟩=_/\w6.cell? ⟨g,2,none⟩=_:=⟨cell_of_row w6 _ 0 _ _ _ Hst6.out.row,cell_of_row w6 _ 1 _ _ _ Hst6.out.row,cell_of_row w6 _ 2 _ _ _ Hst6.out.row⟩;go_upto_region 16 with(fail);have tQ:=fun j=>cell_setRow_same w6 (w.heap.size+1+1) j _ #[.slice b1 b.accs.length q1,.slice a5 R.length c5,.slice b3 b.ended.length q3] _ _ (HR2.out w6 Hst6.out.b);have t0:=tQ 0;have t1:=tQ 1;have t2:=tQ 2;clear tQ;repeat (first|refine wpList_store_row rfl _ _ _ rfl (w.heap.size+1+1) #[.slice b1 b.accs.length q1,.slice a5 R.length c5,.slice b3 b.ended.length q3] rfl rfl 142 _ (HR2.out w6 Hst6.out.b) (by kernel_rfl) rfl (by simp[Value.oneCell']) ?_|go_step)
   refine bodyPost_ret (v:=.agg #[.slice b1 b.accs.length q1,.slice a5 R.length c5,.slice b3 b.ended.length q3]) (by simp[results,Tryz.results72,go_sem,t0,t1,t2]) rfl ?_;exact Hst6.out.finish (fun x hx=>by
    rw[HRe.out]at hx;rcases List.mem_append.1 hx with hx|hx;· exact PaIn.old hx
    rw[List.mem_singleton.1 hx];exact Or.inr (fun ad e=>by cases e)) Hw0.out (show w.heap.size<=w.heap.size+1+1 by omega) Hz.out _ (by rw[HAp.out]) (by rw[HAp.out,HRe.out,List.map_append,HXs.out];rfl) (by rw[HAp.out]) (fun x hx=>Hr6.out x hx _ (zj (Hw0.out.trans (Hst6.out.b.mono Hw0.out.size)) (by omega) _))
 · subst hk14
   have HAp:=zb (show zM b ⟨tm,14,ac,sb,nu,nm,vl⟩=b by unfold zM;dsimp only;rw[if_neg (by omega),if_neg (by omega),if_neg (by omega),if_pos (by omega)]);clear c0 c1 c2 d0 d2 d3 d4 d5 d6 p0 p1 p2;obtain⟨u0,u1,u2⟩:V.cell? ⟨g,0,none⟩=_/\V.cell? ⟨g,1,none⟩=_/\V.cell? ⟨g,2,none⟩=_:=⟨cell_of_row V _ 0 _ _ _ Hst.out.row,cell_of_row V _ 1 _ _ _ Hst.out.row,cell_of_row V _ 2 _ _ _ Hst.out.row⟩;go_upto_region 15 with(fail);have tQ:=fun j=>cell_setRow_same V (w.heap.size+1+1) j _ #[.slice b1 b.accs.length q1,.slice b2 X.length q2,.slice b3 b.ended.length q3] _ _ (HR2.out V Hst.out.b);have t0:=tQ 0;have t1:=tQ 1;have t2:=tQ 2;clear tQ;repeat (first|refine wpList_store_row rfl _ _ _ rfl (w.heap.size+1+1) #[.slice b1 b.accs.length q1,.slice b2 X.length q2,.slice b3 b.ended.length q3] rfl rfl 142 _ (HR2.out V Hst.out.b) (by kernel_rfl) rfl (by simp[Value.oneCell']) ?_|go_step)
   refine bodyPost_ret (v:=.agg #[.slice b1 b.accs.length q1,.slice b2 X.length q2,.slice b3 b.ended.length q3]) (by simp[results,Tryz.results72,go_sem,t0,t1,t2]) rfl ?_;exact Hst.out.finish (fun _ hx=>PaIn.old hx) Hw0.out (show w.heap.size<=w.heap.size+1+1 by omega) Hz.out _ (by rw[HAp.out]) (by rw[HAp.out];exact HXs.out) (by rw[HAp.out]) (fun x hx=>(Hold.out x hx).below (zj (Hw0.out.trans (Hst.out.b.mono Hw0.out.size)) (by omega) _))
 subst hk15;have HAp:=zb (show zM b ⟨tm,15,ac,sb,nu,nm,vl⟩=b by unfold zM;dsimp only;rw[if_neg (by omega),if_neg (by omega),if_neg (by omega),if_pos (by omega)]);clear c0 c1 c2 d0 d2 d3 d4 d5 d6 p0 p1 p2;obtain⟨u0,u1,u2⟩:V.cell? ⟨g,0,none⟩=_/\V.cell? ⟨g,1,none⟩=_/\V.cell? ⟨g,2,none⟩=_:=⟨cell_of_row V _ 0 _ _ _ Hst.out.row,cell_of_row V _ 1 _ _ _ Hst.out.row,cell_of_row V _ 2 _ _ _ Hst.out.row⟩;go_upto_region 15 with(fail);have tQ:=fun j=>cell_setRow_same V (w.heap.size+1+1) j _ #[.slice b1 b.accs.length q1,.slice b2 X.length q2,.slice b3 b.ended.length q3] _ _ (HR2.out V Hst.out.b);have t0:=tQ 0;have t1:=tQ 1;have t2:=tQ 2;clear tQ;repeat (first|refine wpList_store_row rfl _ _ _ rfl (w.heap.size+1+1) #[.slice b1 b.accs.length q1,.slice b2 X.length q2,.slice b3 b.ended.length q3] rfl rfl 142 _ (HR2.out V Hst.out.b) (by kernel_rfl) rfl (by simp[Value.oneCell']) ?_|go_step)
 refine bodyPost_ret (v:=.agg #[.slice b1 b.accs.length q1,.slice b2 X.length q2,.slice b3 b.ended.length q3]) (by simp[results,Tryz.results72,go_sem,t0,t1,t2]) rfl ?_;exact Hst.out.finish (fun _ hx=>PaIn.old hx) Hw0.out (show w.heap.size<=w.heap.size+1+1 by omega) Hz.out _ (by rw[HAp.out]) (by rw[HAp.out];exact HXs.out) (by rw[HAp.out]) (fun x hx=>(Hold.out x hx).below (zj (Hw0.out.trans (Hst.out.b.mono Hw0.out.size)) (by omega) _))
theorem NZ (va vs ve:Value) (X:List SbX) (b:Bk) (ev:Ev) (last:Int) (w:World) (h:BkAt w va vs ve X b) (hok:OkEv b last ev) (hkd:ev.kd=2) (hsm:uJ b 1000) (hn:ev.nu.size<=maxLen) (hm:ev.nm.size<=maxLen):
 Calls Tryz.prog 72 #[.agg #[va,vs,ve],yU ev] w (Ym X (zM b ev) w):=by
 have HXl:=zb h.len;have hXb:X.length<=1000:=by rw[h.len];exact hsm.s
 have hsa:=hsm.a;have hss:=hsm.s;have hse:=hsm.e;obtain⟨tm,kd,ac,sb,nu,nm,vl⟩:=ev;have hh:=h;obtain⟨aa,an,rfl,hla,hma⟩:=zq h.a;obtain⟨sa,sn,rfl,hls,hms⟩:=zq h.s;obtain⟨ea,en,rfl,-,-⟩:=zq h.e;obtain⟨W,hW,r0,r1,r2,hw0,hz⟩:=qf w (Obj.cells #[.slice aa b.accs.length an,.slice sa X.length sn,.slice ea b.ended.length en] 142) (Obj.cells #[.int .i64 tm,.int .i64 kd,.int .i64 ac,.int .i64 sb,.string nu,.string nm,.int .i64 vl] 55) (Obj.cells #[.slice none 0 0,.slice none 0 0,.slice none 0 0] 142);have HC:=zb (show ∀Y,Below W.heap.size W Y->Y.cell? ⟨w.heap.size,0,none⟩=some (.slice aa b.accs.length an)/\Y.cell? ⟨w.heap.size,1,none⟩=some (.slice sa X.length sn)/\Y.cell? ⟨w.heap.size,2,none⟩=some (.slice ea b.ended.length en)/\
  Y.cell? ⟨w.heap.size+1,0,none⟩=some (.int .i64 tm)/\Y.cell? ⟨w.heap.size+1,1,none⟩=some (.int .i64 kd)/\Y.cell? ⟨w.heap.size+1,2,none⟩=some (.int .i64 ac)/\Y.cell? ⟨w.heap.size+1,3,none⟩=some (.int .i64 sb)/\Y.cell? ⟨w.heap.size+1,4,none⟩=some (.string nu)/\Y.cell? ⟨w.heap.size+1,5,none⟩=some (.string nm)/\Y.cell? ⟨w.heap.size+1,6,none⟩=some (.int .i64 vl)from fun Y hb=>by
  have q:=(hb.block _ (by omega)).trans r0;have p:=(hb.block _ (by omega)).trans r1;exact⟨cell_of_row Y _ 0 _ _ _ q,cell_of_row Y _ 1 _ _ _ q,cell_of_row Y _ 2 _ _ _ q,cell_of_row Y _ 0 _ _ _ p,cell_of_row Y _ 1 _ _ _ p,cell_of_row Y _ 2 _ _ _ p,cell_of_row Y _ 3 _ _ _ p,cell_of_row Y _ 4 _ _ _ p,cell_of_row Y _ 5 _ _ _ p,cell_of_row Y _ 6 _ _ _ p⟩);have HBk:=zb (show ∀Y,Below W.heap.size W Y->BkAt Y (.slice aa b.accs.length an) (.slice sa X.length sn) (.slice ea b.ended.length en) X b from fun Y hb=>hh.below (hw0.trans (hb.mono hw0.size)));have HR2:=zb (show ∀Y,Below W.heap.size W Y->Y.heap[w.heap.size+1+1]?=some (Obj.cells #[.slice none 0 0,.slice none 0 0,.slice none 0 0] 142)from fun Y hb=>(hb.block _ hz).trans r2);have HSt:=zb (fun(w1 w2:World) (hb:Below w1.heap.size w1 w2)=>@xq w W (.slice aa b.accs.length an) (.slice sa X.length sn) (.slice ea b.ended.length en) b.accs X b.ended w1 w2 hb);unfold yU;dsimp only;dsimp only at hkd;have Hkd:=zb hkd;clear hkd;have HW:=zb hW;have Hw0:=zb hw0;have Hz:=zb hz;have Hold:=zb h.r;have HXs:=zb h.x;have Hok:=zb hok;have Hsm:=zb hsm;have Hsz:=zb (And.intro hn hm);clear hW r0 r1 r2 hw0 h hh hok hsm hn hm;go_enter Tryz.func72,Tryz.ntmps72;go_upto_region 1 with(fail);rw[<-HW.out];refine yq (fun w'=>Below W.heap.size W w') (UL w W (.slice aa b.accs.length an) (.slice sa X.length sn) (.slice ea b.ended.length en) b.accs X b.ended) (by kernel_rfl) (by decide) (by kernel_rfl) (Below.refl _ _).drew ?_;generalize hfr:(fun v:Nat->Value=>_)=fr;simp only[List.map_cons,List.map_nil,zC,List.setIfInBounds_toArray,List.set_cons_succ,List.set_cons_zero,Nat.zero_add,Nat.reduceAdd]at hfr;simp only[yY];refine⟨?_,?_,?_,?_,?_,?_,?_,?_,?_,?_,?_,?_,?_,?_,?_⟩
 · intro v w1 hC hd K hK
   rw[<-hfr]at hK⊢;go_simp;exact hK _ _ (hC.alloc hC.size _) (HSt.out _ _ ((Below.refl _ _).alloc (Nat.le_refl _) _)) ⟨_,rfl,zx (vu w1 _) hC.size⟩
 · intro v w1 hC hd K hK
   rw[<-hfr]at hK⊢;go_simp;exact hK _ _ hC (HSt.out _ _ (Below.refl _ _)) rfl
 · intro v w1 hC hd K hK
   obtain⟨hv,-⟩:=hd;have hv:v 1=_:=hv;obtain⟨c0,c1,c2,-⟩:=HC.out w1 hC;rw[<-hfr]at hK⊢;simp only[hv]at hK⊢;go_simp;exact hK _ _ hC (HSt.out _ _ (Below.refl _ _)) rfl
 · intro v w1 hC hd K hK
   obtain⟨⟨g0,hv0,ho0⟩,hv2,-⟩:=hd;have hv2:v 2=_:=hv2;refine zZ (c:=vS) (sz:=6) (fun _=>rfl) KF 178 139 _ 56 Tryz.underlying139 Tryz.accInfo rfl (by decide) rfl _ _ rfl W.heap.size hC.size (some ⟨g0,0,none⟩) _ b.accs (by rw[<-hfr];exact hv0) (by rw[<-hfr];exact hv2) ho0 (HBk.out w1 hC).a (by unfold maxLen;omega) (by omega) (fun v' w' h1 h2=>?_);exact hK _ _ (hC.trans (h2.mono hC.size)) (HSt.out _ _ h2) h1
 · intro v w1 hC hd K hK
   rw[<-hfr]at hK⊢;go_simp;exact hK _ _ (hC.alloc hC.size _) (HSt.out _ _ ((Below.refl _ _).alloc (Nat.le_refl _) _)) ⟨_,rfl,zx (vu w1 _) hC.size⟩
 · intro v w1 hC hd K hK
   rw[<-hfr]at hK⊢;go_simp;exact hK _ _ hC (HSt.out _ _ (Below.refl _ _)) rfl
 · intro v w1 hC hd K hK
   obtain⟨hv,-⟩:=hd;have hv:v 5=_:=hv;obtain⟨c0,c1,c2,-⟩:=HC.out w1 hC;rw[<-hfr]at hK⊢;simp only[hv]at hK⊢;go_simp;exact hK _ _ hC (HSt.out _ _ (Below.refl _ _)) rfl
 · intro v w1 hC hd K hK
   obtain⟨⟨g0,hv0,ho0⟩,hv2,-⟩:=hd;have hv2:v 6=_:=hv2;refine zZ (c:=zK) (sz:=8) (fun _=>rfl) VS 181 140 _ 96 Tryz.underlying140 Tryz.subInfo rfl (by decide) rfl _ _ rfl W.heap.size hC.size (some ⟨g0,0,none⟩) _ X (by rw[<-hfr];exact hv0) (by rw[<-hfr];exact hv2) ho0 (HBk.out w1 hC).s (by unfold maxLen;omega) (by omega) (fun v' w' h1 h2=>?_);exact hK _ _ (hC.trans (h2.mono hC.size)) (HSt.out _ _ h2) h1
 · intro v w1 hC hd K hK
   rw[<-hfr]at hK⊢;go_simp;exact hK _ _ (hC.alloc hC.size _) (HSt.out _ _ ((Below.refl _ _).alloc (Nat.le_refl _) _)) ⟨_,rfl,zx (vu w1 _) hC.size⟩
 · intro v w1 hC hd K hK
   rw[<-hfr]at hK⊢;go_simp;exact hK _ _ hC (HSt.out _ _ (Below.refl _ _)) rfl
 · intro v w1 hC hd K hK
   obtain⟨hv,-⟩:=hd;have hv:v 9=_:=hv;obtain⟨c0,c1,c2,-⟩:=HC.out w1 hC;rw[<-hfr]at hK⊢;simp only[hv]at hK⊢;go_simp;exact hK _ _ hC (HSt.out _ _ (Below.refl _ _)) rfl
 · intro v w1 hC hd K hK
   obtain⟨⟨g0,hv0,ho0⟩,hv2,-⟩:=hd;have hv2:v 10=_:=hv2;refine zZ (c:=qq) (sz:=1) (fun _=>rfl) Ki 3 96 _ 8 Tryz.underlying96 Tryz.intInfo rfl (by decide) rfl _ _ rfl W.heap.size hC.size (some ⟨g0,0,none⟩) _ b.ended (by rw[<-hfr];exact hv0) (by rw[<-hfr];exact hv2) ho0 (HBk.out w1 hC).e (by unfold maxLen;omega) (by omega) (fun v' w' h1 h2=>?_);exact hK _ _ (hC.trans (h2.mono hC.size)) (HSt.out _ _ h2) h1
 · intro v w1 hC hd K hK
   obtain⟨h1,h2,h3,-⟩:=hd;have h1:w1.ownsRow _ _ _ (v 3) _ _:=h1;have h2:w1.ownsRow _ _ _ (v 7) _ _:=h2;have h3:w1.ownsRow _ _ _ (v 11) _ _:=h3;obtain⟨b1,q1,e1,-,-⟩:=zf h1;obtain⟨b2,q2,e2,-,-⟩:=zf h2;obtain⟨b3,q3,e3,-,-⟩:=zf h3;rw[e1]at h1;rw[e2]at h2;rw[e3]at h3;have H:=zb (And.intro h1 (And.intro h2 h3));clear h1 h2 h3;rw[<-hfr]at hK⊢;simp only[e1,e2,e3]at hK⊢;go_simp;exact hK _ _ hC (HSt.out _ _ (Below.refl _ _)) ⟨_,_,_,rfl,H.out⟩
 · intro v w1 hC hd K hK
   rw[<-hfr]at hK⊢;go_simp;exact hK _ _ (hC.alloc hC.size _) (HSt.out _ _ ((Below.refl _ _).alloc (Nat.le_refl _) _)) ⟨_,_,rfl,hC.size,heap_alloc_new _ _,rfl⟩
 intro v w1 hC hall;obtain⟨⟨-,v1,v2,v3,hv12,o1,o2,o3⟩,g,cs,hv13,hg,hrow,hcs⟩:=hall;have hw12:v 12=_:=hv12;have hw13:v 13=_:=hv13;have hst:BkSt W (w1.setRow g #[v1,v2,v3]) g v1 v2 v3 b.accs X b.ended:=⟨setRow_heap w1 g cs _ _ _ hrow,hg,zt o1 (zk o1 hrow (by decide)) _,zt o2 (zk o2 hrow (by decide)) _,zt o3 (zk o3 hrow (by decide)) _,zj hC hg _⟩;obtain⟨b1,q1,rfl,-,-⟩:=zf o1;obtain⟨b2,q2,rfl,-,-⟩:=zf o2;obtain⟨b3,q3,rfl,-,-⟩:=zf o3;refine wp_store_row _ _ _ rfl g #[.slice b1 b.accs.length q1,.slice b2 X.length q2,.slice b3 b.ended.length q3] (by rw[<-hfr];exact hv13) (by rw[<-hfr];exact hv12) 142 cs hrow (by kernel_rfl) hcs (by simp[Value.oneCell']) ?_;have Hst:=zb hst;clear hst o1 o2 o3 hrow hC;obtain⟨V,hV⟩:∃V,V=w1.setRow g #[.slice b1 b.accs.length q1,.slice b2 X.length q2,.slice b3 b.ended.length q3]:=⟨_,rfl⟩;rw[<-hV]at Hst⊢;clear hV;rw[<-hfr];simp only[hw12,hw13];generalize v 0=y0,v 1=y1,v 2=y2,v 3=y3,v 4=y4,v 5=y5,v 6=y6,v 7=y7,v 8=y8,v 9=y9,v 10=y10,v 11=y11;clear hv12 hv13 hw12 hw13 hfr hcs v HSt;obtain⟨c0,c1,c2,d0,d1,d2,d3,d4,d5,d6⟩:=HC.out V Hst.out.b;have p0:=cell_of_row V _ 0 _ _ _ Hst.out.row;have p1:=cell_of_row V _ 1 _ _ _ Hst.out.row;have p2:=cell_of_row V _ 2 _ _ _ Hst.out.row;have hkd:=Hkd.out;clear Hkd;subst hkd;have HAp:=zb (show zM b ⟨tm,2,ac,sb,nu,nm,vl⟩={ b with accs:=b.accs.modify (qm b ac).toNat fun a=>{ a with clo:=true } } from rfl);obtain⟨k,hk,hix,-⟩:=Hok.out.acc rfl (show(2:Int)≠1 by decide);have hix:qm b ac=k:=hix;have HMd:=zb (V9 (fun a:Ac=>{ a with clo:=true }) b.accs k hk);have Hix:=zb hix;have hkl:(k:Int)<(b.accs.length:Int):=by omega
 have hk0:(0:Int)<=(k:Int):=Int.natCast_nonneg _;obtain⟨g1,rfl⟩:∃g1,b1=some ⟨g1,0,none⟩:=by
  rcases Hst.out.o1.2 with⟨h1,h2⟩|⟨g1,cap',cur,hv,-⟩;· omega
  simp only[Value.slice.injEq]at hv;exact⟨g1,hv.1⟩
 have HCl:=zb (show ∀Y,Below V.heap.size V Y->∃cl,Y.cell? ⟨g1,k*6+4,none⟩=some (.bool cl)from fun Y hb=>by
  have h1:=(zd Hst.out.o1 hb).cellAt (k*6+4) (by omega);rw[vJ vS 6 (fun _=>rfl) b.accs k 4 hk (by decide)]at h1;exact⟨_,h1⟩);have HFz:=zb (show ∀Y,Below V.heap.size V Y->Y.frozen? ⟨g1,k*6+4,none⟩=false from fun Y hb=>(zd Hst.out.o1 hb).frozenAt _);clear hix c0 c1 c2 d0 d1 d2 d3 d4 d6 d5 p0 p1 p2;obtain⟨-,-,-,-,d1,-⟩:=HC.out V Hst.out.b;go_upto_region 10 with(fail);refine yq (fun w'=>Below V.heap.size V w') (fun i v _=>v=(match i with
  |0=>.pointer (some ⟨g,0,none⟩)
  |1=>.slice (some ⟨g1,0,none⟩) b.accs.length q1
  |2=>.agg #[.slice aa b.accs.length an,.slice sa X.length sn,.slice ea b.ended.length en]
  |3=>.pointer (some ⟨w.heap.size+1,2,none⟩)
  |4=>.int .i64 ac
  |5=>.int .i64 k
  |6=>.pointer (some ⟨g1,k*6,none⟩)
  |7=>.pointer (some ⟨g1,k*6+4,none⟩)
  |_=>undef:Value)) (by kernel_rfl) (by decide) (by kernel_rfl) (Below.refl _ _).drew ?_;generalize hfr:(fun v:Nat->Value=>_)=fr;simp only[List.map_cons,List.map_nil,zC,List.setIfInBounds_toArray,List.set_cons_succ,List.set_cons_zero,Nat.zero_add,Nat.reduceAdd]at hfr;simp only[yY];refine⟨?_,?_,?_,?_,?_,?_,?_,?_,?_⟩
 · intro v w2 hC hd K hK
   rw[<-hfr]at hK⊢;go_simp;exact hK _ _ hC (fun _ _ h=>h) rfl
 · intro v w2 hC hd K hK
   obtain⟨e0,-⟩:=hd;have e0:v 0=_:=e0;have p0:=cell_of_row w2 _ 0 _ _ _ (Hst.out.below hC).row;rw[<-hfr]at hK⊢;simp only[e0]at hK⊢;go_simp;exact hK _ _ hC (fun _ _ h=>h) rfl
 · intro v w2 hC hd K hK
   obtain⟨c0,c1,c2,d0,d1,d2,d3,d4,d5,d6⟩:=HC.out w2 (Hst.out.b.trans (hC.mono Hst.out.b.size));rw[<-hfr]at hK⊢;go_simp;exact hK _ _ hC (fun _ _ h=>h) rfl
 · intro v w2 hC hd K hK
   rw[<-hfr]at hK⊢;go_simp;exact hK _ _ hC (fun _ _ h=>h) rfl
 · intro v w2 hC hd K hK
   obtain⟨e3,-⟩:=hd;have e3:v 3=_:=e3;obtain⟨c0,c1,c2,d0,d1,d2,d3,d4,d5,d6⟩:=HC.out w2 (Hst.out.b.trans (hC.mono Hst.out.b.size));rw[<-hfr]at hK⊢;simp only[e3]at hK⊢;go_simp;exact hK _ _ hC (fun _ _ h=>h) rfl
 · intro v w2 hC hd K hK
   obtain⟨e2,e4,-⟩:=hd;have e2:v 2=_:=e2;have e4:v 4=_:=e4;have HA:=zb (Zl _ _ _ X b ac w2 (HBk.out w2 (Hst.out.b.trans (hC.mono Hst.out.b.size))));rw[<-hfr]at hK⊢;simp only[e2,e4]at hK⊢;go_simp;refine HA.out.mono ?_;rintro e w3 ⟨rfl,hb3⟩;exact hK _ _ (hC.trans (hb3.mono hC.size)) (fun _ _ h=>h) (by rw[Hix.out])
 · intro v w2 hC hd K hK
   obtain⟨e1,e5,-⟩:=hd;have e1:v 1=_:=e1;have e5:v 5=_:=e5;rw[<-hfr]at hK⊢;simp only[e1,e5]at hK⊢;go_simp;exact hK _ _ hC (fun _ _ h=>h) rfl
 · intro v w2 hC hd K hK
   obtain⟨e6,-⟩:=hd;have e6:v 6=_:=e6;rw[<-hfr]at hK⊢;simp only[e6]at hK⊢;go_simp;exact hK _ _ hC (fun _ _ h=>h) rfl
 intro v w2 hC hall;obtain⟨-,f7⟩:=hall;have e7:v 7=_:=f7;obtain⟨cl,hcl⟩:=HCl.out w2 hC;have hfz:=HFz.out w2 hC;rw[<-hfr];simp only[e7];go_simp;have hst2:=Hst.out.below hC;obtain⟨so,sg⟩:=hst2.o1.stored (k*6+4) (.bool true);rw[JJ (c:=vS) (sz:=6) (fun _=>rfl) b.accs k 4 { b.accs[k]with clo:=true } (.bool true) hk (by decide) rfl]at so;have hst3:=hst2.turn1 (A':=b.accs.set k { b.accs[k]with clo:=true }) sg (by rw[List.length_set];exact so);obtain⟨w6,hw6⟩:∃w6,w6=w2.setCell ⟨g1,k*6+4,none⟩ (.bool true):=⟨_,rfl⟩;rw[<-hw6]at hst3⊢;have Hst6:=zb hst3;generalize v 0=y0,v 1=y1,v 2=y2,v 3=y3,v 4=y4,v 5=y5,v 6=y6;clear hst3 hst2 so sg hw6 hcl hfz e7 f7 hfr v hC HCl HFz;obtain⟨u0,u1,u2⟩:w6.cell? ⟨g,0,none⟩=_/\w6.cell? ⟨g,1,none⟩=_/\w6.cell? ⟨g,2,none⟩=_:=⟨cell_of_row w6 _ 0 _ _ _ Hst6.out.row,cell_of_row w6 _ 1 _ _ _ Hst6.out.row,cell_of_row w6 _ 2 _ _ _ Hst6.out.row⟩;go_upto_region 16 with(fail);have tQ:=fun j=>cell_setRow_same w6 (w.heap.size+1+1) j _ #[.slice (some ⟨g1,0,none⟩) b.accs.length q1,.slice b2 X.length q2,.slice b3 b.ended.length q3] _ _ (HR2.out w6 Hst6.out.b);have t0:=tQ 0;have t1:=tQ 1;have t2:=tQ 2;clear tQ;repeat (first|refine wpList_store_row rfl _ _ _ rfl (w.heap.size+1+1) #[.slice (some ⟨g1,0,none⟩) b.accs.length q1,.slice b2 X.length q2,.slice b3 b.ended.length q3] rfl rfl 142 _ (HR2.out w6 Hst6.out.b) (by kernel_rfl) rfl (by simp[Value.oneCell']) ?_|go_step)
 refine bodyPost_ret (v:=.agg #[.slice (some ⟨g1,0,none⟩) b.accs.length q1,.slice b2 X.length q2,.slice b3 b.ended.length q3]) (by simp[results,Tryz.results72,go_sem,t0,t1,t2]) rfl ?_;exact Hst6.out.finish (fun _ hx=>PaIn.old hx) Hw0.out (show w.heap.size<=w.heap.size+1+1 by omega) Hz.out _ (by rw[HAp.out,Hix.out];exact HMd.out.symm) (by rw[HAp.out];exact HXs.out) (by rw[HAp.out]) (fun x hx=>(Hold.out x hx).below (zj (Hw0.out.trans (Hst6.out.b.mono Hw0.out.size)) (by omega) _))
def XD (V:World) (g g2 k:Nat) (q2 n:Nat) (x:SbX) (ev:Ev):Nat->Value->World->Prop
 |9,v,w'=>∃x':SbX,v=jb x'/\x'.s=yg x.s ev/\SbRd w' x'/\uK V.heap.size x.na x'.na x.nn x'.nn x.nc x'.nc x.s.nus x'.s.nus/\uK V.heap.size x.pa x'.pa x.pn x'.pn x.pc x'.pc x.s.prs x'.s.prs
 |0,v,_=>v=.pointer (some ⟨g,1,none⟩)
 |1,v,_=>v=.slice (some ⟨g2,0,none⟩) n q2
 |2,v,_=>v=.int .i64 k
 |3,v,_=>v=.pointer (some ⟨g,1,none⟩)
 |4,v,_=>v=.slice (some ⟨g2,0,none⟩) n q2
 |5,v,_=>v=.int .i64 k
 |6,v,_=>v=.pointer (some ⟨g2,k*8,none⟩)
 |7,v,_=>v=jb x
 |8,v,_=>v=yU ev
 |10,v,_=>v=.pointer (some ⟨g2,k*8,none⟩)
 |_,_,_=>True
theorem yW {V:World} {g g2 k q2 n:Nat} {x:SbX} {ev:Ev} {w1 w2:World} (hb:Below w1.heap.size w1 w2):∀j y,XD V g g2 k q2 n x ev j y w1->XD V g g2 k q2 n x ev j y w2
 |9,_,⟨x',h1,h2,h3,h4⟩=>⟨x',h1,h2,h3.below hb,h4⟩
 |0,_,h=>h
 |1,_,h=>h
 |2,_,h=>h
 |3,_,h=>h
 |4,_,h=>h
 |5,_,h=>h
 |6,_,h=>h
 |7,_,h=>h
 |8,_,h=>h
 |10,_,h=>h
 |_+11,_,_=>trivial
theorem uK.mono {B B':Nat} {na na':Option Addr} {nn nn' nc nc':Nat} {l l':List ByteArray} (h:uK B na na' nn nn' nc nc' l l') (hb:B'<=B):uK B' na na' nn nn' nc nc' l l':=h.imp id (fun h=>h.mono hb)
theorem GR {w w1 Y:World} {B:Nat} {x x':SbX} (hx:SbRd w x) (hy:Below w.heap.size w Y) (h:SbRd w1 x') (k1:uK B x.na x'.na x.nn x'.nn x.nc x'.nc x.s.nus x'.s.nus) (k2:uK B x.pa x'.pa x.pn x'.pn x.pc x'.pc x.s.prs x'.s.prs) (hk:∀k,B<=k->k<w1.heap.size->Y.heap[k]?=w1.heap[k]?) (hs:w1.heap.size<=Y.heap.size):SbRd Y x':=by
 obtain⟨h1,h2,h3,h4,h5⟩:=h;obtain⟨x1,x2,-⟩:=hx;refine⟨?_,?_,h3,h4,h5⟩
 · rcases k1 with⟨e1,e2,e3,e4⟩|hf
   · rw[e1,e2,e3,e4];exact x1.below hy
   exact vW h1 hf hk hs
 rcases k2 with⟨e1,e2,e3,e4⟩|hf;· rw[e1,e2,e3,e4];exact x2.below hy
 exact vW h2 hf hk hs
theorem Gz (va vs ve:Value) (X:List SbX) (b:Bk) (ev:Ev) (last:Int) (w:World) (h:BkAt w va vs ve X b) (hok:OkEv b last ev) (hkd:4<=ev.kd/\ev.kd<=13) (hsm:uJ b 1000) (hn:ev.nu.size<=maxLen) (hm:ev.nm.size<=maxLen):
 Calls Tryz.prog 72 #[.agg #[va,vs,ve],yU ev] w (Ym X (zM b ev) w):=by
 have HXl:=zb h.len;have hXb:X.length<=1000:=by rw[h.len];exact hsm.s
 have hsa:=hsm.a;have hss:=hsm.s;have hse:=hsm.e;obtain⟨tm,kd,ac,sb,nu,nm,vl⟩:=ev;have hh:=h;obtain⟨aa,an,rfl,hla,hma⟩:=zq h.a;obtain⟨sa,sn,rfl,hls,hms⟩:=zq h.s;obtain⟨ea,en,rfl,-,-⟩:=zq h.e;obtain⟨W,hW,r0,r1,r2,hw0,hz⟩:=qf w (Obj.cells #[.slice aa b.accs.length an,.slice sa X.length sn,.slice ea b.ended.length en] 142) (Obj.cells #[.int .i64 tm,.int .i64 kd,.int .i64 ac,.int .i64 sb,.string nu,.string nm,.int .i64 vl] 55) (Obj.cells #[.slice none 0 0,.slice none 0 0,.slice none 0 0] 142);have HC:=zb (show ∀Y,Below W.heap.size W Y->Y.cell? ⟨w.heap.size,0,none⟩=some (.slice aa b.accs.length an)/\Y.cell? ⟨w.heap.size,1,none⟩=some (.slice sa X.length sn)/\Y.cell? ⟨w.heap.size,2,none⟩=some (.slice ea b.ended.length en)/\
  Y.cell? ⟨w.heap.size+1,0,none⟩=some (.int .i64 tm)/\Y.cell? ⟨w.heap.size+1,1,none⟩=some (.int .i64 kd)/\Y.cell? ⟨w.heap.size+1,2,none⟩=some (.int .i64 ac)/\Y.cell? ⟨w.heap.size+1,3,none⟩=some (.int .i64 sb)/\Y.cell? ⟨w.heap.size+1,4,none⟩=some (.string nu)/\Y.cell? ⟨w.heap.size+1,5,none⟩=some (.string nm)/\Y.cell? ⟨w.heap.size+1,6,none⟩=some (.int .i64 vl)from fun Y hb=>by
  have q:=(hb.block _ (by omega)).trans r0;have p:=(hb.block _ (by omega)).trans r1;exact⟨cell_of_row Y _ 0 _ _ _ q,cell_of_row Y _ 1 _ _ _ q,cell_of_row Y _ 2 _ _ _ q,cell_of_row Y _ 0 _ _ _ p,cell_of_row Y _ 1 _ _ _ p,cell_of_row Y _ 2 _ _ _ p,cell_of_row Y _ 3 _ _ _ p,cell_of_row Y _ 4 _ _ _ p,cell_of_row Y _ 5 _ _ _ p,cell_of_row Y _ 6 _ _ _ p⟩);have HBk:=zb (show ∀Y,Below W.heap.size W Y->BkAt Y (.slice aa b.accs.length an) (.slice sa X.length sn) (.slice ea b.ended.length en) X b from fun Y hb=>hh.below (hw0.trans (hb.mono hw0.size)));have HR2:=zb (show ∀Y,Below W.heap.size W Y->Y.heap[w.heap.size+1+1]?=some (Obj.cells #[.slice none 0 0,.slice none 0 0,.slice none 0 0] 142)from fun Y hb=>(hb.block _ hz).trans r2);have HSt:=zb (fun(w1 w2:World) (hb:Below w1.heap.size w1 w2)=>@xq w W (.slice aa b.accs.length an) (.slice sa X.length sn) (.slice ea b.ended.length en) b.accs X b.ended w1 w2 hb);unfold yU;dsimp only;dsimp only at hkd;have Hkd:=zb hkd;clear hkd;have HW:=zb hW;have Hw0:=zb hw0;have Hz:=zb hz;have Hold:=zb h.r;have HXs:=zb h.x;have Hok:=zb hok;have Hsm:=zb hsm;have Hsz:=zb (And.intro hn hm);clear hW r0 r1 r2 hw0 h hh hok hsm hn hm;go_enter Tryz.func72,Tryz.ntmps72;go_upto_region 1 with(fail);rw[<-HW.out];refine yq (fun w'=>Below W.heap.size W w') (UL w W (.slice aa b.accs.length an) (.slice sa X.length sn) (.slice ea b.ended.length en) b.accs X b.ended) (by kernel_rfl) (by decide) (by kernel_rfl) (Below.refl _ _).drew ?_;generalize hfr:(fun v:Nat->Value=>_)=fr;simp only[List.map_cons,List.map_nil,zC,List.setIfInBounds_toArray,List.set_cons_succ,List.set_cons_zero,Nat.zero_add,Nat.reduceAdd]at hfr;simp only[yY];refine⟨?_,?_,?_,?_,?_,?_,?_,?_,?_,?_,?_,?_,?_,?_,?_⟩
 · intro v w1 hC hd K hK
   rw[<-hfr]at hK⊢;go_simp;exact hK _ _ (hC.alloc hC.size _) (HSt.out _ _ ((Below.refl _ _).alloc (Nat.le_refl _) _)) ⟨_,rfl,zx (vu w1 _) hC.size⟩
 · intro v w1 hC hd K hK
   rw[<-hfr]at hK⊢;go_simp;exact hK _ _ hC (HSt.out _ _ (Below.refl _ _)) rfl
 · intro v w1 hC hd K hK
   obtain⟨hv,-⟩:=hd;have hv:v 1=_:=hv;obtain⟨c0,c1,c2,-⟩:=HC.out w1 hC;rw[<-hfr]at hK⊢;simp only[hv]at hK⊢;go_simp;exact hK _ _ hC (HSt.out _ _ (Below.refl _ _)) rfl
 · intro v w1 hC hd K hK
   obtain⟨⟨g0,hv0,ho0⟩,hv2,-⟩:=hd;have hv2:v 2=_:=hv2;refine zZ (c:=vS) (sz:=6) (fun _=>rfl) KF 178 139 _ 56 Tryz.underlying139 Tryz.accInfo rfl (by decide) rfl _ _ rfl W.heap.size hC.size (some ⟨g0,0,none⟩) _ b.accs (by rw[<-hfr];exact hv0) (by rw[<-hfr];exact hv2) ho0 (HBk.out w1 hC).a (by unfold maxLen;omega) (by omega) (fun v' w' h1 h2=>?_);exact hK _ _ (hC.trans (h2.mono hC.size)) (HSt.out _ _ h2) h1
 · intro v w1 hC hd K hK
   rw[<-hfr]at hK⊢;go_simp;exact hK _ _ (hC.alloc hC.size _) (HSt.out _ _ ((Below.refl _ _).alloc (Nat.le_refl _) _)) ⟨_,rfl,zx (vu w1 _) hC.size⟩
 · intro v w1 hC hd K hK
   rw[<-hfr]at hK⊢;go_simp;exact hK _ _ hC (HSt.out _ _ (Below.refl _ _)) rfl
 · intro v w1 hC hd K hK
   obtain⟨hv,-⟩:=hd;have hv:v 5=_:=hv;obtain⟨c0,c1,c2,-⟩:=HC.out w1 hC;rw[<-hfr]at hK⊢;simp only[hv]at hK⊢;go_simp;exact hK _ _ hC (HSt.out _ _ (Below.refl _ _)) rfl
 · intro v w1 hC hd K hK
   obtain⟨⟨g0,hv0,ho0⟩,hv2,-⟩:=hd;have hv2:v 6=_:=hv2;refine zZ (c:=zK) (sz:=8) (fun _=>rfl) VS 181 140 _ 96 Tryz.underlying140 Tryz.subInfo rfl (by decide) rfl _ _ rfl W.heap.size hC.size (some ⟨g0,0,none⟩) _ X (by rw[<-hfr];exact hv0) (by rw[<-hfr];exact hv2) ho0 (HBk.out w1 hC).s (by unfold maxLen;omega) (by omega) (fun v' w' h1 h2=>?_);exact hK _ _ (hC.trans (h2.mono hC.size)) (HSt.out _ _ h2) h1
 · intro v w1 hC hd K hK
   rw[<-hfr]at hK⊢;go_simp;exact hK _ _ (hC.alloc hC.size _) (HSt.out _ _ ((Below.refl _ _).alloc (Nat.le_refl _) _)) ⟨_,rfl,zx (vu w1 _) hC.size⟩
 · intro v w1 hC hd K hK
   rw[<-hfr]at hK⊢;go_simp;exact hK _ _ hC (HSt.out _ _ (Below.refl _ _)) rfl
 · intro v w1 hC hd K hK
   obtain⟨hv,-⟩:=hd;have hv:v 9=_:=hv;obtain⟨c0,c1,c2,-⟩:=HC.out w1 hC;rw[<-hfr]at hK⊢;simp only[hv]at hK⊢;go_simp;exact hK _ _ hC (HSt.out _ _ (Below.refl _ _)) rfl
 · intro v w1 hC hd K hK
   obtain⟨⟨g0,hv0,ho0⟩,hv2,-⟩:=hd;have hv2:v 10=_:=hv2;refine zZ (c:=qq) (sz:=1) (fun _=>rfl) Ki 3 96 _ 8 Tryz.underlying96 Tryz.intInfo rfl (by decide) rfl _ _ rfl W.heap.size hC.size (some ⟨g0,0,none⟩) _ b.ended (by rw[<-hfr];exact hv0) (by rw[<-hfr];exact hv2) ho0 (HBk.out w1 hC).e (by unfold maxLen;omega) (by omega) (fun v' w' h1 h2=>?_);exact hK _ _ (hC.trans (h2.mono hC.size)) (HSt.out _ _ h2) h1
 · intro v w1 hC hd K hK
   obtain⟨h1,h2,h3,-⟩:=hd;have h1:w1.ownsRow _ _ _ (v 3) _ _:=h1;have h2:w1.ownsRow _ _ _ (v 7) _ _:=h2;have h3:w1.ownsRow _ _ _ (v 11) _ _:=h3;obtain⟨b1,q1,e1,-,-⟩:=zf h1;obtain⟨b2,q2,e2,-,-⟩:=zf h2;obtain⟨b3,q3,e3,-,-⟩:=zf h3;rw[e1]at h1;rw[e2]at h2;rw[e3]at h3;have H:=zb (And.intro h1 (And.intro h2 h3));clear h1 h2 h3;rw[<-hfr]at hK⊢;simp only[e1,e2,e3]at hK⊢;go_simp;exact hK _ _ hC (HSt.out _ _ (Below.refl _ _)) ⟨_,_,_,rfl,H.out⟩
 · intro v w1 hC hd K hK
   rw[<-hfr]at hK⊢;go_simp;exact hK _ _ (hC.alloc hC.size _) (HSt.out _ _ ((Below.refl _ _).alloc (Nat.le_refl _) _)) ⟨_,_,rfl,hC.size,heap_alloc_new _ _,rfl⟩
 intro v w1 hC hall;obtain⟨⟨-,v1,v2,v3,hv12,o1,o2,o3⟩,g,cs,hv13,hg,hrow,hcs⟩:=hall;have hw12:v 12=_:=hv12;have hw13:v 13=_:=hv13;have hst:BkSt W (w1.setRow g #[v1,v2,v3]) g v1 v2 v3 b.accs X b.ended:=⟨setRow_heap w1 g cs _ _ _ hrow,hg,zt o1 (zk o1 hrow (by decide)) _,zt o2 (zk o2 hrow (by decide)) _,zt o3 (zk o3 hrow (by decide)) _,zj hC hg _⟩;obtain⟨b1,q1,rfl,-,-⟩:=zf o1;obtain⟨b2,q2,rfl,-,-⟩:=zf o2;obtain⟨b3,q3,rfl,-,-⟩:=zf o3;refine wp_store_row _ _ _ rfl g #[.slice b1 b.accs.length q1,.slice b2 X.length q2,.slice b3 b.ended.length q3] (by rw[<-hfr];exact hv13) (by rw[<-hfr];exact hv12) 142 cs hrow (by kernel_rfl) hcs (by simp[Value.oneCell']) ?_;have Hst:=zb hst;clear hst o1 o2 o3 hrow hC;obtain⟨V,hV⟩:∃V,V=w1.setRow g #[.slice b1 b.accs.length q1,.slice b2 X.length q2,.slice b3 b.ended.length q3]:=⟨_,rfl⟩;rw[<-hV]at Hst⊢;clear hV;rw[<-hfr];simp only[hw12,hw13];generalize v 0=y0,v 1=y1,v 2=y2,v 3=y3,v 4=y4,v 5=y5,v 6=y6,v 7=y7,v 8=y8,v 9=y9,v 10=y10,v 11=y11;clear hv12 hv13 hw12 hw13 hfr hcs v HSt;obtain⟨c0,c1,c2,d0,d1,d2,d3,d4,d5,d6⟩:=HC.out V Hst.out.b;have p0:=cell_of_row V _ 0 _ _ _ Hst.out.row;have p1:=cell_of_row V _ 1 _ _ _ Hst.out.row;have p2:=cell_of_row V _ 2 _ _ _ Hst.out.row;obtain⟨hk4,hk13⟩:=Hkd.out;have e1:(kd==1)=false:=beq_eq_false_iff_ne.2 (by omega);have e2:(kd==2)=false:=beq_eq_false_iff_ne.2 (by omega);have e3:(kd==3)=false:=beq_eq_false_iff_ne.2 (by omega);have e14:(kd==14)=false:=beq_eq_false_iff_ne.2 (by omega);have e15:(kd==15)=false:=beq_eq_false_iff_ne.2 (by omega);have HAp:=zb (show zM b ⟨tm,kd,ac,sb,nu,nm,vl⟩={ b with subs:=b.subs.modify (zT b sb).toNat fun s=>yg s ⟨tm,kd,ac,sb,nu,nm,vl⟩,ended:=if kd=4 then b.ended++[sb] else b.ended } by unfold zM;dsimp only;rw[if_neg (by omega),if_neg (by omega),if_neg (by omega),if_neg (by omega)]);obtain⟨k,hkb,hix,-⟩:=ZZ (Hok.out.sub (show vB kd=false by unfold vB;simp;omega)).1;have hix:zT b sb=k:=hix;have Hix:=zb hix;have hk:k<X.length:=by rw[HXl.out];exact hkb
 have hkl:(k:Int)<(X.length:Int):=by omega
 have hk0:(0:Int)<=(k:Int):=Int.natCast_nonneg _;have HMd:=zb (V9 (fun s=>yg s ⟨tm,kd,ac,sb,nu,nm,vl⟩) b.subs k hkb);have HXk:=zb (show(X[k]).s=b.subs[k] by
  have h1:(X.map (·.s))[k]?=b.subs[k]?:=by rw[HXs.out]
  rw[List.getElem?_map,List.getElem?_eq_getElem hk,List.getElem?_eq_getElem hkb]at h1;simpa using h1);have HLn:=zb (And.intro (Hsm.out.nu _ (List.getElem_mem hkb)) (Hsm.out.pr _ (List.getElem_mem hkb)));rw[<-HXk.out]at HLn;have HSb:=zb (kx _ _ _ X b sb V (HBk.out V Hst.out.b));have HRx:=zb (Hold.out X[k] (List.getElem_mem hk));have HMx:=zb (List.getElem_mem hk:X[k]∈X);clear hix;go_upto_region 3 with(fail);go_wp2_with fail;refine HSb.out.mono ?_;rintro e w1b ⟨rfl,hb1⟩;rw[Hix.out];have Hst1:=zb (Hst.out.below hb1);have Hw1:=zb (Hst1.out.b);clear c0 c1 c2 d0 d1 d2 d3 d4 d5 d6 p0 p1 p2 hb1;obtain⟨g2,rfl⟩:∃g2,b2=some ⟨g2,0,none⟩:=by
  rcases Hst.out.o2.2 with⟨h1,h2⟩|⟨g2,cap',cur,hv,-⟩;· omega
  simp only[Value.slice.injEq]at hv;exact⟨g2,hv.1⟩
 have HXc:=zb (show ∀Y,Below w1b.heap.size w1b Y->∀j,j<8->Y.cell? ⟨g2,k*8+j,none⟩=(zK X[k])[j]? from fun Y hb j hj=>by
  have h1:=(zd Hst1.out.o2 hb).cellAt (k*8+j) (by omega);rwa[vJ zK 8 (fun _=>rfl) X k j hk hj]at h1);generalize X[k]=x at *;go_upto_region 4 with(fail);refine yq (fun w'=>Below w1b.heap.size w1b w') (XD w1b g g2 k q2 X.length x ⟨tm,kd,ac,sb,nu,nm,vl⟩) (by kernel_rfl) (by decide) (by kernel_rfl) (Below.refl _ _).drew ?_;generalize hfr:(fun v:Nat->Value=>_)=fr;simp only[List.map_cons,List.map_nil,zC,List.setIfInBounds_toArray,List.set_cons_succ,List.set_cons_zero,Nat.zero_add,Nat.reduceAdd]at hfr;simp only[yY];refine⟨?_,?_,?_,?_,?_,?_,?_,?_,?_,?_,?_,?_⟩
 · intro v w2 hC hd K hK
   rw[<-hfr]at hK⊢;go_simp;exact hK _ _ hC (yW (Below.refl _ _)) rfl
 · intro v w2 hC hd K hK
   obtain⟨(e0:v 0=_),-⟩:=hd;have p1:=cell_of_row w2 _ 1 _ _ _ (Hst1.out.below hC).row;rw[<-hfr]at hK⊢;simp only[e0]at hK⊢;go_simp;exact hK _ _ hC (yW (Below.refl _ _)) rfl
 iterate 2
  · intro v w2 hC hd K hK
    rw[<-hfr]at hK⊢;go_simp;exact hK _ _ hC (yW (Below.refl _ _)) rfl
 · intro v w2 hC hd K hK
   obtain⟨(e3:v 3=_),-⟩:=hd;have p1:=cell_of_row w2 _ 1 _ _ _ (Hst1.out.below hC).row;rw[<-hfr]at hK⊢;simp only[e3]at hK⊢;go_simp;exact hK _ _ hC (yW (Below.refl _ _)) rfl
 · intro v w2 hC hd K hK
   rw[<-hfr]at hK⊢;go_simp;exact hK _ _ hC (yW (Below.refl _ _)) rfl
 · intro v w2 hC hd K hK
   obtain⟨(e4:v 4=_),(e5:v 5=_),-⟩:=hd;rw[<-hfr]at hK⊢;simp only[e4,e5]at hK⊢;go_simp;exact hK _ _ hC (yW (Below.refl _ _)) rfl
 · intro v w2 hC hd K hK
   obtain⟨(e6:v 6=_),-⟩:=hd;have x0:w2.cell? ⟨g2,k*8,none⟩=some (.int .i64 x.s.id):=HXc.out w2 hC 0 (by decide);have x1:w2.cell? ⟨g2,k*8+1,none⟩=some (.int .i64 x.s.ac):=HXc.out w2 hC 1 (by decide);have x2:w2.cell? ⟨g2,k*8+2,none⟩=some (.int .i64 x.s.si):=HXc.out w2 hC 2 (by decide);have x3:w2.cell? ⟨g2,k*8+3,none⟩=some (.string x.s.plan):=HXc.out w2 hC 3 (by decide);have x4:w2.cell? ⟨g2,k*8+4,none⟩=some (.slice x.na x.nn x.nc):=HXc.out w2 hC 4 (by decide);have x5:w2.cell? ⟨g2,k*8+5,none⟩=some (.slice x.pa x.pn x.pc):=HXc.out w2 hC 5 (by decide);have x6:w2.cell? ⟨g2,k*8+6,none⟩=some (.bool x.s.su):=HXc.out w2 hC 6 (by decide);have x7:w2.cell? ⟨g2,k*8+7,none⟩=some (.bool x.s.fa):=HXc.out w2 hC 7 (by decide);rw[<-hfr]at hK⊢;simp only[e6]at hK⊢;go_simp;exact hK _ _ hC (yW (Below.refl _ _)) rfl
 · intro v w2 hC hd K hK
   obtain⟨c0,c1,c2,d0,d1,d2,d3,d4,d5,d6⟩:=HC.out w2 (Hw1.out.trans (hC.mono Hw1.out.size));rw[<-hfr]at hK⊢;go_simp;exact hK _ _ hC (yW (Below.refl _ _)) rfl
 · intro v w2 hC hd K hK
   obtain⟨(e7:v 7=_),(e8:v 8=_),-⟩:=hd;have HA:=zb (Jn x ⟨tm,kd,ac,sb,nu,nm,vl⟩ w2 (HRx.out.below (Hw0.out.trans ((Hw1.out.trans (hC.mono Hw1.out.size)).mono Hw0.out.size))) Hsz.out.1 Hsz.out.2 (by have:=HLn.out.1;omega) (by have:=HLn.out.2;omega));rw[<-hfr]at hK⊢;simp only[e7,e8]at hK⊢;go_simp;refine HA.out.mono ?_;rintro e w3 ⟨x',rfl,hs',hr',hk1,hk2,hb3⟩;exact hK _ _ (hC.trans (hb3.mono hC.size)) (yW hb3) ⟨x',rfl,hs',hr',hk1.mono hC.size,hk2.mono hC.size⟩
 · intro v w2 hC hd K hK
   obtain⟨(e1:v 1=_),(e2:v 2=_),-⟩:=hd;rw[<-hfr]at hK⊢;simp only[e1,e2]at hK⊢;go_simp;exact hK _ _ hC (yW (Below.refl _ _)) rfl
 intro v w2 hC hall;obtain⟨⟨-,x',f9,hs',hr',hk1,hk2⟩,f10⟩:=hall;have e9:v 9=_:=f9;have e10:v 10=_:=f10;have hst2:=Hst1.out.below hC;refine wp_store_mid _ _ _ rfl g2 (k*8) (zK x').toArray (by rw[<-hfr];exact e10) (by rw[<-hfr];exact e9) (by simpa [zK]using W0 hst2.o2 k hk) (by kernel_rfl) (by simp[zK,Value.oneCell']) ?_;obtain⟨so,sg⟩:=qI (zK x') _ (k*8) _ hst2.o2;rw[JI (c:=zK) (sz:=8) (fun _=>rfl) X k x' hk]at so;have hst3:=hst2.turn2 (X':=X.set k x') sg (by rw[List.length_set];exact so);have hbk:∀q,w1b.heap.size<=q->q<w2.heap.size->(w2.setCells g2 (k*8) (zK x')).heap[q]?=w2.heap[q]?:=fun q h1 h2=>sg.block q h2 (by
  intro e;have:=(zg Hst1.out.o2 q e.symm).2
  omega);obtain⟨w6,hw0⟩:∃w6,w6=w2.setCells g2 (k*8) (zK x').toArray.toList:=⟨_,rfl⟩;rw[<-hw0];have hw6:w6=w2.setCells g2 (k*8) (zK x'):=hw0;rw[<-hw6]at hst3 hbk sg;have Hst6:=zb hst3;have HBq:=zb hbk;have Hsz6:=zb sg.size;have Hr':=zb hr';have Hkk:=zb (And.intro hk1 hk2);have Hs':=zb hs';have HXm:=zb (show(X.set k x').map (·.s)=b.subs.modify k (fun s=>yg s ⟨tm,kd,ac,sb,nu,nm,vl⟩) by
  rw[List.map_set,HXs.out,HMd.out,Hs'.out,HXk.out]);have HFin:=zb (show ∀Y,Below w.heap.size w Y->(∀q,w1b.heap.size<=q->q<w2.heap.size->Y.heap[q]?=w2.heap[q]?)->w2.heap.size<=Y.heap.size->∀y∈X.set k x',SbRd Y y from fun Y hY hq hz y hy=>by
  rcases List.mem_or_eq_of_mem_set hy with hy|rfl;· exact(Hold.out y hy).below hY
  exact GR HRx.out hY Hr'.out Hkk.out.1 Hkk.out.2 hq hz);have HPa:=zb (show ∀y∈X.set k x',PaIn w.heap.size X y from fun y hy=>by
  rcases List.mem_or_eq_of_mem_set hy with hy|rfl;· exact PaIn.old hy
  rcases Hkk.out.2 with⟨h1,-⟩|h1;· exact Or.inl ⟨x,HMx.out,h1⟩
  exact Or.inr (h1.mono Hw1.out.size |>.mono Hw0.out.size));rw[<-hfr];simp only[e9,e10];generalize v 0=y0,v 1=y1,v 2=y2,v 3=y3,v 4=y4,v 5=y5,v 6=y6,v 7=y7,v 8=y8;clear hst3 hst2 so sg hw6 hw0 hbk hr' hk1 hk2 hs' e9 e10 f9 f10 hfr v HXc;obtain⟨c0,c1,c2,d0,d1,d2,d3,d4,d5,d6⟩:=HC.out w6 Hst6.out.b;have p0:=cell_of_row w6 _ 0 _ _ _ Hst6.out.row;have p1:=cell_of_row w6 _ 1 _ _ _ Hst6.out.row;have p2:=cell_of_row w6 _ 2 _ _ _ Hst6.out.row;have hXs6:(X.set k x').length=X.length:=List.length_set;have hst6s:BkSt W w6 g (.slice b1 b.accs.length q1) (.slice (some ⟨g2,0,none⟩) X.length q2) (.slice b3 b.ended.length q3) b.accs (X.set k x') b.ended:=Hst6.out;clear hXs6 hst6s;by_cases hk4:kd=4
 · subst hk4
   have HE:=zb (show(zM b ⟨tm,4,ac,sb,nu,nm,vl⟩).ended=b.ended++[sb] by rw[HAp.out];rfl);have HX1:=zb (zi.one (c:=qq) (sz:=1) w6 sb 3 #[.int .i64 sb] rfl);go_upto_region 6 with(fail);go_wp2_with (at_builtin;refine zX (c:=qq) (sz:=1) (fun _=>rfl) Ki 3 96 _ 8 Tryz.underlying96 Tryz.intInfo rfl (by decide) rfl _ _ rfl W.heap.size ?hb1 _ _ b.ended [sb] rfl rfl (Hst6.out.o3.alloc _) HX1.out ?hl1 ?hl2 ?_);case hb1=>have:=Hst6.out.b.size;(try simp);omega
   case hl1=>unfold maxLen;(try simp);omega
   case hl2=>(try simp);omega
   intro R hR v5 w7 own5 hgrow5;obtain⟨hrow5,hst7⟩:=Hst6.out.push3 _ hgrow5 own5;have hg3:∀q,(Value.slice b3 b.ended.length q3).ownBlock=some q->q<w1b.heap.size:=fun q e=>(zg Hst1.out.o3 q e).2;have hkeep:∀q,w1b.heap.size<=q->q<w2.heap.size->w7.heap[q]?=w2.heap[q]?:=fun q h1 h2=>(hgrow5.block q (by have:=Hsz6.out;simp;omega) (by intro e;have:=hg3 q e.symm;omega)).trans ((((Below.refl w6.heap.size w6).alloc (Nat.le_refl _) _:Below w6.heap.size w6 (w6.alloc (Obj.cells #[.int .i64 sb] 3))).block q (by have:=Hsz6.out;omega)).trans (HBq.out q h1 h2));have hz7:w2.heap.size<=w7.heap.size:=by have:=hgrow5.size;have:=Hsz6.out;simp at *;omega
   obtain⟨a5,c5,rfl,-,-⟩:=zf own5;have o0:=cell_of_row w7 _ 2 _ _ _ hrow5;have of0:=frozen_of_row w7 _ 2 _ _ hrow5;have HRe:=zb hR.out;obtain⟨w8,hw8⟩:∃w8,w8=w7.setCell ⟨g,2,none⟩ (.slice a5 R.length c5):=⟨_,rfl⟩;have hgl:g<w1b.heap.size:=Hst1.out.lt;have Hk8:=zb (show ∀q,w1b.heap.size<=q->q<w2.heap.size->w8.heap[q]?=w2.heap[q]? from fun q h1 h2=>by
    rw[hw8];exact(Below.heap_setCell _ _ _ _ (by show q≠g;omega)).trans (hkeep q h1 h2));have Hz8:=zb (show w2.heap.size<=w8.heap.size by rw[hw8];simpa [World.setCell]using hz7);rw[<-hw8]at hst7;have Hst8:=zb hst7;have Hw8:=zb hw8;clear own5 hgrow5 hrow5 hst7 hw8 hR hkeep hz7 hg3 hgl c0 c1 c2 d0 d1 d2 d3 d4 d5 d6 p0 p1 p2;go_upto_region 16 with(fail);rw[<-Hw8.out];clear o0 of0;obtain⟨u0,u1,u2⟩:w8.cell? ⟨g,0,none⟩=_/\w8.cell? ⟨g,1,none⟩=_/\w8.cell? ⟨g,2,none⟩=_:=⟨cell_of_row w8 _ 0 _ _ _ Hst8.out.row,cell_of_row w8 _ 1 _ _ _ Hst8.out.row,cell_of_row w8 _ 2 _ _ _ Hst8.out.row⟩;go_upto_region 16 with(fail);have tQ:=fun j=>cell_setRow_same w8 (w.heap.size+1+1) j _ #[.slice b1 b.accs.length q1,.slice (some ⟨g2,0,none⟩) X.length q2,.slice a5 R.length c5] _ _ (HR2.out w8 Hst8.out.b);have t0:=tQ 0;have t1:=tQ 1;have t2:=tQ 2;clear tQ;repeat (first|refine wpList_store_row rfl _ _ _ rfl (w.heap.size+1+1) #[.slice b1 b.accs.length q1,.slice (some ⟨g2,0,none⟩) X.length q2,.slice a5 R.length c5] rfl rfl 142 _ (HR2.out w8 Hst8.out.b) (by kernel_rfl) rfl (by simp[Value.oneCell']) ?_|go_step)
   refine bodyPost_ret (v:=.agg #[.slice b1 b.accs.length q1,.slice (some ⟨g2,0,none⟩) X.length q2,.slice a5 R.length c5]) (by simp[results,Tryz.results72,go_sem,t0,t1,t2]) rfl ?_;exact Hst8.out.finish HPa.out Hw0.out (show w.heap.size<=w.heap.size+1+1 by omega) Hz.out _ (by rw[HAp.out]) (by rw[HAp.out,Hix.out];exact HXm.out) (by rw[HE.out];exact HRe.out) (HFin.out _ (zj (Hw0.out.trans (Hst8.out.b.mono Hw0.out.size)) (by omega) _) (fun q h1 h2=>(setRow_other _ _ _ _ (by have:=Hw1.out.size;have:=Hz.out;omega)).trans (Hk8.out q h1 h2)) (by rw[setRow_size];exact Hz8.out))
 have hk4b:(kd==4)=false:=beq_eq_false_iff_ne.2 hk4;have HE:=zb (show(zM b ⟨tm,kd,ac,sb,nu,nm,vl⟩).ended=b.ended by rw[HAp.out];exact if_neg hk4);clear hk4;obtain⟨u0,u1,u2⟩:w6.cell? ⟨g,0,none⟩=_/\w6.cell? ⟨g,1,none⟩=_/\w6.cell? ⟨g,2,none⟩=_:=⟨cell_of_row w6 _ 0 _ _ _ Hst6.out.row,cell_of_row w6 _ 1 _ _ _ Hst6.out.row,cell_of_row w6 _ 2 _ _ _ Hst6.out.row⟩;go_upto_region 16 with(fail);have tQ:=fun j=>cell_setRow_same w6 (w.heap.size+1+1) j _ #[.slice b1 b.accs.length q1,.slice (some ⟨g2,0,none⟩) X.length q2,.slice b3 b.ended.length q3] _ _ (HR2.out w6 Hst6.out.b);have t0:=tQ 0;have t1:=tQ 1;have t2:=tQ 2;clear tQ;repeat (first|refine wpList_store_row rfl _ _ _ rfl (w.heap.size+1+1) #[.slice b1 b.accs.length q1,.slice (some ⟨g2,0,none⟩) X.length q2,.slice b3 b.ended.length q3] rfl rfl 142 _ (HR2.out w6 Hst6.out.b) (by kernel_rfl) rfl (by simp[Value.oneCell']) ?_|go_step)
 refine bodyPost_ret (v:=.agg #[.slice b1 b.accs.length q1,.slice (some ⟨g2,0,none⟩) X.length q2,.slice b3 b.ended.length q3]) (by simp[results,Tryz.results72,go_sem,t0,t1,t2]) rfl ?_;exact Hst6.out.finish HPa.out Hw0.out (show w.heap.size<=w.heap.size+1+1 by omega) Hz.out _ (by rw[HAp.out]) (by rw[HAp.out,Hix.out];exact HXm.out) (by rw[HE.out]) (HFin.out _ (zj (Hw0.out.trans (Hst6.out.b.mono Hw0.out.size)) (by omega) _) (fun q h1 h2=>(setRow_other _ _ _ _ (by have:=Hw1.out.size;have:=Hz.out;omega)).trans (HBq.out q h1 h2)) (by rw[setRow_size];exact Hsz6.out))
theorem Vi (va vs ve:Value) (X:List SbX) (b:Bk) (ev:Ev) (last:Int) (w:World) (h:BkAt w va vs ve X b) (hok:OkEv b last ev) (hsm:uJ b 1000) (hn:ev.nu.size<=maxLen) (hm:ev.nm.size<=maxLen):
 Calls Tryz.prog 72 #[.agg #[va,vs,ve],yU ev] w (Ym X (zM b ev) w):=by
 have h1:=hok.k1;have h2:=hok.k2;by_cases hk2:ev.kd=2;· exact NZ va vs ve X b ev last w h hok hk2 hsm hn hm
 by_cases hks:4<=ev.kd/\ev.kd<=13;· exact Gz va vs ve X b ev last w h hok hks hsm hn hm
 exact GA va vs ve X b ev last w h hok (by omega) hsm hn hm
def isSl:Value->Bool
 |.slice _ _ _=>true
 |_=>false
theorem kO {α:Type} {c:α->List Value} {sz:Nat} (h0:∀x,∃u,(c x)[0]?=some u/\isSl u=false) (hsz:0<sz) {w:World} {v:Value} {l:List α} (h:zi c sz w v l) {g:Nat} {cs:Array Value} {t:TypeId} {fr:Nat×Nat} (hg:w.heap[g]?=some (.cells cs t fr)) (hcs:∀(j:Nat) (u:Value),cs[j]?=some u->isSl u=true) (cs':Array Value):zi c sz (w.setRow g cs') v l:=by
 obtain⟨av,cap,rfl,h1,h2,h3⟩:=h;refine⟨av,cap,rfl,h1,h2,fun hne=>?_⟩;obtain⟨b,o,rfl,hB,hx⟩:=h3 hne;have hb:b≠g:=by rintro rfl;have hl:0<l.length:=List.length_pos_iff.2 hne;have c0:=hx 0 hl 0 hsz;obtain⟨u,e1,e2⟩:=h0 l[0];rw[e1,cell_of_row w _ _ _ _ _ hg]at c0;have:=hcs _ _ c0;rw[e2]at this;cases this
 refine⟨b,o,rfl,by simpa using hB,fun i hi j hj=>?_⟩;exact(World.cell?_of_block (a:=⟨b,_,none⟩) (setRow_other _ _ _ _ hb)).trans (hx i hi j hj)
theorem YR {w:World} {v:Value} {l:List ByteArray} (h:zR w v l) {g:Nat} {cs:Array Value} {t:TypeId} {fr:Nat×Nat} (hg:w.heap[g]?=some (.cells cs t fr)) (hcs:∀(j:Nat) (u:Value),cs[j]?=some u->isSl u=true) (cs':Array Value):zR (w.setRow g cs') v l:=
 ke (kO (fun _=>⟨_,rfl,rfl⟩) (by decide) (qw h) hg hcs cs') (Zn h)
theorem BkAt.setRow {w:World} {va vs ve:Value} {X:List SbX} {b:Bk} (h:BkAt w va vs ve X b) {g:Nat} {cs:Array Value} {t:TypeId} {fr:Nat×Nat} (hg:w.heap[g]?=some (.cells cs t fr)) (hcs:∀(j:Nat) (u:Value),cs[j]?=some u->isSl u=true) (cs':Array Value):BkAt (w.setRow g cs') va vs ve X b:=
 ⟨kO (fun _=>⟨_,rfl,rfl⟩) (by decide) h.a hg hcs cs',kO (fun _=>⟨_,rfl,rfl⟩) (by decide) h.s hg hcs cs',h.x,
  fun x hx=>⟨YR (h.r x hx).1 hg hcs cs',YR (h.r x hx).2.1 hg hcs cs',(h.r x hx).2.2⟩,kO (fun _=>⟨_,rfl,rfl⟩) (by decide) h.e hg hcs cs'⟩
theorem VJ {a1 a2 a3:Option Addr} {n1 n2 n3 c1 c2 c3:Nat}:∀(j:Nat) (u:Value),(#[Value.slice a1 n1 c1,.slice a2 n2 c2,.slice a3 n3 c3]:Array Value)[j]?=some u->isSl u=true:=by
 intro j u h
 match j,h with
 |0,h=>cases h;rfl
 |1,h=>cases h;rfl
 |2,h=>cases h;rfl
 |j+3,h=>simp at h
def xh (l:List Ev) (w:World) (e:Ending) (w':World):Prop:=∃p r,e=.returned (.tuple #[.int .i64 p,.int .i64 r])/\(r=0->yp l)/\Below w.heap.size w w'
theorem Kc (l:List Ev) (k:Nat) (h:k<l.length):jr l (k+1)=(l[k]).tm:=by unfold jr;simp[List.getD,h]
def xU (a1 a2 a3:Option Addr) (n1 n2 n3 c1 c2 c3:Nat) (av:Option Addr) (n cap k:Nat) (bb o:Nat) (ev:Ev) (b:Bk) (last:Int):Nat->Value->Prop
 |0,v=>v=.agg #[.slice a1 n1 c1,.slice a2 n2 c2,.slice a3 n3 c3]
 |1,v=>v=.slice av n cap
 |2,v=>v=.int .i64 k
 |3,v=>v=.pointer (some ⟨bb,o+k*7,none⟩)
 |4,v=>v=yU ev
 |5,v=>v=.int .i64 last
 |6,v=>∃r,v=.int .i64 r/\(r=0->OkEv b last ev)
 |_,_=>True
def Ku (a1 a2 a3:Option Addr) (n1 n2 n3 c1 c2 c3:Nat) (av:Option Addr) (n cap k:Nat) (bb o:Nat) (ev:Ev) (b:Bk):Nat->Value->World->Prop
 |0,v,_=>v=.agg #[.slice a1 n1 c1,.slice a2 n2 c2,.slice a3 n3 c3]
 |1,v,_=>v=.slice av n cap
 |2,v,_=>v=.int .i64 k
 |3,v,_=>v=.pointer (some ⟨bb,o+k*7,none⟩)
 |4,v,_=>v=yU ev
 |5,v,w'=>∃(a1 a2 a3:Option Addr) (n1 n2 n3 c1 c2 c3:Nat) (X:List SbX),v=.agg #[.slice a1 n1 c1,.slice a2 n2 c2,.slice a3 n3 c3]/\BkAt w' (.slice a1 n1 c1) (.slice a2 n2 c2) (.slice a3 n3 c3) X (zM b ev)
 |_,_,_=>True
theorem j6 {a1 a2 a3:Option Addr} {n1 n2 n3 c1 c2 c3:Nat} {av:Option Addr} {n cap k bb o:Nat} {ev:Ev} {b:Bk} {w1 w2:World} (hb:Below w1.heap.size w1 w2):∀j y,Ku a1 a2 a3 n1 n2 n3 c1 c2 c3 av n cap k bb o ev b j y w1->Ku a1 a2 a3 n1 n2 n3 c1 c2 c3 av n cap k bb o ev b j y w2
 |0,_,h=>h
 |1,_,h=>h
 |2,_,h=>h
 |3,_,h=>h
 |4,_,h=>h
 |5,_,⟨a1,a2,a3,n1,n2,n3,c1,c2,c3,X,h1,h2⟩=>⟨a1,a2,a3,n1,n2,n3,c1,c2,c3,X,h1,h2.below hb⟩
 |_+6,_,_=>trivial
theorem Jm (v:Value) (l:List Ev) (w:World) (h:vE w v l) (hl:l.length<=1000):
 Calls Tryz.prog 37 #[v] w (xh l w):=by
 have HE:=zb h.1;have HSz:=zb h.2;have HSm:=zb (jS l);have HBs:=zb (vM l);have HLs:=zb (Kc l);have HOK:=zb (show(∀j (hj:j<l.length),OkEv (zQ (l.take j)) (jr l j) l[j])->yp l from fun h=>h);obtain⟨av,cap,rfl,hlc,hcm⟩:=zq h.1;unfold maxLen at hcm;clear h;obtain⟨N,hN⟩:∃N,N=l.length:=⟨_,rfl⟩;rw[<-hN]at hl hlc⊢;have HN:=zb hN;have r0:(w.alloc (Obj.cells #[.slice none 0 0,.slice none 0 0,.slice none 0 0] 142)).heap[w.heap.size]?=some (Obj.cells #[.slice none 0 0,.slice none 0 0,.slice none 0 0] 142):=heap_alloc_new _ _;have R0:=zb r0;clear r0 hN;go_enter Tryz.func37,Tryz.ntmps37;go_wp2_with fail;go_loopg [5,6] N (fun g la i wx=>∃k:Nat,k+g=N/\i=.int .i64 k/\la=.int .i64 (jr l k)/\(∀j (hj:j<l.length),j<k->OkEv (zQ (l.take j)) (jr l j) l[j])/\Below w.heap.size w wx/\
  ∃(a1 a2 a3:Option Addr) (n1 n2 n3 c1 c2 c3:Nat) (X:List SbX),wx.heap[w.heap.size]?=some (Obj.cells #[.slice a1 n1 c1,.slice a2 n2 c2,.slice a3 n3 c3] 142)/\BkAt wx (.slice a1 n1 c1) (.slice a2 n2 c2) (.slice a3 n3 c3) X (zQ (l.take k)));case atStart=>exact⟨0,by omega,rfl,rfl,fun j _ h=>by omega,(Below.refl _ _).alloc (Nat.le_refl _) _,none,none,none,0,0,0,0,0,0,[],R0.out,⟨zz.nil _,zz.nil _,rfl,fun x hx=>(by cases hx),zz.nil _⟩⟩
 case round=>
  obtain⟨wo,rfl⟩:∃wo:World,wo=wr:=⟨_,rfl⟩;obtain⟨k,hkg,rfl,rfl,hall,hb,a1,a2,a3,n1,n2,n3,c1,c2,c3,X,hrow,hbk⟩:=hrel;have Hall:=zb hall;have Hb:=zb hb;have Hrow:=zb hrow;have Hbk:=zb hbk;clear hall hrow hbk;cases gk with
  |zero=>
    have hkz:¬((k:Int)<(N:Int)):=by omega
    have HF:=zb (HOK.out fun j hj=>Hall.out j hj (by have:=HN.out;omega));clear hkg hb;go_wp2;go_ret2;exact⟨_,_,rfl,fun _=>HF.out,Hb.out⟩
  |succ g0=>
    have hk1:(k:Int)<(N:Int):=by omega
    have hk0:(0:Int)<=(k:Int):=Int.natCast_nonneg _;have hkl:k<l.length:=by have:=HN.out;omega
    have HSmk:=zb ((HSm.out k (by omega)).mono (show k<=1000 by omega));have HB1:=zb (HBs.out k hkl);have HL1:=zb (HLs.out k hkl);have hsz:=HSz.out l[k] (List.getElem_mem hkl);have Hsz:=zb hsz;obtain⟨av2,cap2,e2,-,-,hx⟩:=HE.out;have e3:av2=av/\cap2=cap:=by have:=HN.out;simp only[Value.slice.injEq]at e2;exact⟨e2.1.symm,e2.2.2.symm⟩
    obtain⟨rfl,rfl⟩:=e3;obtain⟨bb,o,rfl,hB,hx⟩:=hx (by intro e;rw[e]at hkl;cases hkl);have HXc:=zb (show ∀Y,Below w.heap.size w Y->∀j,j<7->Y.cell? ⟨bb,o+k*7+j,none⟩=(jt l[k])[j]? from fun Y hY j hj=>(hY.cell (p:=⟨bb,_,none⟩) hB).trans (hx k hkl j hj));have HAk:=zb (fun(hok:OkEv (zQ (l.take k)) (jr l k) l[k])=>(show ∀j (hj:j<l.length),j<k+1->OkEv (zQ (l.take j)) (jr l j) l[j] from fun j hj hjk=>by
     by_cases h:j=k;· subst h;exact hok
     exact Hall.out j hj (by omega)));obtain⟨ev,hev⟩:∃ev,ev=l[k]:=⟨_,rfl⟩;obtain⟨la,hla⟩:∃la,la=jr l k:=⟨_,rfl⟩;obtain⟨bk,hbkk⟩:∃bk,bk=zQ (l.take k):=⟨_,rfl⟩;rw[<-hev]at Hsz HXc HAk HB1 HL1;rw[<-hla]at HAk⊢;rw[<-hbkk]at HAk Hbk HB1 HSmk;have Hkg:=zb hkg;clear hev hla hbkk hx e2 hsz hb hkg;have HFt:=zb (fun Y (hY:Below wo.heap.size wo Y)=>Ji _ _ _ X bk ev la Y (Hbk.out.below hY) Hsz.out.1 Hsz.out.2);go_upto_region 8 with(fail);refine yq (fun w'=>Below wo.heap.size wo w') (fun i v _=>xU a1 a2 a3 n1 n2 n3 c1 c2 c3 (some ⟨bb,o,none⟩) N cap2 k bb o ev bk la i v) (by kernel_rfl) (by decide) (by kernel_rfl) (Below.refl _ _).drew ?_;generalize hfr:(fun v:Nat->Value=>_)=fr;simp only[List.map_cons,List.map_nil,zC,List.setIfInBounds_toArray,List.set_cons_succ,List.set_cons_zero,Nat.zero_add,Nat.reduceAdd]at hfr;simp only[yY];refine⟨?_,?_,?_,?_,?_,?_,?_,?_⟩
    · intro v w2 hC hd K hK
      have p0:=cell_of_row w2 _ 0 _ _ _ ((hC.block _ (zu Hrow.out)).trans Hrow.out);have p1:=cell_of_row w2 _ 1 _ _ _ ((hC.block _ (zu Hrow.out)).trans Hrow.out);have p2:=cell_of_row w2 _ 2 _ _ _ ((hC.block _ (zu Hrow.out)).trans Hrow.out);rw[<-hfr]at hK⊢;go_simp;exact hK _ _ hC (fun _ _ h=>h) rfl
    iterate 2
     · intro v w2 hC hd K hK
       rw[<-hfr]at hK⊢;go_simp;exact hK _ _ hC (fun _ _ h=>h) rfl
    · intro v w2 hC hd K hK
      obtain⟨(e1:v 1=_),(e2:v 2=_),-⟩:=hd;rw[<-hfr]at hK⊢;simp only[e1,e2]at hK⊢;go_simp;exact hK _ _ hC (fun _ _ h=>h) rfl
    · intro v w2 hC hd K hK
      obtain⟨(e3:v 3=_),-⟩:=hd;have x0:w2.cell? ⟨bb,o+k*7,none⟩=some (.int .i64 ev.tm):=HXc.out w2 (Hb.out.trans (hC.mono Hb.out.size)) 0 (by decide);have x1:w2.cell? ⟨bb,o+k*7+1,none⟩=some (.int .i64 ev.kd):=HXc.out w2 (Hb.out.trans (hC.mono Hb.out.size)) 1 (by decide);have x2:w2.cell? ⟨bb,o+k*7+2,none⟩=some (.int .i64 ev.ac):=HXc.out w2 (Hb.out.trans (hC.mono Hb.out.size)) 2 (by decide);have x3:w2.cell? ⟨bb,o+k*7+3,none⟩=some (.int .i64 ev.sb):=HXc.out w2 (Hb.out.trans (hC.mono Hb.out.size)) 3 (by decide);have x4:w2.cell? ⟨bb,o+k*7+4,none⟩=some (.string ev.nu):=HXc.out w2 (Hb.out.trans (hC.mono Hb.out.size)) 4 (by decide);have x5:w2.cell? ⟨bb,o+k*7+5,none⟩=some (.string ev.nm):=HXc.out w2 (Hb.out.trans (hC.mono Hb.out.size)) 5 (by decide);have x6:w2.cell? ⟨bb,o+k*7+6,none⟩=some (.int .i64 ev.vl):=HXc.out w2 (Hb.out.trans (hC.mono Hb.out.size)) 6 (by decide);rw[<-hfr]at hK⊢;simp only[e3]at hK⊢;go_simp;exact hK _ _ hC (fun _ _ h=>h) rfl
    · intro v w2 hC hd K hK
      rw[<-hfr]at hK⊢;go_simp;exact hK _ _ hC (fun _ _ h=>h) rfl
    · intro v w2 hC hd K hK
      obtain⟨(e0:v 0=_),(e4:v 4=_),(e5:v 5=_),-⟩:=hd;have HF:=zb (HFt.out w2 hC);rw[<-hfr]at hK⊢;simp only[e0,e4,e5]at hK⊢;go_simp;refine HF.out.mono ?_;rintro e w3 ⟨r,rfl,hr,hb3⟩;exact hK _ _ (hC.trans (hb3.mono hC.size)) (fun _ _ h=>h) ⟨r,rfl,hr⟩
    intro v w2 hC hall;obtain⟨-,r,f6,hr⟩:=hall;have e6:v 6=_:=f6;rw[<-hfr];simp only[e6];go_simp;have Hr:=zb hr;have Hb2:=zb (Hb.out.trans (hC.mono Hb.out.size));have Hrow2:=zb ((hC.block _ (zu Hrow.out)).trans Hrow.out);have Hbk2:=zb (Hbk.out.below hC);generalize v 0=y0,v 1=y1,v 2=y2,v 3=y3,v 4=y4,v 5=y5;clear e6 f6 hr hfr v HFt hC;by_cases hrz:r=0
    · subst hrz
      have HOk:=zb (Hr.out rfl);have HApp:=zb (fun Y (hY:Below w2.heap.size w2 Y)=>Vi _ _ _ X bk ev la Y (Hbk2.out.below hY) HOk.out HSmk.out Hsz.out.1 Hsz.out.2);go_upto_region 11 with(fail);obtain⟨wp,hwp⟩:∃wp,wp=w2:=⟨_,rfl⟩;rw[<-hwp]at Hb2 Hrow2 Hbk2 HApp⊢;clear hwp;refine yq (fun w'=>Below wp.heap.size wp w') (Ku a1 a2 a3 n1 n2 n3 c1 c2 c3 (some ⟨bb,o,none⟩) N cap2 k bb o ev bk) (by kernel_rfl) (by decide) (by kernel_rfl) (Below.refl _ _).drew ?_;generalize hfr:(fun v:Nat->Value=>_)=fr;simp only[List.map_cons,List.map_nil,zC,List.setIfInBounds_toArray,List.set_cons_succ,List.set_cons_zero,Nat.zero_add,Nat.reduceAdd]at hfr;simp only[yY];refine⟨?_,?_,?_,?_,?_,?_,?_⟩
      · intro v w2 hC hd K hK
        have p0:=cell_of_row w2 _ 0 _ _ _ ((hC.block _ (zu Hrow2.out)).trans Hrow2.out);have p1:=cell_of_row w2 _ 1 _ _ _ ((hC.block _ (zu Hrow2.out)).trans Hrow2.out);have p2:=cell_of_row w2 _ 2 _ _ _ ((hC.block _ (zu Hrow2.out)).trans Hrow2.out);rw[<-hfr]at hK⊢;go_simp;exact hK _ _ hC (j6 (Below.refl _ _)) rfl
      iterate 2
       · intro v w2 hC hd K hK
         rw[<-hfr]at hK⊢;go_simp;exact hK _ _ hC (j6 (Below.refl _ _)) rfl
      · intro v w2 hC hd K hK
        obtain⟨(e1:v 1=_),(e2:v 2=_),-⟩:=hd;rw[<-hfr]at hK⊢;simp only[e1,e2]at hK⊢;go_simp;exact hK _ _ hC (j6 (Below.refl _ _)) rfl
      · intro v w2 hC hd K hK
        obtain⟨(e3:v 3=_),-⟩:=hd;have x0:w2.cell? ⟨bb,o+k*7,none⟩=some (.int .i64 ev.tm):=HXc.out w2 (Hb2.out.trans (hC.mono Hb2.out.size)) 0 (by decide);have x1:w2.cell? ⟨bb,o+k*7+1,none⟩=some (.int .i64 ev.kd):=HXc.out w2 (Hb2.out.trans (hC.mono Hb2.out.size)) 1 (by decide);have x2:w2.cell? ⟨bb,o+k*7+2,none⟩=some (.int .i64 ev.ac):=HXc.out w2 (Hb2.out.trans (hC.mono Hb2.out.size)) 2 (by decide);have x3:w2.cell? ⟨bb,o+k*7+3,none⟩=some (.int .i64 ev.sb):=HXc.out w2 (Hb2.out.trans (hC.mono Hb2.out.size)) 3 (by decide);have x4:w2.cell? ⟨bb,o+k*7+4,none⟩=some (.string ev.nu):=HXc.out w2 (Hb2.out.trans (hC.mono Hb2.out.size)) 4 (by decide);have x5:w2.cell? ⟨bb,o+k*7+5,none⟩=some (.string ev.nm):=HXc.out w2 (Hb2.out.trans (hC.mono Hb2.out.size)) 5 (by decide);have x6:w2.cell? ⟨bb,o+k*7+6,none⟩=some (.int .i64 ev.vl):=HXc.out w2 (Hb2.out.trans (hC.mono Hb2.out.size)) 6 (by decide);rw[<-hfr]at hK⊢;simp only[e3]at hK⊢;go_simp;exact hK _ _ hC (j6 (Below.refl _ _)) rfl
      · intro v w2 hC hd K hK
        obtain⟨(e0:v 0=_),(e4:v 4=_),-⟩:=hd;have HF:=zb (HApp.out w2 hC);rw[<-hfr]at hK⊢;simp only[e0,e4]at hK⊢;go_simp;refine HF.out.mono ?_;rintro e w3 ⟨b1,b2,b3,m1,m2,m3,d1,d2,d3,X2,rfl,hbk3,hb3,-⟩;exact hK _ _ (hC.trans (hb3.mono hC.size)) (j6 hb3) ⟨b1,b2,b3,m1,m2,m3,d1,d2,d3,X2,rfl,hbk3⟩
      intro v w2 hC hall;obtain⟨-,b1,b2,b3,m1,m2,m3,d1,d2,d3,X2,f5,hbk3⟩:=hall;have e5:v 5=_:=f5;have hrow3:=(hC.block _ (zu Hrow2.out)).trans Hrow2.out;refine wp_store_row _ _ _ rfl w.heap.size #[.slice b1 m1 d1,.slice b2 m2 d2,.slice b3 m3 d3] (by rw[<-hfr];rfl) (by rw[<-hfr];exact e5) 142 _ hrow3 (by kernel_rfl) rfl (by simp[Value.oneCell']) ?_;have Hrow4:=zb (setRow_heap w2 w.heap.size _ #[.slice b1 m1 d1,.slice b2 m2 d2,.slice b3 m3 d3] _ _ hrow3);have Hbk4:=zb (hbk3.setRow hrow3 VJ #[.slice b1 m1 d1,.slice b2 m2 d2,.slice b3 m3 d3]);have Hb4:=zb (zj (Hb2.out.trans (hC.mono Hb2.out.size)) (Nat.le_refl _) #[.slice b1 m1 d1,.slice b2 m2 d2,.slice b3 m3 d3]);obtain⟨w6,hw6⟩:∃w6,w6=w2.setRow w.heap.size #[.slice b1 m1 d1,.slice b2 m2 d2,.slice b3 m3 d3]:=⟨_,rfl⟩;rw[<-hw6]at Hrow4 Hbk4 Hb4⊢;rw[<-hfr];simp only[e5];generalize v 0=z0,v 1=z1,v 2=z2,v 3=z3,v 4=z4;have x0:w6.cell? ⟨bb,o+k*7,none⟩=some (.int .i64 ev.tm):=HXc.out w6 Hb4.out 0 (by decide);clear hw6 hbk3 hrow3 e5 f5 hfr v hC HApp;go_wp2;go_roundg g0;case measure=>omega
      case rel=>exact⟨k+1,by have:=Hkg.out;omega,by go_num,by rw[HL1.out],HAk.out HOk.out,Hb4.out,b1,b2,b3,m1,m2,m3,d1,d2,d3,X2,Hrow4.out,by rw[HB1.out];exact Hbk4.out⟩
    have hrzb:(r != 0)=true:=bne_iff_ne.2 hrz;have Hrz:=zb hrz;clear hrz;go_wp2;go_ret2;exact⟨_,_,rfl,fun h=>absurd h Hrz.out,Hb2.out⟩
theorem uU {α:Type} {l:List α} {p:α->Bool} {k:Nat} (hk:k<l.length) (h:(l.take k).any p=false) (hp:p l[k]=true):l.find? p=some l[k]:=by
 have e:l=l.take k++(l[k]::l.drop (k+1)):=by rw[<-List.drop_eq_getElem_cons hk,List.take_append_drop]
 have h0:(l.take k).find? p=none:=List.find?_eq_none.2 (fun x hx=>by have:=List.any_eq_false.1 h x hx;simpa using this);have h2:l.find? p=(l.take k++(l[k]::l.drop (k+1))).find? p:=congrArg (List.find? p) e;rw[h2,List.find?_append,h0,Option.none_or,List.find?_cons_of_pos hp]
theorem Ya {α:Type} {l:List α} {p:α->Bool} {k:Nat} (hk:l.length<=k) (h:(l.take k).any p=false):l.find? p=none:=by rw[List.take_of_length_le hk]at h;exact List.find?_eq_none.2 (fun x hx=>by have:=List.any_eq_false.1 h x hx;simpa using this)
theorem Jg (t:Int) (w:World):Calls Tryz.prog 24 #[.int .i64 t] w fun e w'=>e=.returned (.bool (decide (0<=t)&&decide (t<12622780800)))/\w=w':=by
 by_cases h1:0<=t
 · have k1:decide (0<=t)=true:=decide_eq_true h1
   cases k2:decide (t<12622780800);all_goals
    rw[k1];go_enter Tryz.func24,Tryz.ntmps24;go_wp2;go_ret;exact⟨rfl,rfl⟩
 have k1:decide (0<=t)=false:=decide_eq_false h1;rw[k1,Bool.false_and];go_enter Tryz.func24,Tryz.ntmps24;go_wp2;go_ret;exact⟨rfl,rfl⟩
def OpTo (o:Option Ev) (w:World) (e:Ending) (w':World):Prop:=e=.returned (.tuple #[yU (o.getD default),.bool o.isSome])/\Below w.heap.size w w'
theorem J7 (v:Value) (l:List Ev) (n:Int) (w:World) (h:vE w v l):
 Calls Tryz.prog 25 #[v,.int .i64 n] w (OpTo (km l n) w):=by
 have HE:=zb h.1;obtain⟨av,cap,rfl,hlc,hcm⟩:=zq h.1;unfold maxLen at hcm;clear h;obtain⟨W,hW⟩:∃W,W=w.alloc (Obj.cells #[.int .i64 0,.int .i64 0,.int .i64 0,.int .i64 0,.string ⟨#[]⟩,.string ⟨#[]⟩,.int .i64 0] 55):=⟨_,rfl⟩;have hw0:Below w.heap.size w W:=by rw[hW];go_grown
 have HrW:=zb (show W.heap[w.heap.size]?=some (Obj.cells #[.int .i64 0,.int .i64 0,.int .i64 0,.int .i64 0,.string ⟨#[]⟩,.string ⟨#[]⟩,.int .i64 0] 55) by rw[hW];exact heap_alloc_new _ _);have HE:=zb (HE.out.below hw0);have HW:=zb hW;have Hw0:=zb hw0;clear hW hw0;go_enter Tryz.func25,Tryz.ntmps25;go_wp2_with fail;rw[<-HW.out];go_loop [6] (fun i=>∃k:Nat,k<=l.length/\i=.int .i64 k/\(l.take k).any (qA n)=false) (fun i=>l.length-(intOf i).toNat);case atStart=>exact⟨0,Nat.zero_le _,rfl,rfl⟩
 case round=>
  obtain⟨k,hk,rfl,hno⟩:=hrel;have Hno:=zb hno;clear hno;by_cases hlt:k<l.length
  · have hk1:(k:Int)<(l.length:Int):=by omega
    have hk0:(0:Int)<=(k:Int):=Int.natCast_nonneg _;obtain⟨a2,n2,e2,-,-,hx⟩:=HE.out;cases e2;obtain⟨bb,o,rfl,hB,hx⟩:=hx (by rintro rfl;cases hlt);have x0:W.cell? ⟨bb,o+k*7,none⟩=some (.int .i64 (l[k]).tm):=hx k hlt 0 (by decide);have x1:W.cell? ⟨bb,o+k*7+1,none⟩=some (.int .i64 (l[k]).kd):=hx k hlt 1 (by decide);have x2:W.cell? ⟨bb,o+k*7+2,none⟩=some (.int .i64 (l[k]).ac):=hx k hlt 2 (by decide);have x3:W.cell? ⟨bb,o+k*7+3,none⟩=some (.int .i64 (l[k]).sb):=hx k hlt 3 (by decide);have x4:W.cell? ⟨bb,o+k*7+4,none⟩=some (.string (l[k]).nu):=hx k hlt 4 (by decide);have x5:W.cell? ⟨bb,o+k*7+5,none⟩=some (.string (l[k]).nm):=hx k hlt 5 (by decide);have x6:W.cell? ⟨bb,o+k*7+6,none⟩=some (.int .i64 (l[k]).vl):=hx k hlt 6 (by decide);have HH:=zb (fun hp=>uU (p:=qA n) hlt Hno.out hp);have HT:=zb (fun hp=>qC (p:=qA n) hlt Hno.out hp);clear hx;generalize l[k]=ev at *;obtain⟨tm,kd,ac,sb,nu,nm,vl⟩:=ev;dsimp only at x0 x1 x2 x3 x4 x5 x6;cases hq1:(kd==1)with
    |false=>have HE2:=zb (HT.out (by unfold qA;rw[show decide (kd=1)=false from decide_eq_false (beq_eq_false_iff_ne.1 hq1)];rfl));clear HH HT;go_wp2;exact⟨⟨k+1,by omega,by go_num,HE2.out⟩,by simp[intOf];omega⟩
    |true=>
      cases hq2:(ac==n)with
      |false=>have HE2:=zb (HT.out (by unfold qA;rw[show decide (ac=n)=false from decide_eq_false (beq_eq_false_iff_ne.1 hq2),Bool.and_false]));clear HH HT;go_wp2;exact⟨⟨k+1,by omega,by go_num,HE2.out⟩,by simp[intOf];omega⟩
      |true=>
        have HE2:=zb (HH.out (by unfold qA;rw[show decide (kd=1)=true from decide_eq_true (beq_iff_eq.1 hq1),show decide (ac=n)=true from decide_eq_true (beq_iff_eq.1 hq2)];rfl));clear HH HT;go_upto_region 5 with(fail);have tQ:=fun j=>cell_setRow_same W w.heap.size j _ #[.int .i64 tm,.int .i64 kd,.int .i64 ac,.int .i64 sb,.string nu,.string nm,.int .i64 vl] _ _ HrW.out;have t0:=tQ 0;have t1:=tQ 1;have t2:=tQ 2;have t3:=tQ 3;have t4:=tQ 4;have t5:=tQ 5;have t6:=tQ 6;clear tQ;repeat (first|refine wpList_store_row rfl _ _ _ rfl w.heap.size #[.int .i64 tm,.int .i64 kd,.int .i64 ac,.int .i64 sb,.string nu,.string nm,.int .i64 vl] rfl rfl 55 _ HrW.out (by kernel_rfl) rfl (by simp[Value.oneCell']) ?_|go_step)
        refine bodyPost_ret (v:=.tuple #[.agg #[.int .i64 tm,.int .i64 kd,.int .i64 ac,.int .i64 sb,.string nu,.string nm,.int .i64 vl],.bool true]) (by simp[results,Tryz.results25,go_sem,t0,t1,t2,t3,t4,t5,t6]) rfl ?_;exact⟨by unfold km;rw[HE2.out];rfl,zj Hw0.out (Nat.le_refl _) _⟩
  have HE2:=zb (Ya (p:=qA n) (by omega) Hno.out);go_upto_region 6 with(fail);have tQ:=fun j=>cell_setRow_same W w.heap.size j _ #[.int .i64 0,.int .i64 0,.int .i64 0,.int .i64 0,.string ⟨#[]⟩,.string ⟨#[]⟩,.int .i64 0] _ _ HrW.out;have t0:=tQ 0;have t1:=tQ 1;have t2:=tQ 2;have t3:=tQ 3;have t4:=tQ 4;have t5:=tQ 5;have t6:=tQ 6;clear tQ;repeat (first|refine wpList_store_row rfl _ _ _ rfl w.heap.size #[.int .i64 0,.int .i64 0,.int .i64 0,.int .i64 0,.string ⟨#[]⟩,.string ⟨#[]⟩,.int .i64 0] rfl rfl 55 _ HrW.out (by kernel_rfl) rfl (by simp[Value.oneCell']) ?_|go_step)
  refine bodyPost_ret (v:=.tuple #[.agg #[.int .i64 0,.int .i64 0,.int .i64 0,.int .i64 0,.string ⟨#[]⟩,.string ⟨#[]⟩,.int .i64 0],.bool false]) (by simp[results,Tryz.results25,go_sem,t0,t1,t2,t3,t4,t5,t6]) rfl ?_;exact⟨by unfold km;rw[HE2.out];rfl,zj Hw0.out (Nat.le_refl _) _⟩
theorem UR {l:List Ev} (hr:yp l) (t:Int) (k:Nat) (h:k<l.length):(¬(l[k]).tm<=t->yG (l.take (k+1)) t=yG (l.take k) t)/\((l[k]).tm<=t->yG (l.take k) t=l.take k/\yG (l.take (k+1)) t=l.take (k+1)):=by
 constructor
 · intro hc
   unfold yG;rw[List.take_succ_eq_append_getElem h,List.filter_append];simp[hc]
 intro hc;have key:∀m,m<=k+1->yG (l.take m) t=l.take m:=fun m hm=>by
  unfold yG;rw[List.filter_eq_self];intro x hx;obtain⟨j,hj,rfl⟩:=List.mem_take_iff_getElem.1 hx;have:=qh hr j k (by omega) h (by omega)
  simp;omega
 exact⟨key k (by omega),key (k+1) (Nat.le_refl _)⟩
def gj (b:Bk) (w:World) (e:Ending) (w':World):Prop:=∃(a1 a2 a3:Option Addr) (n1 n2 n3 c1 c2 c3:Nat) (X:List SbX),e=.returned (.agg #[.slice a1 n1 c1,.slice a2 n2 c2,.slice a3 n3 c3])/\BkAt w' (.slice a1 n1 c1) (.slice a2 n2 c2) (.slice a3 n3 c3) X b/\(∀x∈X,jd w.heap.size x.pa)/\Below w.heap.size w w'
def GM (B:Nat) (a1 a2 a3:Option Addr) (n1 n2 n3 c1 c2 c3:Nat) (av:Option Addr) (n cap k:Nat) (bb o:Nat) (ev:Ev) (b:Bk):Nat->Value->World->Prop
 |0,v,_=>v=.agg #[.slice a1 n1 c1,.slice a2 n2 c2,.slice a3 n3 c3]
 |1,v,_=>v=.slice av n cap
 |2,v,_=>v=.int .i64 k
 |3,v,_=>v=.pointer (some ⟨bb,o+k*7,none⟩)
 |4,v,_=>v=yU ev
 |5,v,w'=>∃(a1 a2 a3:Option Addr) (n1 n2 n3 c1 c2 c3:Nat) (X:List SbX),v=.agg #[.slice a1 n1 c1,.slice a2 n2 c2,.slice a3 n3 c3]/\BkAt w' (.slice a1 n1 c1) (.slice a2 n2 c2) (.slice a3 n3 c3) X b/\∀x∈X,jd B x.pa
 |_,_,_=>True
theorem jw {B:Nat} {a1 a2 a3:Option Addr} {n1 n2 n3 c1 c2 c3:Nat} {av:Option Addr} {n cap k bb o:Nat} {ev:Ev} {b:Bk} {w1 w2:World} (hb:Below w1.heap.size w1 w2):∀j y,GM B a1 a2 a3 n1 n2 n3 c1 c2 c3 av n cap k bb o ev b j y w1->GM B a1 a2 a3 n1 n2 n3 c1 c2 c3 av n cap k bb o ev b j y w2
 |0,_,h=>h
 |1,_,h=>h
 |2,_,h=>h
 |3,_,h=>h
 |4,_,h=>h
 |5,_,⟨a1,a2,a3,n1,n2,n3,c1,c2,c3,X,h1,h2,h3⟩=>⟨a1,a2,a3,n1,n2,n3,c1,c2,c3,X,h1,h2.below hb,h3⟩
 |_+6,_,_=>trivial
structure UpR (w:World) (b:Bk) (a1 a2 a3:Option Addr) (n1 n2 n3 c1 c2 c3:Nat) (X:List SbX) (wx:World):Prop where
 r0:wx.heap[w.heap.size]?=some (Obj.cells #[.slice none 0 0,.slice none 0 0,.slice none 0 0] 142)
 row:wx.heap[w.heap.size+1]?=some (Obj.cells #[.slice a1 n1 c1,.slice a2 n2 c2,.slice a3 n3 c3] 142)
 bk:BkAt wx (.slice a1 n1 c1) (.slice a2 n2 c2) (.slice a3 n3 c3) X b
 fr:∀x∈X,jd w.heap.size x.pa
 b:Below w.heap.size w wx
theorem VI (v:Value) (l:List Ev) (t:Int) (w:World) (h:vE w v l) (hl:l.length<=1000) (hr:yp l):
 Calls Tryz.prog 183 #[v,.int .i64 t] w (gj (zQ (yG l t)) w):=by
 have HE:=zb h.1;have HSz:=zb h.2;have HSm:=zb (jS l);have Hr:=zb hr;obtain⟨av,cap,rfl,hlc,hcm⟩:=zq h.1;unfold maxLen at hcm;clear h hr;obtain⟨q0,q1,qb,qz⟩:=kw w (Obj.cells #[.slice none 0 0,.slice none 0 0,.slice none 0 0] 142) (Obj.cells #[.slice none 0 0,.slice none 0 0,.slice none 0 0] 142);have H0:=zb (show UpR w (zQ (yG (l.take 0) t)) none none none 0 0 0 0 0 0 [] _ from⟨q0,q1,⟨zz.nil _,zz.nil _,rfl,fun x hx=>(by cases hx),zz.nil _⟩,(fun x hx=>by cases hx),qb⟩);clear q0 q1 qb qz;go_enter Tryz.func183,Tryz.ntmps183;go_wp2_with fail;go_loopw [6] (fun i wx=>∃(k:Nat) (a1 a2 a3:Option Addr) (n1 n2 n3 c1 c2 c3:Nat) (X:List SbX),k<=l.length/\i=.int .i64 k/\UpR w (zQ (yG (l.take k) t)) a1 a2 a3 n1 n2 n3 c1 c2 c3 X wx) (fun i _=>l.length-(intOf i).toNat);case atStart=>exact⟨0,none,none,none,0,0,0,0,0,0,[],Nat.zero_le _,rfl,H0.out⟩
 case round=>
  obtain⟨wo,rfl⟩:∃wo:World,wo=wr:=⟨_,rfl⟩;obtain⟨k,a1,a2,a3,n1,n2,n3,c1,c2,c3,X,hk,rfl,hR⟩:=hrel;have HR:=zb hR;clear hR;by_cases hlt:k<l.length
  · have hk1:(k:Int)<(l.length:Int):=by omega
    have hk0:(0:Int)<=(k:Int):=Int.natCast_nonneg _;have HU:=zb (UR Hr.out t k hlt);have HSmk:=zb ((HSm.out k (by omega)).mono (show k<=1000 by omega));have HB1:=zb (vM l k hlt);have HOk:=zb (Hr.out k hlt);have Hsz:=zb (HSz.out l[k] (List.getElem_mem hlt));obtain⟨av2,cap2,e2,-,-,hx⟩:=HE.out;cases e2;obtain⟨bb,o,rfl,hB,hx⟩:=hx (by rintro rfl;cases hlt);have HXc:=zb (show ∀Y,Below w.heap.size w Y->∀j,j<7->Y.cell? ⟨bb,o+k*7+j,none⟩=(jt l[k])[j]? from fun Y hY j hj=>(hY.cell (p:=⟨bb,_,none⟩) hB).trans (hx k hlt j hj));clear hx hB;generalize l[k]=ev at *;have x0:wo.cell? ⟨bb,o+k*7,none⟩=some (.int .i64 ev.tm):=HXc.out wo HR.out.b 0 (by decide);by_cases htm:ev.tm<=t
    · obtain⟨hu1,hu2⟩:=HU.out.2 htm
      have HU1:=zb hu1;have HU2:=zb (show zQ (yG (l.take (k+1)) t)=zM (zQ (l.take k)) ev by rw[hu2,HB1.out]);have HR:=zb (show UpR w (zQ (l.take k)) a1 a2 a3 n1 n2 n3 c1 c2 c3 X wo by have h:=HR.out;rwa[hu1]at h);have HApp:=zb (fun Y (hY:Below wo.heap.size wo Y)=>Vi _ _ _ X (zQ (l.take k)) ev _ Y (HR.out.bk.below hY) HOk.out HSmk.out Hsz.out.1 Hsz.out.2);clear hu1 hu2;go_upto_region 6 with(fail);obtain⟨wp,hwp⟩:∃wp,wp=wo:=⟨_,rfl⟩;rw[<-hwp]at HR HApp⊢;clear hwp;refine yq (fun w'=>Below wp.heap.size wp w') (GM w.heap.size a1 a2 a3 n1 n2 n3 c1 c2 c3 (some ⟨bb,o,none⟩) l.length cap k bb o ev (zM (zQ (l.take k)) ev)) (by kernel_rfl) (by decide) (by kernel_rfl) (Below.refl _ _).drew ?_;generalize hfr:(fun v:Nat->Value=>_)=fr;simp only[List.map_cons,List.map_nil,zC,List.setIfInBounds_toArray,List.set_cons_succ,List.set_cons_zero,Nat.zero_add,Nat.reduceAdd]at hfr;simp only[yY];refine⟨?_,?_,?_,?_,?_,?_,?_⟩
      · intro v w2 hC hd K hK
        have hrow:=(hC.block _ (zu HR.out.row)).trans HR.out.row;have p0:=cell_of_row w2 _ 0 _ _ _ hrow;have p1:=cell_of_row w2 _ 1 _ _ _ hrow;have p2:=cell_of_row w2 _ 2 _ _ _ hrow;clear hrow;rw[<-hfr]at hK⊢;go_simp;exact hK _ _ hC (jw (Below.refl _ _)) rfl
      iterate 2
       · intro v w2 hC hd K hK
         rw[<-hfr]at hK⊢;go_simp;exact hK _ _ hC (jw (Below.refl _ _)) rfl
      · intro v w2 hC hd K hK
        obtain⟨(e1:v 1=_),(e2:v 2=_),-⟩:=hd;rw[<-hfr]at hK⊢;simp only[e1,e2]at hK⊢;go_simp;exact hK _ _ hC (jw (Below.refl _ _)) rfl
      · intro v w2 hC hd K hK
        obtain⟨(e3:v 3=_),-⟩:=hd;have x0:w2.cell? ⟨bb,o+k*7,none⟩=some (.int .i64 ev.tm):=HXc.out w2 (HR.out.b.trans (hC.mono HR.out.b.size)) 0 (by decide);have x1:w2.cell? ⟨bb,o+k*7+1,none⟩=some (.int .i64 ev.kd):=HXc.out w2 (HR.out.b.trans (hC.mono HR.out.b.size)) 1 (by decide);have x2:w2.cell? ⟨bb,o+k*7+2,none⟩=some (.int .i64 ev.ac):=HXc.out w2 (HR.out.b.trans (hC.mono HR.out.b.size)) 2 (by decide);have x3:w2.cell? ⟨bb,o+k*7+3,none⟩=some (.int .i64 ev.sb):=HXc.out w2 (HR.out.b.trans (hC.mono HR.out.b.size)) 3 (by decide);have x4:w2.cell? ⟨bb,o+k*7+4,none⟩=some (.string ev.nu):=HXc.out w2 (HR.out.b.trans (hC.mono HR.out.b.size)) 4 (by decide);have x5:w2.cell? ⟨bb,o+k*7+5,none⟩=some (.string ev.nm):=HXc.out w2 (HR.out.b.trans (hC.mono HR.out.b.size)) 5 (by decide);have x6:w2.cell? ⟨bb,o+k*7+6,none⟩=some (.int .i64 ev.vl):=HXc.out w2 (HR.out.b.trans (hC.mono HR.out.b.size)) 6 (by decide);rw[<-hfr]at hK⊢;simp only[e3]at hK⊢;go_simp;exact hK _ _ hC (jw (Below.refl _ _)) rfl
      · intro v w2 hC hd K hK
        obtain⟨(e0:v 0=_),(e4:v 4=_),-⟩:=hd;have HF:=zb (HApp.out w2 hC);rw[<-hfr]at hK⊢;simp only[e0,e4]at hK⊢;go_simp;refine HF.out.mono ?_;rintro e w3 ⟨b1,b2,b3,m1,m2,m3,d1,d2,d3,X2,rfl,hbk3,hb3,hf3⟩;refine hK _ _ (hC.trans (hb3.mono hC.size)) (jw hb3) ⟨b1,b2,b3,m1,m2,m3,d1,d2,d3,X2,rfl,hbk3,fun x hx=>?_⟩;rcases hf3 x hx with⟨y,hy,e⟩|h;· rw[e];exact HR.out.fr y hy
        exact h.mono (Nat.le_trans HR.out.b.size hC.size)
      intro v w2 hC hall;obtain⟨-,b1,b2,b3,m1,m2,m3,d1,d2,d3,X2,f5,hbk3,hf3⟩:=hall;have e5:v 5=_:=f5;have hrow3:=(hC.block _ (zu HR.out.row)).trans HR.out.row;refine wp_store_row _ _ _ rfl (w.heap.size+1) #[.slice b1 m1 d1,.slice b2 m2 d2,.slice b3 m3 d3] (by rw[<-hfr];rfl) (by rw[<-hfr];exact e5) 142 _ hrow3 (by kernel_rfl) rfl (by simp[Value.oneCell']) ?_;have HRn:=zb (show UpR w (zQ (yG (l.take (k+1)) t)) b1 b2 b3 m1 m2 m3 d1 d2 d3 X2 (w2.setRow (w.heap.size+1) #[.slice b1 m1 d1,.slice b2 m2 d2,.slice b3 m3 d3])from⟨(setRow_other _ _ _ _ (by omega)).trans ((hC.block _ (zu HR.out.r0)).trans HR.out.r0),setRow_heap w2 _ _ #[.slice b1 m1 d1,.slice b2 m2 d2,.slice b3 m3 d3] _ _ hrow3,by rw[HU2.out];exact hbk3.setRow hrow3 VJ _,hf3,zj (HR.out.b.trans (hC.mono HR.out.b.size)) (by omega) _⟩);obtain⟨w6,hw6⟩:∃w6,w6=w2.setRow (w.heap.size+1) #[.slice b1 m1 d1,.slice b2 m2 d2,.slice b3 m3 d3]:=⟨_,rfl⟩;rw[<-hw6]at HRn⊢;rw[<-hfr];simp only[e5];generalize v 0=z0,v 1=z1,v 2=z2,v 3=z3,v 4=z4;clear hw6 hbk3 hrow3 e5 f5 hf3 hfr v hC HApp;go_wp2;exact⟨⟨k+1,b1,b2,b3,m1,m2,m3,d1,d2,d3,X2,by omega,by go_num,HRn.out⟩,by simp[intOf];omega⟩
    have HU1:=zb (HU.out.1 htm);go_wp2;exact⟨⟨k+1,a1,a2,a3,n1,n2,n3,c1,c2,c3,X,by omega,by go_num,by rw[HU1.out];exact HR.out⟩,by simp[intOf];omega⟩
  have HF:=zb (show l.take k=l from List.take_of_length_le (by omega));have p0:=cell_of_row wo _ 0 _ _ _ HR.out.row;have p1:=cell_of_row wo _ 1 _ _ _ HR.out.row;have p2:=cell_of_row wo _ 2 _ _ _ HR.out.row;have HbF:=zb (zj HR.out.b (Nat.le_refl _) #[.slice a1 n1 c1,.slice a2 n2 c2,.slice a3 n3 c3]);have HbkF:=zb (HR.out.bk.setRow HR.out.r0 VJ #[.slice a1 n1 c1,.slice a2 n2 c2,.slice a3 n3 c3]);have tQ:=fun j=>cell_setRow_same wo w.heap.size j _ #[.slice a1 n1 c1,.slice a2 n2 c2,.slice a3 n3 c3] _ _ HR.out.r0;have t0:=tQ 0;have t1:=tQ 1;have t2:=tQ 2;clear tQ;go_upto_region 7 with(fail);repeat (first|refine wpList_store_row rfl _ _ _ rfl w.heap.size #[.slice a1 n1 c1,.slice a2 n2 c2,.slice a3 n3 c3] rfl rfl 142 _ HR.out.r0 (by kernel_rfl) rfl (by simp[Value.oneCell']) ?_|go_step)
  refine bodyPost_ret (v:=.agg #[.slice a1 n1 c1,.slice a2 n2 c2,.slice a3 n3 c3]) (by simp[results,Tryz.results183,go_sem,t0,t1,t2]) rfl ?_;exact⟨a1,a2,a3,n1,n2,n3,c1,c2,c3,X,rfl,by have h:=HbkF.out;rwa[HF.out]at h,HR.out.fr,HbF.out⟩
theorem WT (v:Value) (l:List Ev) (n t:Int) (w:World) (h:vE w v l) (hl:l.length<=1000) (hr:yp l) (href:refS (zQ (yG l t)) n=none):
 Calls Tryz.prog 148 #[v,.int .i64 n,.int .i64 t] w (fun e w'=>e=.returned (.tuple #[.agg #[.int .i64 0,.int .i64 0,.int .i64 0,.string ⟨#[]⟩,.slice none 0 0,.slice none 0 0,.bool false,.bool false],.bool false])/\Below w.heap.size w w'):=by
 obtain⟨W,hW⟩:∃W,W=w.alloc (Obj.cells #[.int .i64 0,.int .i64 0,.int .i64 0,.string ⟨#[]⟩,.slice none 0 0,.slice none 0 0,.bool false,.bool false] 181):=⟨_,rfl⟩;have hw0:Below w.heap.size w W:=by rw[hW];go_grown
 have hz:W.heap.size=w.heap.size+1:=by rw[hW];simp
 have R0:=zb (show W.heap[w.heap.size]?=some (Obj.cells #[.int .i64 0,.int .i64 0,.int .i64 0,.string ⟨#[]⟩,.slice none 0 0,.slice none 0 0,.bool false,.bool false] 181) by rw[hW];exact heap_alloc_new _ _);have HU:=zb (VI v l t W (h.below hw0) hl hr);have HL:=zb (show(zQ (yG l t)).subs.length<=1000 by
  obtain⟨g1,g2⟩:=uM hr t;rw[g1];exact Nat.le_trans (jS l _ g2).s (by omega));have HW:=zb hW;have Hw0:=zb hw0;obtain⟨av,cap,rfl,hlc,hcm⟩:=zq h.1;have Hz:=zb hz;have Href:=zb href;clear h hW hw0 hlc hcm hr hl hz href;generalize hbk:zQ (yG l t)=b at *;clear hbk;go_enter Tryz.func148,Tryz.ntmps148;go_upto_region 1 with(fail);rw[<-HW.out];go_wp2_with fail;refine HU.out.mono ?_;rintro e w2 ⟨a1,a2,a3,n1,n2,n3,c1,c2,c3,X,rfl,hbk2,hf2,hb2⟩;have Hf2:=zb hf2;obtain⟨w3,hw3⟩:∃w3,w3=w2.alloc (Obj.cells #[.slice a1 n1 c1,.slice a2 n2 c2,.slice a3 n3 c3] 142):=⟨_,rfl⟩;have hb3:Below w2.heap.size w2 w3:=by rw[hw3];go_grown
 have R3:=zb (show w3.heap[w2.heap.size]?=some (Obj.cells #[.slice a1 n1 c1,.slice a2 n2 c2,.slice a3 n3 c3] 142) by rw[hw3];exact heap_alloc_new _ _);have Hbk3:=zb (hbk2.below hb3);have Hb3:=zb (hb2.trans (hb3.mono hb2.size));have Hw3:=zb hw3;clear hbk2 hf2 hb2 hw3 hb3;have p0:=cell_of_row w3 _ 0 _ _ _ R3.out;have p1:=cell_of_row w3 _ 1 _ _ _ R3.out;have p2:=cell_of_row w3 _ 2 _ _ _ R3.out;have HS:=zb (kx _ _ _ X b n w3 Hbk3.out);go_upto_region 2 with(fail);rw[<-Hw3.out];go_wp2_with fail;refine HS.out.mono ?_;rintro e w4 ⟨rfl,hb4⟩;have Hb4:=zb (Hb3.out.trans (hb4.mono Hb3.out.size));have R4:=zb ((hb4.block _ (zu R3.out)).trans R3.out);have Hbk4:=zb (Hbk3.out.below hb4);have Q4:=zb ((Hb4.out.block w.heap.size (by rw[Hz.out];omega)).trans R0.out);clear hb4 p0 p1 p2;by_cases hneg:zT b n<0
 · have Hneg:=zb hneg
   have HbF:=zb (zj (Hw0.out.trans (Hb4.out.mono Hw0.out.size)) (Nat.le_refl w.heap.size) #[.int .i64 0,.int .i64 0,.int .i64 0,.string ⟨#[]⟩,.slice none 0 0,.slice none 0 0,.bool false,.bool false]);have tQ:=fun j=>cell_setRow_same w4 w.heap.size j _ #[.int .i64 0,.int .i64 0,.int .i64 0,.string ⟨#[]⟩,.slice none 0 0,.slice none 0 0,.bool false,.bool false] _ _ Q4.out;have t0:=tQ 0;have t1:=tQ 1;have t2:=tQ 2;have t3:=tQ 3;have t4:=tQ 4;have t5:=tQ 5;have t6:=tQ 6;have t7:=tQ 7;clear tQ;go_upto_region 4 with(fail);repeat (first|refine wpList_store_row rfl _ _ _ rfl w.heap.size #[.int .i64 0,.int .i64 0,.int .i64 0,.string ⟨#[]⟩,.slice none 0 0,.slice none 0 0,.bool false,.bool false] rfl rfl 181 _ Q4.out (by kernel_rfl) rfl (by simp[Value.oneCell']) ?_|go_step)
   exact bodyPost_ret (v:=.tuple #[.agg #[.int .i64 0,.int .i64 0,.int .i64 0,.string ⟨#[]⟩,.slice none 0 0,.slice none 0 0,.bool false,.bool false],.bool false]) (by simp[results,Tryz.results148,go_sem,t0,t1,t2,t3,t4,t5,t6,t7]) rfl ⟨rfl,HbF.out⟩
 have hend:vk b n=true:=by
  have h:=Href.out;unfold refS at h;cases he:vk b n with
  |true=>rfl
  |false=>rw[if_neg (by rw[he];simp;omega)]at h;have:=uR (p:=fun s:Sb=>decide (s.id=n)) (l:=b.subs) (by unfold zT at hneg;omega);have h2:(zT b n).toNat<b.subs.length:=this.1;rw[List.getElem?_eq_getElem h2]at h;cases h
 have HEn:=zb (kp _ _ _ X b n w4 Hbk4.out);rw[hend]at HEn;have p0:=cell_of_row w4 _ 0 _ _ _ R4.out;have p1:=cell_of_row w4 _ 1 _ _ _ R4.out;have p2:=cell_of_row w4 _ 2 _ _ _ R4.out;clear hend;go_wp2_with fail;refine HEn.out.mono ?_;rintro e w5 ⟨rfl,hb5⟩;have Hb5:=zb (Hb4.out.trans (hb5.mono Hb4.out.size));have Q5:=zb ((hb5.block _ (zu Q4.out)).trans Q4.out);clear hb5 p0 p1 p2;have HbF:=zb (zj (Hw0.out.trans (Hb5.out.mono Hw0.out.size)) (Nat.le_refl w.heap.size) #[.int .i64 0,.int .i64 0,.int .i64 0,.string ⟨#[]⟩,.slice none 0 0,.slice none 0 0,.bool false,.bool false]);have tQ:=fun j=>cell_setRow_same w5 w.heap.size j _ #[.int .i64 0,.int .i64 0,.int .i64 0,.string ⟨#[]⟩,.slice none 0 0,.slice none 0 0,.bool false,.bool false] _ _ Q5.out;have t0:=tQ 0;have t1:=tQ 1;have t2:=tQ 2;have t3:=tQ 3;have t4:=tQ 4;have t5:=tQ 5;have t6:=tQ 6;have t7:=tQ 7;clear tQ;go_upto_region 4 with(fail);repeat (first|refine wpList_store_row rfl _ _ _ rfl w.heap.size #[.int .i64 0,.int .i64 0,.int .i64 0,.string ⟨#[]⟩,.slice none 0 0,.slice none 0 0,.bool false,.bool false] rfl rfl 181 _ Q5.out (by kernel_rfl) rfl (by simp[Value.oneCell']) ?_|go_step)
 exact bodyPost_ret (v:=.tuple #[.agg #[.int .i64 0,.int .i64 0,.int .i64 0,.string ⟨#[]⟩,.slice none 0 0,.slice none 0 0,.bool false,.bool false],.bool false]) (by simp[results,Tryz.results148,go_sem,t0,t1,t2,t3,t4,t5,t6,t7]) rfl ⟨rfl,HbF.out⟩
def xd (q:Sb) (w:World) (e:Ending) (w':World):Prop:=∃x:SbX,x.s=q/\e=.returned (.tuple #[jb x,.bool true])/\zR w' (.slice x.pa x.pn x.pc) x.s.prs/\x.s.plan.size<=maxLen/\jd w.heap.size x.pa/\Below w.heap.size w w'
theorem WS (v:Value) (l:List Ev) (n t:Int) (w:World) (h:vE w v l) (hl:l.length<=1000) (hr:yp l) (q:Sb) (href:refS (zQ (yG l t)) n=some q):
 Calls Tryz.prog 148 #[v,.int .i64 n,.int .i64 t] w (xd q w):=by
 obtain⟨W,hW⟩:∃W,W=w.alloc (Obj.cells #[.int .i64 0,.int .i64 0,.int .i64 0,.string ⟨#[]⟩,.slice none 0 0,.slice none 0 0,.bool false,.bool false] 181):=⟨_,rfl⟩;have hw0:Below w.heap.size w W:=by rw[hW];go_grown
 have hz:W.heap.size=w.heap.size+1:=by rw[hW];simp
 have R0:=zb (show W.heap[w.heap.size]?=some (Obj.cells #[.int .i64 0,.int .i64 0,.int .i64 0,.string ⟨#[]⟩,.slice none 0 0,.slice none 0 0,.bool false,.bool false] 181) by rw[hW];exact heap_alloc_new _ _);have HU:=zb (VI v l t W (h.below hw0) hl hr);have HL:=zb (show(zQ (yG l t)).subs.length<=1000 by
  obtain⟨g1,g2⟩:=uM hr t;rw[g1];exact Nat.le_trans (jS l _ g2).s (by omega));have HW:=zb hW;have Hw0:=zb hw0;obtain⟨av,cap,rfl,hlc,hcm⟩:=zq h.1;have Hz:=zb hz;have Href:=zb href;clear h hW hw0 hlc hcm hr hl hz href;generalize hbk:zQ (yG l t)=b at *;clear hbk;go_enter Tryz.func148,Tryz.ntmps148;go_upto_region 1 with(fail);rw[<-HW.out];go_wp2_with fail;refine HU.out.mono ?_;rintro e w2 ⟨a1,a2,a3,n1,n2,n3,c1,c2,c3,X,rfl,hbk2,hf2,hb2⟩;have Hf2:=zb hf2;obtain⟨w3,hw3⟩:∃w3,w3=w2.alloc (Obj.cells #[.slice a1 n1 c1,.slice a2 n2 c2,.slice a3 n3 c3] 142):=⟨_,rfl⟩;have hb3:Below w2.heap.size w2 w3:=by rw[hw3];go_grown
 have R3:=zb (show w3.heap[w2.heap.size]?=some (Obj.cells #[.slice a1 n1 c1,.slice a2 n2 c2,.slice a3 n3 c3] 142) by rw[hw3];exact heap_alloc_new _ _);have Hbk3:=zb (hbk2.below hb3);have Hb3:=zb (hb2.trans (hb3.mono hb2.size));have Hw3:=zb hw3;clear hbk2 hf2 hb2 hw3 hb3;have p0:=cell_of_row w3 _ 0 _ _ _ R3.out;have p1:=cell_of_row w3 _ 1 _ _ _ R3.out;have p2:=cell_of_row w3 _ 2 _ _ _ R3.out;have HS:=zb (kx _ _ _ X b n w3 Hbk3.out);go_upto_region 2 with(fail);rw[<-Hw3.out];go_wp2_with fail;refine HS.out.mono ?_;rintro e w4 ⟨rfl,hb4⟩;have Hb4:=zb (Hb3.out.trans (hb4.mono Hb3.out.size));have R4:=zb ((hb4.block _ (zu R3.out)).trans R3.out);have Hbk4:=zb (Hbk3.out.below hb4);have Q4:=zb ((Hb4.out.block w.heap.size (by rw[Hz.out];omega)).trans R0.out);clear hb4 p0 p1 p2;have hneg:¬zT b n<0:=fun hc=>by
  have h:=Href.out;unfold refS at h;rw[if_pos (Or.inl hc)]at h;cases h
 have hend:vk b n=false:=by
  have h:=Href.out;unfold refS at h;cases he:vk b n with
  |false=>rfl
  |true=>rw[if_pos (Or.inr he)]at h;cases h
 obtain⟨k,hkb,hix,-⟩:=ZZ (p:=fun s:Sb=>decide (s.id=n)) (l:=b.subs) (by unfold zT at hneg;omega);have hix:zT b n=k:=hix;have hkX:k<X.length:=by rw[Hbk4.out.len];exact hkb
 have HXq:=zb (show(X[k]).s=q by
  have h:=Href.out;unfold refS at h;rw[if_neg (by rw[hend];simp;omega),hix,Int.toNat_natCast]at h;have h1:(X.map (·.s))[k]?=b.subs[k]?:=by rw[Hbk4.out.x]
  rw[List.getElem?_map,List.getElem?_eq_getElem hkX,h]at h1;simpa using h1);have HEn:=zb (kp _ _ _ X b n w4 Hbk4.out);rw[hend]at HEn;have p0:=cell_of_row w4 _ 0 _ _ _ R4.out;have p1:=cell_of_row w4 _ 1 _ _ _ R4.out;have p2:=cell_of_row w4 _ 2 _ _ _ R4.out;rw[hix];have hk0:(0:Int)<=(k:Int):=Int.natCast_nonneg _;have hXl:X.length<=1000:=by rw[Hbk4.out.len];exact HL.out
 clear hend hneg hix;go_wp2_with fail;refine HEn.out.mono ?_;rintro e w5 ⟨rfl,hb5⟩;have Hb5:=zb (Hb4.out.trans (hb5.mono Hb4.out.size));have Q5:=zb ((hb5.block _ (zu Q4.out)).trans Q4.out);have R5:=zb ((hb5.block _ (zu R4.out)).trans R4.out);have Hbk5:=zb (Hbk4.out.below hb5);have HRd:=zb (Hbk5.out.r X[k] (List.getElem_mem hkX));have HFr:=zb (Hf2.out X[k] (List.getElem_mem hkX));clear hb5 p0 p1 p2;have p1:=cell_of_row w5 _ 1 _ _ _ R5.out;have hkl:(k:Int)<(X.length:Int):=by omega
 obtain⟨ay,cy,ey,-,-,hx⟩:=Hbk5.out.s;cases ey;obtain⟨bb,o,rfl,hB,hx⟩:=hx (by rintro rfl;cases hkX);have hx:=hx k hkX;have x0:w5.cell? ⟨bb,o+k*8,none⟩=some (.int .i64 (X[k]).s.id):=hx 0 (by decide);have x1:w5.cell? ⟨bb,o+k*8+1,none⟩=some (.int .i64 (X[k]).s.ac):=hx 1 (by decide);have x2:w5.cell? ⟨bb,o+k*8+2,none⟩=some (.int .i64 (X[k]).s.si):=hx 2 (by decide);have x3:w5.cell? ⟨bb,o+k*8+3,none⟩=some (.string (X[k]).s.plan):=hx 3 (by decide);have x4:w5.cell? ⟨bb,o+k*8+4,none⟩=some (.slice (X[k]).na (X[k]).nn (X[k]).nc):=hx 4 (by decide);have x5:w5.cell? ⟨bb,o+k*8+5,none⟩=some (.slice (X[k]).pa (X[k]).pn (X[k]).pc):=hx 5 (by decide);have x6:w5.cell? ⟨bb,o+k*8+6,none⟩=some (.bool (X[k]).s.su):=hx 6 (by decide);have x7:w5.cell? ⟨bb,o+k*8+7,none⟩=some (.bool (X[k]).s.fa):=hx 7 (by decide);clear hx hB;generalize X[k]=x at *;have HbF:=zb (zj (Hw0.out.trans (Hb5.out.mono Hw0.out.size)) (Nat.le_refl w.heap.size) #[.int .i64 x.s.id,.int .i64 x.s.ac,.int .i64 x.s.si,.string x.s.plan,.slice x.na x.nn x.nc,.slice x.pa x.pn x.pc,.bool x.s.su,.bool x.s.fa]);have HSt:=zb (show zR (w5.setRow w.heap.size #[.int .i64 x.s.id,.int .i64 x.s.ac,.int .i64 x.s.si,.string x.s.plan,.slice x.na x.nn x.nc,.slice x.pa x.pn x.pc,.bool x.s.su,.bool x.s.fa]) (.slice x.pa x.pn x.pc) x.s.prs from vW HRd.out.2.1 HFr.out (fun g hg _=>setRow_other _ _ _ _ (by have:=Hz.out;omega)) (by rw[setRow_size];exact Nat.le_refl _));have tQ:=fun j=>cell_setRow_same w5 w.heap.size j _ #[.int .i64 x.s.id,.int .i64 x.s.ac,.int .i64 x.s.si,.string x.s.plan,.slice x.na x.nn x.nc,.slice x.pa x.pn x.pc,.bool x.s.su,.bool x.s.fa] _ _ Q5.out;have t0:=tQ 0;have t1:=tQ 1;have t2:=tQ 2;have t3:=tQ 3;have t4:=tQ 4;have t5:=tQ 5;have t6:=tQ 6;have t7:=tQ 7;clear tQ;go_upto_region 5 with(fail);repeat (first|refine wpList_store_row rfl _ _ _ rfl w.heap.size #[.int .i64 x.s.id,.int .i64 x.s.ac,.int .i64 x.s.si,.string x.s.plan,.slice x.na x.nn x.nc,.slice x.pa x.pn x.pc,.bool x.s.su,.bool x.s.fa] rfl rfl 181 _ Q5.out (by kernel_rfl) rfl (by simp[Value.oneCell']) ?_|go_step)
 exact bodyPost_ret (v:=.tuple #[.agg #[.int .i64 x.s.id,.int .i64 x.s.ac,.int .i64 x.s.si,.string x.s.plan,.slice x.na x.nn x.nc,.slice x.pa x.pn x.pc,.bool x.s.su,.bool x.s.fa],.bool true]) (by simp[results,Tryz.results148,go_sem,t0,t1,t2,t3,t4,t5,t6,t7]) rfl ⟨x,HXq.out,rfl,HSt.out,HRd.out.2.2.1,HFr.out.mono (by rw[Hz.out];omega),HbF.out⟩
def KG (N:List ByteArray) (w:World) (e:Ending) (w':World):Prop:=∃(a:Option Addr) (n c:Nat),e=.returned (.slice a n c)/\w'.ownsRow w.heap.size 9 1 (.slice a n c) N.length (N.flatMap zm)/\Below w.heap.size w w'
theorem uN {N R:List ByteArray} {w w':World} {a:Option Addr} {c:Nat} (h:w'.ownsRow w.heap.size 9 1 (.slice a R.length c) R.length (R.flatMap zm)) (hR:R=N) (hb:Below w.heap.size w w'):KG N w (.returned (.slice a R.length c)) w':=by subst hR;exact⟨a,_,c,rfl,h,hb⟩
theorem KP (v:Value) (L:List ByteArray) (s:ByteArray) (w:World) (h:zR w v L) (hp:∀a n c,v=.slice a n c->qF a) (hl:L.length<=10000):
 Calls Tryz.prog 203 #[v,.string s] w (KG (vq L s) w):=by
 have HA:=zb h;have HR:=zb (qw h);obtain⟨aa,an,rfl,hla,hma,hxx⟩:=h;have hma1:=hma.1;unfold maxLen at hma1;cases aa with
 |none=>
   obtain rfl:=hma.2 rfl;obtain rfl:L=[]:=List.length_eq_zero_iff.1 (by omega);have HK:=zb (show kW [] s=0 from rfl);have hk:0<=([]:List ByteArray).length:=Nat.le_refl _;obtain⟨L,hL⟩:∃L:List ByteArray,L=[]:=⟨_,rfl⟩;have HL:=zb hL;clear hma hxx hp;go_enter Tryz.func203,Tryz.ntmps203;go_wp2_with fail;go_loop [5] (fun i=>i=.int .i64 0) (fun _=>0);case atStart=>exact rfl
   case round=>
    obtain rfl:=hrel;go_upto_region 4 with(fail);have hbY:Below w.heap.size w w:=Below.refl _ _;have hown0:w.ownsRow w.heap.size 9 1 (.slice none 0 0) 0 []:=World.ownsRow_nil _ _ _ _;have Hown0:=zb hown0;have HbY:=zb hbY;have hbs:=hbY.size;have HT:=zb (zi.below (yD HR.out 0 hk:zi zm 1 w _ _) hbY);have HD:=zb (yE HR.out 0 hk:zi zm 1 w _ _);have HWt:=zb (show([]:List ByteArray).take 0++[s]++([]:List ByteArray).drop 0=vq [] s by unfold vq;rw[HK.out]);obtain⟨T,hT⟩:∃T,T=([]:List ByteArray).take 0:=⟨_,rfl⟩;obtain⟨D,hD⟩:∃D,D=([]:List ByteArray).drop 0:=⟨_,rfl⟩;have hTb:T.length<=10000:=by rw[hT,List.length_take];omega
    have hDb:D.length<=10000:=by rw[hD,List.length_drop];omega
    rw[<-hT]at HT HWt;rw[<-hD]at HD HWt;clear hT hD hbY hown0;go_wp2_with (at_builtin;refine zS rfl _ _ rfl w.heap.size hbs _ _ [] T rfl rfl Hown0.out ?hX1 ?hl1 ?_);case hX1=>exact HT.out
    case hl1=>first|omega|(simp;omega)
    intro P5 hP5 v5 w5 own5 hb5;obtain rfl:T=P5:=hP5.out.symm;clear hP5;have Hb5:=zb (HbY.out.trans hb5);have Own5:=zb own5;have hbs5:=Hb5.out.size;obtain⟨a5,c5,rfl,-,-⟩:=zf own5;clear own5 hb5;have HX2:=zb (zi.one (c:=zm) (sz:=1) w5 s 9 #[.string s] rfl);go_wp2_with (at_builtin;refine zS rfl _ _ rfl w.heap.size ?hs2 _ _ T [s] rfl rfl (Own5.out.alloc _) HX2.out ?hl2 ?_);case hs2=>simp;omega
    case hl2=>simp;omega
    intro R6 hR6 v6 w6 own6 hb6;have Hb6:=zb ((Hb5.out.alloc hbs5 (Obj.cells #[.string s] 9)).trans hb6);have HR6:=zb hR6.out;have hR6l:R6.length<=10001:=by rw[hR6.out,List.length_append,List.length_singleton];omega
    have hbs6:=Hb6.out.size;obtain⟨a6,c6,rfl,-,-⟩:=zf own6;have Own6:=zb own6;clear own6 hb6 hR6;have HD:=zb (zi.below HD.out Hb6.out);have HF:=zb (fun(R:List ByteArray) (h:R=R6++D)=>(h.trans (by rw[HR6.out,HWt.out]):R=vq [] s));go_wp2_with (at_builtin;refine zS rfl _ _ rfl w.heap.size ?hs3 _ _ R6 D rfl rfl Own6.out ?hX3 ?hl3 ?_);case hs3=>exact hbs6
    case hX3=>exact HD.out
    case hl3=>omega
    intro R hR v7 w7 own7 hb7;have Hb7:=zb (Hb6.out.trans hb7);have HRe:=zb (HF.out R hR.out);obtain⟨a7,c7,rfl,-,-⟩:=zf own7;have Own7:=zb own7;clear own7 hb7 hR;go_wp2;go_ret;exact uN Own7.out HRe.out Hb7.out
 |some ad=>
   obtain⟨ab,ao,asp⟩:=ad;obtain rfl:asp=none:=hp _ _ _ rfl _ rfl;clear hma hxx hp;go_enter Tryz.func203,Tryz.ntmps203;go_wp2_with fail;go_loop [5] (fun i=>∃k:Nat,k<=L.length/\i=.int .i64 k/\∀j (hj:j<L.length),j<k->Op.bytesLess L[j].toList s.toList=true) (fun i=>L.length-(intOf i).toNat);case atStart=>exact⟨0,Nat.zero_le _,rfl,fun j _ h=>by omega⟩
   case round=>
    obtain⟨k,hk,rfl,hno⟩:=hrel;have Hno:=zb hno;clear hno;have hk0:(0:Int)<=(k:Int):=Int.natCast_nonneg _;by_cases hlt:k<L.length
    · have hk1:(k:Int)<(L.length:Int):=by omega
      obtain⟨a2,n2,e2,-,-,hx⟩:=HA.out;cases e2;obtain⟨bb,o,e3,hB,hx⟩:=hx (by rintro rfl;cases hlt);cases e3;obtain⟨x0,-⟩:=hx k hlt;rw[Nat.mul_one]at x0;clear hx;cases hb:Op.bytesLess L[k].toList s.toList with
      |true=>
        have HNx:=zb (show ∀j (hj:j<L.length),j<k+1->Op.bytesLess L[j].toList s.toList=true from fun j hj hjk=>by
         by_cases h:j=k;· subst h;exact hb
         exact Hno.out j hj (by omega));generalize L[k]=a at *;go_wp2;exact⟨⟨k+1,by omega,by go_num,HNx.out⟩,by simp[intOf];omega⟩
      |false=>
        have HK:=zb (xm hlt (fun j hj=>Hno.out j (by omega) hj) hb);have Hlt:=zb hlt;generalize L[k]=a at *;go_upto_region 4 with(fail);have hbY:Below w.heap.size w w:=Below.refl _ _;have hown0:w.ownsRow w.heap.size 9 1 (.slice none 0 0) 0 []:=World.ownsRow_nil _ _ _ _;have Hown0:=zb hown0;have HbY:=zb hbY;have hbs:=hbY.size;have HT:=zb (zi.below (yD HR.out k hk:zi zm 1 w _ _) hbY);have HD:=zb (yE HR.out k hk:zi zm 1 w _ _);have HWt:=zb (show L.take k++[s]++L.drop k=vq L s by unfold vq;rw[HK.out]);obtain⟨T,hT⟩:∃T,T=L.take k:=⟨_,rfl⟩;obtain⟨D,hD⟩:∃D,D=L.drop k:=⟨_,rfl⟩;have hTb:T.length<=10000:=by rw[hT,List.length_take];omega
        have hDb:D.length<=10000:=by rw[hD,List.length_drop];omega
        rw[<-hT]at HT HWt;rw[<-hD]at HD HWt;clear hT hD hbY hown0;go_wp2_with (at_builtin;refine zS rfl _ _ rfl w.heap.size hbs _ _ [] T rfl rfl Hown0.out ?hX1 ?hl1 ?_);case hX1=>exact HT.out
        case hl1=>first|omega|(simp;omega)
        intro P5 hP5 v5 w5 own5 hb5;obtain rfl:T=P5:=hP5.out.symm;clear hP5;have Hb5:=zb (HbY.out.trans hb5);have Own5:=zb own5;have hbs5:=Hb5.out.size;obtain⟨a5,c5,rfl,-,-⟩:=zf own5;clear own5 hb5;have HX2:=zb (zi.one (c:=zm) (sz:=1) w5 s 9 #[.string s] rfl);go_wp2_with (at_builtin;refine zS rfl _ _ rfl w.heap.size ?hs2 _ _ T [s] rfl rfl (Own5.out.alloc _) HX2.out ?hl2 ?_);case hs2=>simp;omega
        case hl2=>simp;omega
        intro R6 hR6 v6 w6 own6 hb6;have Hb6:=zb ((Hb5.out.alloc hbs5 (Obj.cells #[.string s] 9)).trans hb6);have HR6:=zb hR6.out;have hR6l:R6.length<=10001:=by rw[hR6.out,List.length_append,List.length_singleton];omega
        have hbs6:=Hb6.out.size;obtain⟨a6,c6,rfl,-,-⟩:=zf own6;have Own6:=zb own6;clear own6 hb6 hR6;have HD:=zb (zi.below HD.out Hb6.out);have HF:=zb (fun(R:List ByteArray) (h:R=R6++D)=>(h.trans (by rw[HR6.out,HWt.out]):R=vq L s));by_cases hco:an=k
        · have HD:=zb (show zi zm 1 w6 (.slice (some ⟨ab,ao,none⟩) (L.length-k) 0) D by
           have h:=HD.out;rw[if_pos hco,hco,Nat.sub_self]at h;exact h)
          go_wp2_with (at_builtin;refine zS rfl _ _ rfl w.heap.size ?hs3 _ _ R6 D rfl rfl Own6.out ?hX3 ?hl3 ?_);case hs3=>exact hbs6
          case hX3=>exact HD.out
          case hl3=>omega
          intro R hR v7 w7 own7 hb7;have Hb7:=zb (Hb6.out.trans hb7);have HRe:=zb (HF.out R hR.out);obtain⟨a7,c7,rfl,-,-⟩:=zf own7;have Own7:=zb own7;clear own7 hb7 hR;go_wp2;go_ret;exact uN Own7.out HRe.out Hb7.out
        have HD:=zb (show zi zm 1 w6 (.slice (some ⟨ab,ao+k,none⟩) (L.length-k) (an-k)) D by
         have h:=HD.out;rw[if_neg hco,Option.map_some,Vz,Nat.mul_one]at h;exact h);go_wp2_with (at_builtin;refine zS rfl _ _ rfl w.heap.size ?hs3 _ _ R6 D rfl rfl Own6.out ?hX3 ?hl3 ?_);case hs3=>exact hbs6
        case hX3=>exact HD.out
        case hl3=>omega
        intro R hR v7 w7 own7 hb7;have Hb7:=zb (Hb6.out.trans hb7);have HRe:=zb (HF.out R hR.out);obtain⟨a7,c7,rfl,-,-⟩:=zf own7;have Own7:=zb own7;clear own7 hb7 hR;go_wp2;go_ret;exact uN Own7.out HRe.out Hb7.out
    have HK:=zb (show kW L s=k by rw[Ee (s:=s) (fun j hj=>Hno.out j hj (by omega))];omega);have hkL:k=L.length:=by omega
    have hnlt:¬(k:Int)<(L.length:Int):=by omega
    clear hkL;go_upto_region 4 with(fail);have hbY:Below w.heap.size w w:=Below.refl _ _;have hown0:w.ownsRow w.heap.size 9 1 (.slice none 0 0) 0 []:=World.ownsRow_nil _ _ _ _;have Hown0:=zb hown0;have HbY:=zb hbY;have hbs:=hbY.size;have HT:=zb (zi.below (yD HR.out k hk:zi zm 1 w _ _) hbY);have HD:=zb (yE HR.out k hk:zi zm 1 w _ _);have HWt:=zb (show L.take k++[s]++L.drop k=vq L s by unfold vq;rw[HK.out]);obtain⟨T,hT⟩:∃T,T=L.take k:=⟨_,rfl⟩;obtain⟨D,hD⟩:∃D,D=L.drop k:=⟨_,rfl⟩;have hTb:T.length<=10000:=by rw[hT,List.length_take];omega
    have hDb:D.length<=10000:=by rw[hD,List.length_drop];omega
    rw[<-hT]at HT HWt;rw[<-hD]at HD HWt;clear hT hD hbY hown0;go_wp2_with (at_builtin;refine zS rfl _ _ rfl w.heap.size hbs _ _ [] T rfl rfl Hown0.out ?hX1 ?hl1 ?_);case hX1=>exact HT.out
    case hl1=>first|omega|(simp;omega)
    intro P5 hP5 v5 w5 own5 hb5;obtain rfl:T=P5:=hP5.out.symm;clear hP5;have Hb5:=zb (HbY.out.trans hb5);have Own5:=zb own5;have hbs5:=Hb5.out.size;obtain⟨a5,c5,rfl,-,-⟩:=zf own5;clear own5 hb5;have HX2:=zb (zi.one (c:=zm) (sz:=1) w5 s 9 #[.string s] rfl);go_wp2_with (at_builtin;refine zS rfl _ _ rfl w.heap.size ?hs2 _ _ T [s] rfl rfl (Own5.out.alloc _) HX2.out ?hl2 ?_);case hs2=>simp;omega
    case hl2=>simp;omega
    intro R6 hR6 v6 w6 own6 hb6;have Hb6:=zb ((Hb5.out.alloc hbs5 (Obj.cells #[.string s] 9)).trans hb6);have HR6:=zb hR6.out;have hR6l:R6.length<=10001:=by rw[hR6.out,List.length_append,List.length_singleton];omega
    have hbs6:=Hb6.out.size;obtain⟨a6,c6,rfl,-,-⟩:=zf own6;have Own6:=zb own6;clear own6 hb6 hR6;have HD:=zb (zi.below HD.out Hb6.out);have HF:=zb (fun(R:List ByteArray) (h:R=R6++D)=>(h.trans (by rw[HR6.out,HWt.out]):R=vq L s));by_cases hco:an=k
    · have HD:=zb (show zi zm 1 w6 (.slice (some ⟨ab,ao,none⟩) (L.length-k) 0) D by
       have h:=HD.out;rw[if_pos hco,hco,Nat.sub_self]at h;exact h)
      go_wp2_with (at_builtin;refine zS rfl _ _ rfl w.heap.size ?hs3 _ _ R6 D rfl rfl Own6.out ?hX3 ?hl3 ?_);case hs3=>exact hbs6
      case hX3=>exact HD.out
      case hl3=>omega
      intro R hR v7 w7 own7 hb7;have Hb7:=zb (Hb6.out.trans hb7);have HRe:=zb (HF.out R hR.out);obtain⟨a7,c7,rfl,-,-⟩:=zf own7;have Own7:=zb own7;clear own7 hb7 hR;go_wp2;go_ret;exact uN Own7.out HRe.out Hb7.out
    have HD:=zb (show zi zm 1 w6 (.slice (some ⟨ab,ao+k,none⟩) (L.length-k) (an-k)) D by
     have h:=HD.out;rw[if_neg hco,Option.map_some,Vz,Nat.mul_one]at h;exact h);go_wp2_with (at_builtin;refine zS rfl _ _ rfl w.heap.size ?hs3 _ _ R6 D rfl rfl Own6.out ?hX3 ?hl3 ?_);case hs3=>exact hbs6
    case hX3=>exact HD.out
    case hl3=>omega
    intro R hR v7 w7 own7 hb7;have Hb7:=zb (Hb6.out.trans hb7);have HRe:=zb (HF.out R hR.out);obtain⟨a7,c7,rfl,-,-⟩:=zf own7;have Own7:=zb own7;clear own7 hb7 hR;go_wp2;go_ret;exact uN Own7.out HRe.out Hb7.out
theorem VK (v:Value) (L:List ByteArray) (s:ByteArray) (w:World) (h:zR w v L) (hl:L.length<=10000):
 Calls Tryz.prog 204 #[v,.string s] w (KG (yj L s) w):=by
 have HA:=zb h;have HLe:=zb (fun k=>ja (L.take k) s);obtain⟨aa,an,rfl,hla,hma,-⟩:=h;have hma:=hma.1;unfold maxLen at hma;go_enter Tryz.func204,Tryz.ntmps204;go_wp2_with fail;go_loopw [5,10] (fun vo i wr=>∃k:Nat,k<=L.length/\i=.int .i64 k/\wr.ownsRow w.heap.size 9 1 vo (yj (L.take k) s).length ((yj (L.take k) s).flatMap zm)/\Below w.heap.size w wr) (fun _ i _=>L.length-(intOf i).toNat);case atStart=>exact⟨0,Nat.zero_le _,rfl,World.ownsRow_nil _ _ _ _,Below.refl _ _⟩
 case round=>
  obtain⟨wo,rfl⟩:∃wo:World,wo=wr:=⟨_,rfl⟩;obtain⟨k,hk,rfl,hown,hb⟩:=hrel;obtain⟨ao,co,rfl,hco,hcm⟩:=zf hown;have Hown:=zb hown;have Hb:=zb hb;have hlk:=HLe.out k;rw[List.length_take]at hlk;by_cases hlt:k<L.length
  · have hk1:(k:Int)<(L.length:Int):=by omega
    have hk0:(0:Int)<=(k:Int):=Int.natCast_nonneg _;have HS:=zb (Ze L s k hlt);obtain⟨a2,n2,e2,-,-,hx⟩:=HA.out.below hb;cases e2;obtain⟨bb,o,rfl,hB,hx⟩:=hx (by rintro rfl;cases hlt);obtain⟨x0,-⟩:=hx k hlt;rw[Nat.mul_one]at x0;clear hx hb hown;obtain⟨R,hR⟩:∃R,R=yj (L.take k) s:=⟨_,rfl⟩;rw[<-hR]at HS Hown hlk hco⊢;clear hR;generalize L[k]=a at *;have hRb:R.length<=10000:=by omega
    cases hq:yt a s with
    |true=>
      have HE:=zb (HS.out.trans (if_pos hq));have hq1:(a.toList==s.toList)=true:=hq;have hq2:(a.toList != s.toList)=false:=by rw[bne,hq1];rfl
      clear hq;go_wp2;exact⟨⟨k+1,by omega,by go_num,by rw[HE.out];exact Hown.out,Hb.out⟩,by simp[intOf];omega⟩
    |false=>
      have HE:=zb (HS.out.trans (if_neg (by rw[hq];decide)));have hq1:(a.toList==s.toList)=false:=hq;have hq2:(a.toList != s.toList)=true:=by rw[bne,hq1];rfl
      have hbs:=Hb.out.size;have HX:=zb (zi.one (c:=zm) (sz:=1) wo a 9 #[.string a] rfl);clear hq;go_wp2_with (at_builtin;refine zS rfl _ _ rfl w.heap.size ?hs1 _ _ R [a] rfl rfl (Hown.out.alloc _) HX.out ?hl1 ?_);case hs1=>simp;omega
      case hl1=>simp;omega
      intro R2 hR2 v4 w4 own4 hb4;have Hb4:=zb ((Hb.out.alloc hbs (Obj.cells #[.string a] 9)).trans hb4);have Own4:=zb own4;have HR:=zb (hR2.out.trans HE.out.symm);clear own4 hb4 hR2;go_wp2;exact⟨⟨k+1,by omega,by go_num,by rw[<-HR.out];exact Own4.out,Hb4.out⟩,by simp[intOf];omega⟩
  have HE:=zb (show yj (L.take k) s=yj L s by rw[List.take_of_length_le (by omega)]);clear hb hown hlk;obtain⟨R,hR⟩:∃R,R=yj (L.take k) s:=⟨_,rfl⟩;rw[<-hR]at HE Hown hco⊢;clear hR;go_wp2;go_ret;exact uN Hown.out HE.out Hb.out
structure SbO (base:Nat) (w:World) (x:SbX):Prop where
 row:w.ownsRow base 9 1 (.slice x.pa x.pn x.pc) x.s.prs.length (x.s.prs.flatMap zm)
 na:x.na=none
 nn:x.nn=0
 nc:x.nc=0
 nus:x.s.nus=[]
 plan:x.s.plan.size<=maxLen
 sizes:∀p∈x.s.prs,p.size<=maxLen
theorem SbO.below {base:Nat} {w w':World} {x:SbX} (h:SbO base w x) (hb:Below w.heap.size w w'):SbO base w' x:=⟨zd h.row hb,h.na,h.nn,h.nc,h.nus,h.plan,h.sizes⟩
theorem SbO.strs {base:Nat} {w:World} {x:SbX} (h:SbO base w x):zR w (.slice x.pa x.pn x.pc) x.s.prs:=ke (zi.own (fun _=>rfl) h.row) h.sizes
theorem SbO.plain {base:Nat} {w:World} {x:SbX} (h:SbO base w x):qF x.pa:=(Jw h.row).plain
def NxTo (base:Nat) (s:Sb) (w:World) (e:Ending) (w':World):Prop:=∃x:SbX,e=.returned (jb x)/\x.s=s/\SbO base w' x/\Below w.heap.size w w'
theorem nxTo {base:Nat} {s:Sb} {w w':World} {i1 i2 i3:Int} {i4:ByteArray} {prs:List ByteArray} {su fa:Bool} {pa:Option Addr} {pn pc:Nat} (h:(⟨i1,i2,i3,i4,[],prs,su,fa⟩:Sb)=s)
 (h1:w'.ownsRow base 9 1 (.slice pa pn pc) prs.length (prs.flatMap zm)) (h2:i4.size<=maxLen) (h3:∀p∈prs,p.size<=maxLen) (hb:Below w.heap.size w w'):
 NxTo base s w (.returned (.agg #[.int .i64 i1,.int .i64 i2,.int .i64 i3,.string i4,.slice none 0 0,.slice pa pn pc,.bool su,.bool fa])) w':=
 ⟨⟨⟨i1,i2,i3,i4,[],prs,su,fa⟩,none,0,0,pa,pn,pc⟩,rfl,h,⟨h1,rfl,rfl,rfl,rfl,h2,h3⟩,hb⟩
theorem W7 (base:Nat) (x:SbX) (ev:Ev) (w:World) (hk:ev.kd=3\/ev.kd=4\/ev.kd=7\/ev.kd=8\/ev.kd=9\/ev.kd=10\/ev.kd=11\/ev.kd=12\/ev.kd=13) (h:SbO base w x) (hbs:base<=w.heap.size) (hm:ev.nm.size<=maxLen) (h2:x.s.prs.length<=10000):
 Calls Tryz.prog 193 #[jb x,yU ev] w (NxTo base (yN x.s ev) w):=by
 have HSt:=zb h.strs;have HPl:=zb h.plain;obtain⟨⟨i1,i2,i3,i4,nus,prs,su,fa⟩,na,nn,nc,pa,pn,pc⟩:=x;obtain⟨tm,kd,ac,sb,nu,nm,vl⟩:=ev;obtain⟨g1,g2,g3,g4,g5,g6,g7⟩:=h;dsimp only at hk hm h2 HSt HPl g1 g2 g3 g4 g5 g6 g7;subst g2 g3 g4 g5;obtain⟨W,hW,r0,r1,r2,hw0,hz⟩:=qf w (Obj.cells #[.int .i64 i1,.int .i64 i2,.int .i64 i3,.string i4,.slice none 0 0,.slice pa pn pc,.bool su,.bool fa] 181) (Obj.cells #[.int .i64 tm,.int .i64 kd,.int .i64 ac,.int .i64 sb,.string nu,.string nm,.int .i64 vl] 55) (Obj.cells #[.int .i64 0,.int .i64 0,.int .i64 0,.string ⟨#[]⟩,.slice none 0 0,.slice none 0 0,.bool false,.bool false] 181);have T1:=zb g1;have T6:=zb (And.intro g6 (And.intro g7 (And.intro hm hbs)));have HS2:=zb (HSt.out.below hw0);unfold jb yU;dsimp only;have HW:=zb hW;have Hw0:=zb hw0;have R0:=zb r0;have R1:=zb r1;have R2:=zb r2;have tQ:=fun j=>cell_of_row W _ j _ _ _ R0.out;have a0:=tQ 0;have a1:=tQ 1;have a2:=tQ 2;have a3:=tQ 3;have a4:=tQ 4;have a5:=tQ 5;have a6:=tQ 6;have a7:=tQ 7;clear tQ;have tQ:=fun j=>cell_of_row W _ j _ _ _ R1.out;have b0:=tQ 0;have b1:=tQ 1;have b2:=tQ 2;have b3:=tQ 3;have b5:=tQ 5;clear tQ;have f3:=frozen_of_row W _ 3 _ _ R0.out;have f4:=frozen_of_row W _ 4 _ _ R0.out;have f5:=frozen_of_row W _ 5 _ _ R0.out;have f6:=frozen_of_row W _ 6 _ _ R0.out;have f7:=frozen_of_row W _ 7 _ _ R0.out;clear hW r0 r1 r2 hw0 g1 g6 g7 hm hbs;go_enter Tryz.func193,Tryz.ntmps193;go_upto_region 1 with(fail);rw[<-HW.out];rcases hk with hk|hk|hk|hk|hk|hk|hk|hk|hk
 · subst hk
   have HCh:=zb (show(⟨sb,ac,tm,nm,[],[],false,false⟩:Sb)=yN ⟨i1,i2,i3,i4,[],prs,su,fa⟩ ⟨tm,3,ac,sb,nu,nm,vl⟩ from rfl);have HbF:=zb (zj Hw0.out (show w.heap.size<=w.heap.size+1+1 by omega) #[.int .i64 sb,.int .i64 ac,.int .i64 tm,.string nm,.slice none 0 0,.slice none 0 0,.bool false,.bool false]);have tQ:=fun j=>cell_setRow_same W (w.heap.size+1+1) j _ #[.int .i64 sb,.int .i64 ac,.int .i64 tm,.string nm,.slice none 0 0,.slice none 0 0,.bool false,.bool false] _ _ R2.out;have t0:=tQ 0;have t1:=tQ 1;have t2:=tQ 2;have t3:=tQ 3;have t4:=tQ 4;have t5:=tQ 5;have t6:=tQ 6;have t7:=tQ 7;clear tQ;repeat (first|refine wpList_store_row rfl _ _ _ rfl (w.heap.size+1+1) #[.int .i64 sb,.int .i64 ac,.int .i64 tm,.string nm,.slice none 0 0,.slice none 0 0,.bool false,.bool false] rfl rfl 181 _ R2.out (by kernel_rfl) rfl (by simp[Value.oneCell']) ?_|go_step)
   refine bodyPost_ret (v:=.agg #[.int .i64 sb,.int .i64 ac,.int .i64 tm,.string nm,.slice none 0 0,.slice none 0 0,.bool false,.bool false]) (by simp[results,Tryz.results193,go_sem,t0,t1,t2,t3,t4,t5,t6,t7]) rfl ?_;exact nxTo HCh.out (World.ownsRow_nil _ _ _ _) T6.out.2.2.1 (fun _ h=>by cases h) HbF.out
 · subst hk
   have HCh:=zb (show(⟨0,0,0,⟨#[]⟩,[],[],false,false⟩:Sb)=yN ⟨i1,i2,i3,i4,[],prs,su,fa⟩ ⟨tm,4,ac,sb,nu,nm,vl⟩ from rfl);have HbF:=zb (zj Hw0.out (show w.heap.size<=w.heap.size+1+1 by omega) #[.int .i64 0,.int .i64 0,.int .i64 0,.string ⟨#[]⟩,.slice none 0 0,.slice none 0 0,.bool false,.bool false]);have tQ:=fun j=>cell_setRow_same W (w.heap.size+1+1) j _ #[.int .i64 0,.int .i64 0,.int .i64 0,.string ⟨#[]⟩,.slice none 0 0,.slice none 0 0,.bool false,.bool false] _ _ R2.out;have t0:=tQ 0;have t1:=tQ 1;have t2:=tQ 2;have t3:=tQ 3;have t4:=tQ 4;have t5:=tQ 5;have t6:=tQ 6;have t7:=tQ 7;clear tQ;repeat (first|refine wpList_store_row rfl _ _ _ rfl (w.heap.size+1+1) #[.int .i64 0,.int .i64 0,.int .i64 0,.string ⟨#[]⟩,.slice none 0 0,.slice none 0 0,.bool false,.bool false] rfl rfl 181 _ R2.out (by kernel_rfl) rfl (by simp[Value.oneCell']) ?_|go_step)
   refine bodyPost_ret (v:=.agg #[.int .i64 0,.int .i64 0,.int .i64 0,.string ⟨#[]⟩,.slice none 0 0,.slice none 0 0,.bool false,.bool false]) (by simp[results,Tryz.results193,go_sem,t0,t1,t2,t3,t4,t5,t6,t7]) rfl ?_;exact nxTo HCh.out (World.ownsRow_nil _ _ _ _) (Nat.zero_le _) (fun _ h=>by cases h) HbF.out
 · subst hk
   have HCh:=zb (show(⟨i1,i2,i3,nm,[],prs,su,fa⟩:Sb)=yN ⟨i1,i2,i3,i4,[],prs,su,fa⟩ ⟨tm,7,ac,sb,nu,nm,vl⟩ from rfl);obtain⟨Z,hZ⟩:∃Z,Z=(W.setCell ⟨w.heap.size,3,none⟩ (.string nm)):=⟨_,rfl⟩;have Z0:=zb (show Z.heap[w.heap.size]?=some (Obj.cells #[.int .i64 i1,.int .i64 i2,.int .i64 i3,.string nm,.slice none 0 0,.slice pa pn pc,.bool su,.bool fa] 181) by rw[hZ];exact(zU _ R0.out));have Z2:=zb (show Z.heap[w.heap.size+1+1]?=some (Obj.cells #[.int .i64 0,.int .i64 0,.int .i64 0,.string ⟨#[]⟩,.slice none 0 0,.slice none 0 0,.bool false,.bool false] 181) by rw[hZ];exact(zF R2.out (by omega)));have HbZ:=zb (show Below w.heap.size w Z by rw[hZ];exact(Hw0.out.setCell (Nat.le_refl _) _));have HZ:=zb hZ;clear hZ;go_upto_region 18 with(fail);rw[<-HZ.out];clear a0 a1 a2 a3 a4 a5 a6 a7 b0 b1 b2 b3 b5 f3 f4 f5 f6 f7;have tQ:=fun j=>cell_of_row Z _ j _ _ _ Z0.out;have z0:=tQ 0;have z1:=tQ 1;have z2:=tQ 2;have z3:=tQ 3;have z4:=tQ 4;have z5:=tQ 5;have z6:=tQ 6;have z7:=tQ 7;clear tQ;have HbF:=zb (zj HbZ.out (show w.heap.size<=w.heap.size+1+1 by omega) #[.int .i64 i1,.int .i64 i2,.int .i64 i3,.string nm,.slice none 0 0,.slice pa pn pc,.bool su,.bool fa]);have tQ:=fun j=>cell_setRow_same Z (w.heap.size+1+1) j _ #[.int .i64 i1,.int .i64 i2,.int .i64 i3,.string nm,.slice none 0 0,.slice pa pn pc,.bool su,.bool fa] _ _ Z2.out;have t0:=tQ 0;have t1:=tQ 1;have t2:=tQ 2;have t3:=tQ 3;have t4:=tQ 4;have t5:=tQ 5;have t6:=tQ 6;have t7:=tQ 7;clear tQ;repeat (first|refine wpList_store_row rfl _ _ _ rfl (w.heap.size+1+1) #[.int .i64 i1,.int .i64 i2,.int .i64 i3,.string nm,.slice none 0 0,.slice pa pn pc,.bool su,.bool fa] rfl rfl 181 _ Z2.out (by kernel_rfl) rfl (by simp[Value.oneCell']) ?_|go_step)
   refine bodyPost_ret (v:=.agg #[.int .i64 i1,.int .i64 i2,.int .i64 i3,.string nm,.slice none 0 0,.slice pa pn pc,.bool su,.bool fa]) (by simp[results,Tryz.results193,go_sem,t0,t1,t2,t3,t4,t5,t6,t7]) rfl ?_;exact nxTo HCh.out (zd T1.out HbF.out) T6.out.2.2.1 T6.out.2.1 HbF.out
 · subst hk
   have HCh:=zb (show(⟨i1,i2,i3,i4,[],vq prs nm,su,fa⟩:Sb)=yN ⟨i1,i2,i3,i4,[],prs,su,fa⟩ ⟨tm,8,ac,sb,nu,nm,vl⟩ from rfl);have HCl:=zb (KP _ _ nm W HS2.out (by intro a n c e;cases e;exact HPl.out) h2);go_wp2_with fail;refine HCl.out.mono ?_;rintro e w1 ⟨qa,qn,qc,rfl,hst,hb1⟩;have Hst:=zb (zx hst (show base<=W.heap.size by have:=T6.out.2.2.2;have:=Hw0.out.size;omega));have Hb1:=zb (Hw0.out.trans (hb1.mono Hw0.out.size));have q0:=(hb1.block _ (by omega)).trans R0.out;have q2:=(hb1.block _ hz).trans R2.out;have Q0:=zb q0;have g5:=cell_of_row w1 _ 5 _ _ _ q0;have gf:=frozen_of_row w1 _ 5 _ _ q0;obtain⟨Z,hZ⟩:∃Z,Z=w1.setCell ⟨w.heap.size,5,none⟩ (.slice qa qn qc):=⟨_,rfl⟩;have Z0:=zb (show Z.heap[w.heap.size]?=some (Obj.cells #[.int .i64 i1,.int .i64 i2,.int .i64 i3,.string i4,.slice none 0 0,.slice qa qn qc,.bool su,.bool fa] 181) by rw[hZ];exact zU _ q0);have Z2:=zb (show Z.heap[w.heap.size+1+1]?=some (Obj.cells #[.int .i64 0,.int .i64 0,.int .i64 0,.string ⟨#[]⟩,.slice none 0 0,.slice none 0 0,.bool false,.bool false] 181) by rw[hZ];exact zF q2 (by omega));have HbZ:=zb (show Below w.heap.size w Z by rw[hZ];exact Hb1.out.setCell (Nat.le_refl _) _);have Hq:=zb (show Z.ownsRow base 9 1 (.slice qa qn qc) _ _ by rw[hZ];exact zp Hst.out (zk Hst.out q0 (by decide)));have HZ:=zb hZ;clear hZ q0 q2 hst hb1 a0 a1 a2 a3 a4 a5 a6 a7 b0 b1 b2 b3 b5 f3 f4 f5 f6 f7;go_upto_region 18 with(fail);rw[<-HZ.out];have tQ:=fun j=>cell_of_row Z _ j _ _ _ Z0.out;have z0:=tQ 0;have z1:=tQ 1;have z2:=tQ 2;have z3:=tQ 3;have z4:=tQ 4;have z5:=tQ 5;have z6:=tQ 6;have z7:=tQ 7;clear tQ;have HbF:=zb (zj HbZ.out (show w.heap.size<=w.heap.size+1+1 by omega) #[.int .i64 i1,.int .i64 i2,.int .i64 i3,.string i4,.slice none 0 0,.slice qa qn qc,.bool su,.bool fa]);have tQ:=fun j=>cell_setRow_same Z (w.heap.size+1+1) j _ #[.int .i64 i1,.int .i64 i2,.int .i64 i3,.string i4,.slice none 0 0,.slice qa qn qc,.bool su,.bool fa] _ _ Z2.out;have t0:=tQ 0;have t1:=tQ 1;have t2:=tQ 2;have t3:=tQ 3;have t4:=tQ 4;have t5:=tQ 5;have t6:=tQ 6;have t7:=tQ 7;clear tQ;repeat (first|refine wpList_store_row rfl _ _ _ rfl (w.heap.size+1+1) #[.int .i64 i1,.int .i64 i2,.int .i64 i3,.string i4,.slice none 0 0,.slice qa qn qc,.bool su,.bool fa] rfl rfl 181 _ Z2.out (by kernel_rfl) rfl (by simp[Value.oneCell']) ?_|go_step)
   refine bodyPost_ret (v:=.agg #[.int .i64 i1,.int .i64 i2,.int .i64 i3,.string i4,.slice none 0 0,.slice qa qn qc,.bool su,.bool fa]) (by simp[results,Tryz.results193,go_sem,t0,t1,t2,t3,t4,t5,t6,t7]) rfl ?_;exact nxTo HCh.out (zt Hq.out (zk Hq.out Z2.out (by decide)) _) T6.out.1 (YM T6.out.2.1 T6.out.2.2.1) HbF.out
 · subst hk
   have HCh:=zb (show(⟨i1,i2,i3,i4,[],yj prs nm,su,fa⟩:Sb)=yN ⟨i1,i2,i3,i4,[],prs,su,fa⟩ ⟨tm,9,ac,sb,nu,nm,vl⟩ from rfl);have HCl:=zb (VK _ _ nm W HS2.out h2);go_wp2_with fail;refine HCl.out.mono ?_;rintro e w1 ⟨qa,qn,qc,rfl,hst,hb1⟩;have Hst:=zb (zx hst (show base<=W.heap.size by have:=T6.out.2.2.2;have:=Hw0.out.size;omega));have Hb1:=zb (Hw0.out.trans (hb1.mono Hw0.out.size));have q0:=(hb1.block _ (by omega)).trans R0.out;have q2:=(hb1.block _ hz).trans R2.out;have Q0:=zb q0;have g5:=cell_of_row w1 _ 5 _ _ _ q0;have gf:=frozen_of_row w1 _ 5 _ _ q0;obtain⟨Z,hZ⟩:∃Z,Z=w1.setCell ⟨w.heap.size,5,none⟩ (.slice qa qn qc):=⟨_,rfl⟩;have Z0:=zb (show Z.heap[w.heap.size]?=some (Obj.cells #[.int .i64 i1,.int .i64 i2,.int .i64 i3,.string i4,.slice none 0 0,.slice qa qn qc,.bool su,.bool fa] 181) by rw[hZ];exact zU _ q0);have Z2:=zb (show Z.heap[w.heap.size+1+1]?=some (Obj.cells #[.int .i64 0,.int .i64 0,.int .i64 0,.string ⟨#[]⟩,.slice none 0 0,.slice none 0 0,.bool false,.bool false] 181) by rw[hZ];exact zF q2 (by omega));have HbZ:=zb (show Below w.heap.size w Z by rw[hZ];exact Hb1.out.setCell (Nat.le_refl _) _);have Hq:=zb (show Z.ownsRow base 9 1 (.slice qa qn qc) _ _ by rw[hZ];exact zp Hst.out (zk Hst.out q0 (by decide)));have HZ:=zb hZ;clear hZ q0 q2 hst hb1 a0 a1 a2 a3 a4 a5 a6 a7 b0 b1 b2 b3 b5 f3 f4 f5 f6 f7;go_upto_region 18 with(fail);rw[<-HZ.out];have tQ:=fun j=>cell_of_row Z _ j _ _ _ Z0.out;have z0:=tQ 0;have z1:=tQ 1;have z2:=tQ 2;have z3:=tQ 3;have z4:=tQ 4;have z5:=tQ 5;have z6:=tQ 6;have z7:=tQ 7;clear tQ;have HbF:=zb (zj HbZ.out (show w.heap.size<=w.heap.size+1+1 by omega) #[.int .i64 i1,.int .i64 i2,.int .i64 i3,.string i4,.slice none 0 0,.slice qa qn qc,.bool su,.bool fa]);have tQ:=fun j=>cell_setRow_same Z (w.heap.size+1+1) j _ #[.int .i64 i1,.int .i64 i2,.int .i64 i3,.string i4,.slice none 0 0,.slice qa qn qc,.bool su,.bool fa] _ _ Z2.out;have t0:=tQ 0;have t1:=tQ 1;have t2:=tQ 2;have t3:=tQ 3;have t4:=tQ 4;have t5:=tQ 5;have t6:=tQ 6;have t7:=tQ 7;clear tQ;repeat (first|refine wpList_store_row rfl _ _ _ rfl (w.heap.size+1+1) #[.int .i64 i1,.int .i64 i2,.int .i64 i3,.string i4,.slice none 0 0,.slice qa qn qc,.bool su,.bool fa] rfl rfl 181 _ Z2.out (by kernel_rfl) rfl (by simp[Value.oneCell']) ?_|go_step)
   refine bodyPost_ret (v:=.agg #[.int .i64 i1,.int .i64 i2,.int .i64 i3,.string i4,.slice none 0 0,.slice qa qn qc,.bool su,.bool fa]) (by simp[results,Tryz.results193,go_sem,t0,t1,t2,t3,t4,t5,t6,t7]) rfl ?_;exact nxTo HCh.out (zt Hq.out (zk Hq.out Z2.out (by decide)) _) T6.out.1 (ui T6.out.2.1) HbF.out
 · subst hk
   have HCh:=zb (show(⟨i1,i2,i3,i4,[],prs,true,fa⟩:Sb)=yN ⟨i1,i2,i3,i4,[],prs,su,fa⟩ ⟨tm,10,ac,sb,nu,nm,vl⟩ from rfl);obtain⟨Z,hZ⟩:∃Z,Z=(W.setCell ⟨w.heap.size,6,none⟩ (.bool true)):=⟨_,rfl⟩;have Z0:=zb (show Z.heap[w.heap.size]?=some (Obj.cells #[.int .i64 i1,.int .i64 i2,.int .i64 i3,.string i4,.slice none 0 0,.slice pa pn pc,.bool true,.bool fa] 181) by rw[hZ];exact(zU _ R0.out));have Z2:=zb (show Z.heap[w.heap.size+1+1]?=some (Obj.cells #[.int .i64 0,.int .i64 0,.int .i64 0,.string ⟨#[]⟩,.slice none 0 0,.slice none 0 0,.bool false,.bool false] 181) by rw[hZ];exact(zF R2.out (by omega)));have HbZ:=zb (show Below w.heap.size w Z by rw[hZ];exact(Hw0.out.setCell (Nat.le_refl _) _));have HZ:=zb hZ;clear hZ;go_upto_region 18 with(fail);rw[<-HZ.out];clear a0 a1 a2 a3 a4 a5 a6 a7 b0 b1 b2 b3 b5 f3 f4 f5 f6 f7;have tQ:=fun j=>cell_of_row Z _ j _ _ _ Z0.out;have z0:=tQ 0;have z1:=tQ 1;have z2:=tQ 2;have z3:=tQ 3;have z4:=tQ 4;have z5:=tQ 5;have z6:=tQ 6;have z7:=tQ 7;clear tQ;have HbF:=zb (zj HbZ.out (show w.heap.size<=w.heap.size+1+1 by omega) #[.int .i64 i1,.int .i64 i2,.int .i64 i3,.string i4,.slice none 0 0,.slice pa pn pc,.bool true,.bool fa]);have tQ:=fun j=>cell_setRow_same Z (w.heap.size+1+1) j _ #[.int .i64 i1,.int .i64 i2,.int .i64 i3,.string i4,.slice none 0 0,.slice pa pn pc,.bool true,.bool fa] _ _ Z2.out;have t0:=tQ 0;have t1:=tQ 1;have t2:=tQ 2;have t3:=tQ 3;have t4:=tQ 4;have t5:=tQ 5;have t6:=tQ 6;have t7:=tQ 7;clear tQ;repeat (first|refine wpList_store_row rfl _ _ _ rfl (w.heap.size+1+1) #[.int .i64 i1,.int .i64 i2,.int .i64 i3,.string i4,.slice none 0 0,.slice pa pn pc,.bool true,.bool fa] rfl rfl 181 _ Z2.out (by kernel_rfl) rfl (by simp[Value.oneCell']) ?_|go_step)
   refine bodyPost_ret (v:=.agg #[.int .i64 i1,.int .i64 i2,.int .i64 i3,.string i4,.slice none 0 0,.slice pa pn pc,.bool true,.bool fa]) (by simp[results,Tryz.results193,go_sem,t0,t1,t2,t3,t4,t5,t6,t7]) rfl ?_;exact nxTo HCh.out (zd T1.out HbF.out) T6.out.1 T6.out.2.1 HbF.out
 · subst hk
   have HCh:=zb (show(⟨i1,i2,i3,i4,[],prs,false,fa⟩:Sb)=yN ⟨i1,i2,i3,i4,[],prs,su,fa⟩ ⟨tm,11,ac,sb,nu,nm,vl⟩ from rfl);obtain⟨Z,hZ⟩:∃Z,Z=(W.setCell ⟨w.heap.size,6,none⟩ (.bool false)):=⟨_,rfl⟩;have Z0:=zb (show Z.heap[w.heap.size]?=some (Obj.cells #[.int .i64 i1,.int .i64 i2,.int .i64 i3,.string i4,.slice none 0 0,.slice pa pn pc,.bool false,.bool fa] 181) by rw[hZ];exact(zU _ R0.out));have Z2:=zb (show Z.heap[w.heap.size+1+1]?=some (Obj.cells #[.int .i64 0,.int .i64 0,.int .i64 0,.string ⟨#[]⟩,.slice none 0 0,.slice none 0 0,.bool false,.bool false] 181) by rw[hZ];exact(zF R2.out (by omega)));have HbZ:=zb (show Below w.heap.size w Z by rw[hZ];exact(Hw0.out.setCell (Nat.le_refl _) _));have HZ:=zb hZ;clear hZ;go_upto_region 18 with(fail);rw[<-HZ.out];clear a0 a1 a2 a3 a4 a5 a6 a7 b0 b1 b2 b3 b5 f3 f4 f5 f6 f7;have tQ:=fun j=>cell_of_row Z _ j _ _ _ Z0.out;have z0:=tQ 0;have z1:=tQ 1;have z2:=tQ 2;have z3:=tQ 3;have z4:=tQ 4;have z5:=tQ 5;have z6:=tQ 6;have z7:=tQ 7;clear tQ;have HbF:=zb (zj HbZ.out (show w.heap.size<=w.heap.size+1+1 by omega) #[.int .i64 i1,.int .i64 i2,.int .i64 i3,.string i4,.slice none 0 0,.slice pa pn pc,.bool false,.bool fa]);have tQ:=fun j=>cell_setRow_same Z (w.heap.size+1+1) j _ #[.int .i64 i1,.int .i64 i2,.int .i64 i3,.string i4,.slice none 0 0,.slice pa pn pc,.bool false,.bool fa] _ _ Z2.out;have t0:=tQ 0;have t1:=tQ 1;have t2:=tQ 2;have t3:=tQ 3;have t4:=tQ 4;have t5:=tQ 5;have t6:=tQ 6;have t7:=tQ 7;clear tQ;repeat (first|refine wpList_store_row rfl _ _ _ rfl (w.heap.size+1+1) #[.int .i64 i1,.int .i64 i2,.int .i64 i3,.string i4,.slice none 0 0,.slice pa pn pc,.bool false,.bool fa] rfl rfl 181 _ Z2.out (by kernel_rfl) rfl (by simp[Value.oneCell']) ?_|go_step)
   refine bodyPost_ret (v:=.agg #[.int .i64 i1,.int .i64 i2,.int .i64 i3,.string i4,.slice none 0 0,.slice pa pn pc,.bool false,.bool fa]) (by simp[results,Tryz.results193,go_sem,t0,t1,t2,t3,t4,t5,t6,t7]) rfl ?_;exact nxTo HCh.out (zd T1.out HbF.out) T6.out.1 T6.out.2.1 HbF.out
 · subst hk
   have HCh:=zb (show(⟨i1,i2,i3,i4,[],prs,su,true⟩:Sb)=yN ⟨i1,i2,i3,i4,[],prs,su,fa⟩ ⟨tm,12,ac,sb,nu,nm,vl⟩ from rfl);obtain⟨Z,hZ⟩:∃Z,Z=(W.setCell ⟨w.heap.size,7,none⟩ (.bool true)):=⟨_,rfl⟩;have Z0:=zb (show Z.heap[w.heap.size]?=some (Obj.cells #[.int .i64 i1,.int .i64 i2,.int .i64 i3,.string i4,.slice none 0 0,.slice pa pn pc,.bool su,.bool true] 181) by rw[hZ];exact(zU _ R0.out));have Z2:=zb (show Z.heap[w.heap.size+1+1]?=some (Obj.cells #[.int .i64 0,.int .i64 0,.int .i64 0,.string ⟨#[]⟩,.slice none 0 0,.slice none 0 0,.bool false,.bool false] 181) by rw[hZ];exact(zF R2.out (by omega)));have HbZ:=zb (show Below w.heap.size w Z by rw[hZ];exact(Hw0.out.setCell (Nat.le_refl _) _));have HZ:=zb hZ;clear hZ;go_upto_region 18 with(fail);rw[<-HZ.out];clear a0 a1 a2 a3 a4 a5 a6 a7 b0 b1 b2 b3 b5 f3 f4 f5 f6 f7;have tQ:=fun j=>cell_of_row Z _ j _ _ _ Z0.out;have z0:=tQ 0;have z1:=tQ 1;have z2:=tQ 2;have z3:=tQ 3;have z4:=tQ 4;have z5:=tQ 5;have z6:=tQ 6;have z7:=tQ 7;clear tQ;have HbF:=zb (zj HbZ.out (show w.heap.size<=w.heap.size+1+1 by omega) #[.int .i64 i1,.int .i64 i2,.int .i64 i3,.string i4,.slice none 0 0,.slice pa pn pc,.bool su,.bool true]);have tQ:=fun j=>cell_setRow_same Z (w.heap.size+1+1) j _ #[.int .i64 i1,.int .i64 i2,.int .i64 i3,.string i4,.slice none 0 0,.slice pa pn pc,.bool su,.bool true] _ _ Z2.out;have t0:=tQ 0;have t1:=tQ 1;have t2:=tQ 2;have t3:=tQ 3;have t4:=tQ 4;have t5:=tQ 5;have t6:=tQ 6;have t7:=tQ 7;clear tQ;repeat (first|refine wpList_store_row rfl _ _ _ rfl (w.heap.size+1+1) #[.int .i64 i1,.int .i64 i2,.int .i64 i3,.string i4,.slice none 0 0,.slice pa pn pc,.bool su,.bool true] rfl rfl 181 _ Z2.out (by kernel_rfl) rfl (by simp[Value.oneCell']) ?_|go_step)
   refine bodyPost_ret (v:=.agg #[.int .i64 i1,.int .i64 i2,.int .i64 i3,.string i4,.slice none 0 0,.slice pa pn pc,.bool su,.bool true]) (by simp[results,Tryz.results193,go_sem,t0,t1,t2,t3,t4,t5,t6,t7]) rfl ?_;exact nxTo HCh.out (zd T1.out HbF.out) T6.out.1 T6.out.2.1 HbF.out
 subst hk;have HCh:=zb (show(⟨i1,i2,i3,i4,[],prs,su,false⟩:Sb)=yN ⟨i1,i2,i3,i4,[],prs,su,fa⟩ ⟨tm,13,ac,sb,nu,nm,vl⟩ from rfl);obtain⟨Z,hZ⟩:∃Z,Z=(W.setCell ⟨w.heap.size,7,none⟩ (.bool false)):=⟨_,rfl⟩;have Z0:=zb (show Z.heap[w.heap.size]?=some (Obj.cells #[.int .i64 i1,.int .i64 i2,.int .i64 i3,.string i4,.slice none 0 0,.slice pa pn pc,.bool su,.bool false] 181) by rw[hZ];exact(zU _ R0.out));have Z2:=zb (show Z.heap[w.heap.size+1+1]?=some (Obj.cells #[.int .i64 0,.int .i64 0,.int .i64 0,.string ⟨#[]⟩,.slice none 0 0,.slice none 0 0,.bool false,.bool false] 181) by rw[hZ];exact(zF R2.out (by omega)));have HbZ:=zb (show Below w.heap.size w Z by rw[hZ];exact(Hw0.out.setCell (Nat.le_refl _) _));have HZ:=zb hZ;clear hZ;go_upto_region 18 with(fail);rw[<-HZ.out];clear a0 a1 a2 a3 a4 a5 a6 a7 b0 b1 b2 b3 b5 f3 f4 f5 f6 f7;have tQ:=fun j=>cell_of_row Z _ j _ _ _ Z0.out;have z0:=tQ 0;have z1:=tQ 1;have z2:=tQ 2;have z3:=tQ 3;have z4:=tQ 4;have z5:=tQ 5;have z6:=tQ 6;have z7:=tQ 7;clear tQ;have HbF:=zb (zj HbZ.out (show w.heap.size<=w.heap.size+1+1 by omega) #[.int .i64 i1,.int .i64 i2,.int .i64 i3,.string i4,.slice none 0 0,.slice pa pn pc,.bool su,.bool false]);have tQ:=fun j=>cell_setRow_same Z (w.heap.size+1+1) j _ #[.int .i64 i1,.int .i64 i2,.int .i64 i3,.string i4,.slice none 0 0,.slice pa pn pc,.bool su,.bool false] _ _ Z2.out;have t0:=tQ 0;have t1:=tQ 1;have t2:=tQ 2;have t3:=tQ 3;have t4:=tQ 4;have t5:=tQ 5;have t6:=tQ 6;have t7:=tQ 7;clear tQ;repeat (first|refine wpList_store_row rfl _ _ _ rfl (w.heap.size+1+1) #[.int .i64 i1,.int .i64 i2,.int .i64 i3,.string i4,.slice none 0 0,.slice pa pn pc,.bool su,.bool false] rfl rfl 181 _ Z2.out (by kernel_rfl) rfl (by simp[Value.oneCell']) ?_|go_step)
 refine bodyPost_ret (v:=.agg #[.int .i64 i1,.int .i64 i2,.int .i64 i3,.string i4,.slice none 0 0,.slice pa pn pc,.bool su,.bool false]) (by simp[results,Tryz.results193,go_sem,t0,t1,t2,t3,t4,t5,t6,t7]) rfl ?_;exact nxTo HCh.out (zd T1.out HbF.out) T6.out.1 T6.out.2.1 HbF.out
theorem xK (base:Nat) (x:SbX) (ev:Ev) (w:World) (hk:¬(ev.kd=3\/ev.kd=4\/(7<=ev.kd/\ev.kd<=13))) (h:SbO base w x) (hbs:base<=w.heap.size) (hm:ev.nm.size<=maxLen) (h2:x.s.prs.length<=10000):
 Calls Tryz.prog 193 #[jb x,yU ev] w (NxTo base (yN x.s ev) w):=by
 have HSt:=zb h.strs;have HPl:=zb h.plain;obtain⟨⟨i1,i2,i3,i4,nus,prs,su,fa⟩,na,nn,nc,pa,pn,pc⟩:=x;obtain⟨tm,kd,ac,sb,nu,nm,vl⟩:=ev;obtain⟨g1,g2,g3,g4,g5,g6,g7⟩:=h;dsimp only at hk hm h2 HSt HPl g1 g2 g3 g4 g5 g6 g7;subst g2 g3 g4 g5;have e3:(kd==3)=false:=beq_eq_false_iff_ne.2 (by omega);have e4:(kd==4)=false:=beq_eq_false_iff_ne.2 (by omega);have e7:(kd==7)=false:=beq_eq_false_iff_ne.2 (by omega);have e8:(kd==8)=false:=beq_eq_false_iff_ne.2 (by omega);have e9:(kd==9)=false:=beq_eq_false_iff_ne.2 (by omega);have e10:(kd==10)=false:=beq_eq_false_iff_ne.2 (by omega);have e11:(kd==11)=false:=beq_eq_false_iff_ne.2 (by omega);have e12:(kd==12)=false:=beq_eq_false_iff_ne.2 (by omega);have e13:(kd==13)=false:=beq_eq_false_iff_ne.2 (by omega);have HCh:=zb (show(⟨i1,i2,i3,i4,[],prs,su,fa⟩:Sb)=yN ⟨i1,i2,i3,i4,[],prs,su,fa⟩ ⟨tm,kd,ac,sb,nu,nm,vl⟩ from by unfold yN;dsimp only;rw[if_neg (by omega),if_neg (by omega),if_neg (by omega),if_neg (by omega),if_neg (by omega),if_neg (by omega),if_neg (by omega)]);obtain⟨W,hW,r0,r1,r2,hw0,hz⟩:=qf w (Obj.cells #[.int .i64 i1,.int .i64 i2,.int .i64 i3,.string i4,.slice none 0 0,.slice pa pn pc,.bool su,.bool fa] 181) (Obj.cells #[.int .i64 tm,.int .i64 kd,.int .i64 ac,.int .i64 sb,.string nu,.string nm,.int .i64 vl] 55) (Obj.cells #[.int .i64 0,.int .i64 0,.int .i64 0,.string ⟨#[]⟩,.slice none 0 0,.slice none 0 0,.bool false,.bool false] 181);have T1:=zb g1;have T6:=zb (And.intro g6 (And.intro g7 (And.intro hm hbs)));have HS2:=zb (HSt.out.below hw0);unfold jb yU;dsimp only;have HW:=zb hW;have Hw0:=zb hw0;have R0:=zb r0;have R1:=zb r1;have R2:=zb r2;have tQ:=fun j=>cell_of_row W _ j _ _ _ R0.out;have a0:=tQ 0;have a1:=tQ 1;have a2:=tQ 2;have a3:=tQ 3;have a4:=tQ 4;have a5:=tQ 5;have a6:=tQ 6;have a7:=tQ 7;clear tQ;have tQ:=fun j=>cell_of_row W _ j _ _ _ R1.out;have b0:=tQ 0;have b1:=tQ 1;have b2:=tQ 2;have b3:=tQ 3;have b5:=tQ 5;clear tQ;have f3:=frozen_of_row W _ 3 _ _ R0.out;have f4:=frozen_of_row W _ 4 _ _ R0.out;have f5:=frozen_of_row W _ 5 _ _ R0.out;have f6:=frozen_of_row W _ 6 _ _ R0.out;have f7:=frozen_of_row W _ 7 _ _ R0.out;obtain⟨Z,hZ⟩:∃Z,Z=W:=⟨_,rfl⟩;have Z0:=zb (show Z.heap[w.heap.size]?=some (Obj.cells #[.int .i64 i1,.int .i64 i2,.int .i64 i3,.string i4,.slice none 0 0,.slice pa pn pc,.bool su,.bool fa] 181) by rw[hZ];exact R0.out);have Z2:=zb (show Z.heap[w.heap.size+1+1]?=some (Obj.cells #[.int .i64 0,.int .i64 0,.int .i64 0,.string ⟨#[]⟩,.slice none 0 0,.slice none 0 0,.bool false,.bool false] 181) by rw[hZ];exact R2.out);have HbZ:=zb (show Below w.heap.size w Z by rw[hZ];exact Hw0.out);have HZ:=zb hZ;clear hZ hW r0 r1 r2 hw0 g1 g6 g7 hm hbs hk;go_enter Tryz.func193,Tryz.ntmps193;go_upto_region 1 with(fail);rw[<-HW.out];go_upto_region 18 with(fail);rw[<-HZ.out];clear a0 a1 a2 a3 a4 a5 a6 a7 b0 b1 b2 b3 b5 f3 f4 f5 f6 f7;have tQ:=fun j=>cell_of_row Z _ j _ _ _ Z0.out;have z0:=tQ 0;have z1:=tQ 1;have z2:=tQ 2;have z3:=tQ 3;have z4:=tQ 4;have z5:=tQ 5;have z6:=tQ 6;have z7:=tQ 7;clear tQ;have HbF:=zb (zj HbZ.out (show w.heap.size<=w.heap.size+1+1 by omega) #[.int .i64 i1,.int .i64 i2,.int .i64 i3,.string i4,.slice none 0 0,.slice pa pn pc,.bool su,.bool fa]);have tQ:=fun j=>cell_setRow_same Z (w.heap.size+1+1) j _ #[.int .i64 i1,.int .i64 i2,.int .i64 i3,.string i4,.slice none 0 0,.slice pa pn pc,.bool su,.bool fa] _ _ Z2.out;have t0:=tQ 0;have t1:=tQ 1;have t2:=tQ 2;have t3:=tQ 3;have t4:=tQ 4;have t5:=tQ 5;have t6:=tQ 6;have t7:=tQ 7;clear tQ;repeat (first|refine wpList_store_row rfl _ _ _ rfl (w.heap.size+1+1) #[.int .i64 i1,.int .i64 i2,.int .i64 i3,.string i4,.slice none 0 0,.slice pa pn pc,.bool su,.bool fa] rfl rfl 181 _ Z2.out (by kernel_rfl) rfl (by simp[Value.oneCell']) ?_|go_step)
 refine bodyPost_ret (v:=.agg #[.int .i64 i1,.int .i64 i2,.int .i64 i3,.string i4,.slice none 0 0,.slice pa pn pc,.bool su,.bool fa]) (by simp[results,Tryz.results193,go_sem,t0,t1,t2,t3,t4,t5,t6,t7]) rfl ?_;exact nxTo HCh.out (zd T1.out HbF.out) T6.out.1 T6.out.2.1 HbF.out
theorem Xd (base:Nat) (x:SbX) (ev:Ev) (w:World) (h:SbO base w x) (hbs:base<=w.heap.size) (hm:ev.nm.size<=maxLen) (h2:x.s.prs.length<=10000):
 Calls Tryz.prog 193 #[jb x,yU ev] w (NxTo base (yN x.s ev) w):=by
 by_cases g:ev.kd=3\/ev.kd=4\/ev.kd=7\/ev.kd=8\/ev.kd=9\/ev.kd=10\/ev.kd=11\/ev.kd=12\/ev.kd=13;· exact W7 base x ev w g h hbs hm h2
 exact xK base x ev w (by omega) h hbs hm h2
def ye (p:Int×SbX):List Value:=.int .i64 p.1::zK p.2
def jV (p:Int×SbX):Value:=.agg (ye p).toArray
def zY (X:List (Int×SbX)):List (Int×Sb):=X.map fun p=>(p.1,p.2.s)
theorem J9 (p:Int×SbX):∀u∈ye p,u.oneCell'=true:=by
 intro u hu;rcases List.mem_cons.1 hu with rfl|hu;· rfl
 exact VS _ u hu
theorem Tryz.momInfo:(Tryz.prog.info? 239).map (fun i=>(i.zero,i.size,i.bytes))=some (some (.agg #[.int .i64 0,.int .i64 0,.int .i64 0,.int .i64 0,.string ⟨#[]⟩,.slice none 0 0,.slice none 0 0,.bool false,.bool false]),9,104):=by kernel_rfl
def QK (base:Nat) (w:World) (X:List (Int×SbX)):Prop:=∀p∈X,SbO base w p.2
theorem QK.below {base:Nat} {w w':World} {X:List (Int×SbX)} (h:QK base w X) (hb:Below w.heap.size w w'):QK base w' X:=fun p hp=>(h p hp).below hb
theorem SbO.setRow {base:Nat} {w:World} {x:SbX} (h:SbO base w x) {g:Nat} {cs:Array Value} {t:TypeId} {fr:Nat×Nat} (hg:w.heap[g]?=some (.cells cs t fr)) (ht:t≠9) (cs':Array Value):SbO base (w.setRow g cs') x:=
 ⟨zt h.row (zk h.row hg ht) _,h.na,h.nn,h.nc,h.nus,h.plan,h.sizes⟩
theorem SbO.grow {base base':Nat} {w w':World} {x:SbX} (h:SbO base w x) {v:Value} {n:Nat} {xs:List Value} (ho:w.ownsRow base' 239 9 v n xs) (hg:w.grownBy w' v.ownBlock):SbO base w' x:=
 ⟨vw h.row hg (yk h.row ho (by decide)),h.na,h.nn,h.nc,h.nus,h.plan,h.sizes⟩
def MmsTo (M:List (Int×Sb)) (w:World) (e:Ending) (w':World):Prop:=∃(a:Option Addr) (c:Nat) (X:List (Int×SbX)),e=.returned (.slice a X.length c)/\w'.ownsRow w.heap.size 239 9 (.slice a X.length c) X.length (X.flatMap ye)/\zY X=M/\QK w.heap.size w' X/\Below w.heap.size w w'
structure MomR (w:World) (X:List (Int×SbX)) (xs:SbX) (vo:Value) (wr:World):Prop where
 own:wr.ownsRow w.heap.size 239 9 vo X.length (X.flatMap ye)
 ok:QK w.heap.size wr X
 row:wr.heap[w.heap.size]?=some (.cells (zK xs).toArray 181)
 so:SbO w.heap.size wr xs
 b:Below w.heap.size w wr
theorem MomR.below {w:World} {X:List (Int×SbX)} {xs:SbX} {vo:Value} {wr w':World} (h:MomR w X xs vo wr) (hb:Below wr.heap.size wr w'):MomR w X xs vo w':=
 ⟨zd h.own hb,h.ok.below hb,(hb.block _ (zu h.row)).trans h.row,h.so.below hb,h.b.trans (hb.mono h.b.size)⟩
theorem MomR.var {w:World} {X:List (Int×SbX)} {xs x':SbX} {vo:Value} {wr:World} (h:MomR w X xs vo wr) (hx:SbO w.heap.size wr x'):MomR w X x' vo (wr.setRow w.heap.size (zK x').toArray):=
 ⟨zt h.own (zk h.own h.row (by decide)) _,fun p hp=>(h.ok p hp).setRow h.row (by decide) _,setRow_heap wr _ _ _ _ _ h.row,hx.setRow h.row (by decide) _,zj h.b (Nat.le_refl _) _⟩
theorem MomR.turn {w:World} {X X':List (Int×SbX)} {xs:SbX} {vo v':Value} {V w5:World} (h:MomR w X xs vo V) (hg:V.grownBy w5 vo.ownBlock) (ho:w5.ownsRow w.heap.size 239 9 v' X'.length (X'.flatMap ye)) (hX:∀p∈X',p∈X\/p.2=xs):MomR w X' xs v' w5:=
 ⟨ho,fun p hp=>by
  rcases hX p hp with hp|hp;· exact(h.ok p hp).grow h.own hg
  rw[hp];exact h.so.grow h.own hg,(hg.block _ (zu h.row) (fun e=>zk h.own h.row (by decide) e.symm)).trans h.row,h.so.grow h.own hg,h.b.grown hg h.b.size (fun g hg'=>(zg h.own g hg').1)⟩
theorem yS (X:List (Int×SbX)):(zY X).length=X.length:=List.length_map _
theorem qy (X:List (Int×SbX)) (p:Int×SbX):zY (X++[p])=zY X++[(p.1,p.2.s)]:=by unfold zY;rw[List.map_append];rfl
theorem J3 (n:Int) (l:List Ev):∀k,k<=l.length->(momF n (l.take k)).2.prs.length<=k
 |0,_=>by rw[List.take_zero];exact Nat.le_refl _
 |k+1,hk=>by
   rw[kC n l k (by omega)];have ih:=J3 n l k (by omega);generalize l[k]'(by omega)=e;unfold kV;split;· omega
   dsimp only;have a3:=Yn (momF n (l.take k)).2.prs e.nm;have a4:=ja (momF n (l.take k)).2.prs e.nm;unfold yN
   repeat' split
   all_goals (try dsimp only)
   all_goals first|omega|exact Nat.zero_le _
theorem Jd (v:Value) (l:List Ev) (n:Int) (w:World) (h:vE w v l) (hl:l.length<=1000):
 Calls Tryz.prog 179 #[v,.int .i64 n] w (MmsTo (momF n l).1 w):=by
 have HA:=zb h;obtain⟨av,cap,rfl,hcl,hcm⟩:=zq h.1;unfold maxLen at hcm;clear h;go_enter Tryz.func179,Tryz.ntmps179;go_wp2_with fail;go_loopw [5,12] (fun vo i wr=>∃(k:Nat) (X:List (Int×SbX)) (xs:SbX),k<=l.length/\i=.int .i64 k/\RowKit.Hid (zY X=(momF n (l.take k)).1)/\RowKit.Hid (xs.s=(momF n (l.take k)).2)/\MomR w X xs vo wr) (fun _ i _=>l.length-(intOf i).toNat);case atStart=>refine⟨0,[],⟨ZL,none,0,0,none,0,0⟩,Nat.zero_le _,rfl,zb rfl,zb rfl,World.ownsRow_nil _ _ _ _,(fun p hp=>by cases hp),heap_alloc_new _ _,⟨World.ownsRow_nil _ _ _ _,rfl,rfl,rfl,rfl,Nat.zero_le _,(fun p hp=>by cases hp)⟩,(Below.refl _ _).alloc (Nat.le_refl _) _⟩
 case round=>
  obtain⟨wo,rfl⟩:∃wo:World,wo=wr:=⟨_,rfl⟩;obtain⟨k,X,xs,hk,rfl,HP,HS,hR⟩:=hrel;have HR:=zb hR;clear hR;obtain⟨a,cp,rfl,hc1,hc2⟩:=zf HR.out.own;unfold maxLen at hc2;by_cases hlt:k<l.length
  · have hk1:(k:Int)<(l.length:Int):=by omega
    have hk0:(0:Int)<=(k:Int):=Int.natCast_nonneg _;have HMf:=zb (kC n l k hlt);have HEs:=zb (HA.out.2 _ (List.getElem_mem hlt));have HPl:=zb (show xs.s.prs.length<=10000 by
     have:=J3 n l k hk;rw[<-HS.out]at this;omega);have hXl:X.length<=1000:=by
     have h1:=V6 n l k hk;rw[<-HP.out,yS]at h1;omega
    obtain⟨a2,c2,e2,-,-,hx⟩:=(HA.out.below HR.out.b).1;cases e2;obtain⟨bb,o,rfl,hB,hx⟩:=hx (by rintro rfl;cases hlt);have hx:=hx k hlt;have x0:=hx 0 (by decide);have x1:=hx 1 (by decide);have x2:=hx 2 (by decide);have x3:=hx 3 (by decide);have x4:=hx 4 (by decide);have x5:=hx 5 (by decide);have x6:=hx 6 (by decide);clear hx hB;generalize l[k]=e at *;obtain⟨tm,kd,ac,sb,nu,nm,vl⟩:=e;simp only[jt,List.getElem?_cons_zero,List.getElem?_cons_succ,Nat.add_zero]at x0 x1 x2 x3 x4 x5 x6;dsimp only at HEs;obtain⟨Y,hY⟩:∃Y,Y=wo.alloc (Obj.cells #[.int .i64 tm,.int .i64 kd,.int .i64 ac,.int .i64 sb,.string nu,.string nm,.int .i64 vl] 55):=⟨_,rfl⟩;have hbY:Below wo.heap.size wo Y:=by rw[hY];go_grown
    have HYr:=zb (show Y.heap[wo.heap.size]?=some (Obj.cells #[.int .i64 tm,.int .i64 kd,.int .i64 ac,.int .i64 sb,.string nu,.string nm,.int .i64 vl] 55) by rw[hY];exact heap_alloc_new _ _);have HRY:=zb (HR.out.below hbY);have HY:=zb hY;have hwY:wo.heap.size<Y.heap.size:=(zu HYr.out);have hgY:w.heap.size<wo.heap.size:=(zu HR.out.row);clear hbY hY;have y3:=cell_of_row Y _ 3 _ _ _ HYr.out;by_cases hn0:n=0
    · have HE:=zb (HMf.out.trans (kU (Or.inl hn0)))
      have hn1:(n==0)=true:=by simp[hn0]
      clear hn0;go_upto_region 6 with(fail);rw[<-HY.out];go_wp2;exact⟨⟨k+1,X,xs,by omega,by go_num,zb (HP.out.trans (by rw[HE.out])),zb (HS.out.trans (by rw[HE.out])),HRY.out⟩,by simp[intOf];omega⟩
    have hn1:(n==0)=false:=by simp[hn0]
    by_cases hsn:sb=n
    · have HE:=zb (HMf.out.trans (Y6 hn0 hsn))
      have hn2:(sb != n)=false:=by simp[hsn]
      clear hn0 hsn;have HNx:=zb (Xd w.heap.size xs ⟨tm,kd,ac,sb,nu,nm,vl⟩ Y HRY.out.so HRY.out.b.size HEs.out.2 HPl.out);have tQ:=fun j=>cell_of_row Y _ j _ _ _ HYr.out;have y0:=tQ 0;have y1:=tQ 1;have y2:=tQ 2;have y4:=tQ 4;have y5:=tQ 5;have y6:=tQ 6;clear tQ;have s0:Y.cell? ⟨w.heap.size,0,none⟩=some (.int .i64 xs.s.id):=cell_of_row Y _ 0 _ _ _ HRY.out.row;have s1:Y.cell? ⟨w.heap.size,1,none⟩=some (.int .i64 xs.s.ac):=cell_of_row Y _ 1 _ _ _ HRY.out.row;have s2:Y.cell? ⟨w.heap.size,2,none⟩=some (.int .i64 xs.s.si):=cell_of_row Y _ 2 _ _ _ HRY.out.row;have s3:Y.cell? ⟨w.heap.size,3,none⟩=some (.string xs.s.plan):=cell_of_row Y _ 3 _ _ _ HRY.out.row;have s4:Y.cell? ⟨w.heap.size,4,none⟩=some (.slice xs.na xs.nn xs.nc):=cell_of_row Y _ 4 _ _ _ HRY.out.row;have s5:Y.cell? ⟨w.heap.size,5,none⟩=some (.slice xs.pa xs.pn xs.pc):=cell_of_row Y _ 5 _ _ _ HRY.out.row;have s6:Y.cell? ⟨w.heap.size,6,none⟩=some (.bool xs.s.su):=cell_of_row Y _ 6 _ _ _ HRY.out.row;have s7:Y.cell? ⟨w.heap.size,7,none⟩=some (.bool xs.s.fa):=cell_of_row Y _ 7 _ _ _ HRY.out.row;go_upto_region 6 with(fail);rw[<-HY.out];go_wp2_with fail;refine HNx.out.mono ?_;rintro e w1 ⟨x',rfl,hx's,hso,hb1⟩;have HS2:=zb (show x'.s=(momF n (l.take (k+1))).2 by rw[HE.out,hx's,HS.out]);have HP2:=zb (show(momF n (l.take (k+1))).1=putM (zY X) tm x'.s by rw[HE.out,hx's,HP.out,HS.out]);have HR1:=zb (HRY.out.below hb1);have HR2:=zb (HR1.out.var hso);have HRo:=zb HR1.out.row;have HY2:=zb (show(w1.setRow w.heap.size (zK x').toArray).heap[wo.heap.size]?=_ from(setRow_other _ _ _ _ (by omega)).trans ((hb1.block _ hwY).trans HYr.out));clear y0 y1 y2 y3 y4 y5 y6 s0 s1 s2 s3 s4 s5 s6 s7 x0 x1 x2 x3 x4 x5 x6 hx's hso hb1;obtain⟨Z,hZ⟩:∃Z,Z=w1.setRow w.heap.size (zK x').toArray:=⟨_,rfl⟩;rw[<-hZ]at HR2 HY2;have HZ:=zb hZ;clear hZ;dsimp only[Act.put];repeat (first|(refine wpList_store_row rfl _ _ _ rfl w.heap.size (zK x').toArray rfl rfl 181 _ HRo.out (by kernel_rfl) rfl (by simp[zK,Value.oneCell']) ?_)|go_step)
      go_upto_region 9 with(fail);rw[<-HZ.out];have z0:=cell_of_row Z _ 0 _ _ _ HY2.out;by_cases hX:X=[]
      · subst hX
        go_big_quiet (fail);clear z0;go_upto_region 11 with(fail);obtain⟨V,hV⟩:∃V,V=Z.drewN nq:=⟨_,rfl⟩;have hbV:Below Z.heap.size Z V:=by rw[hV];exact zH (Below.refl _ _) _
        rw[<-hV];have HRV:=zb (HR2.out.below hbV);have HYV:=zb ((hbV.block _ (zu HY2.out)).trans HY2.out);clear hV hbV;have e0:=cell_of_row V _ 0 _ _ _ HYV.out;have s0:V.cell? ⟨w.heap.size,0,none⟩=some (.int .i64 x'.s.id):=cell_of_row V _ 0 _ _ _ HRV.out.row;have s1:V.cell? ⟨w.heap.size,1,none⟩=some (.int .i64 x'.s.ac):=cell_of_row V _ 1 _ _ _ HRV.out.row;have s2:V.cell? ⟨w.heap.size,2,none⟩=some (.int .i64 x'.s.si):=cell_of_row V _ 2 _ _ _ HRV.out.row;have s3:V.cell? ⟨w.heap.size,3,none⟩=some (.string x'.s.plan):=cell_of_row V _ 3 _ _ _ HRV.out.row;have s4:V.cell? ⟨w.heap.size,4,none⟩=some (.slice x'.na x'.nn x'.nc):=cell_of_row V _ 4 _ _ _ HRV.out.row;have s5:V.cell? ⟨w.heap.size,5,none⟩=some (.slice x'.pa x'.pn x'.pc):=cell_of_row V _ 5 _ _ _ HRV.out.row;have s6:V.cell? ⟨w.heap.size,6,none⟩=some (.bool x'.s.su):=cell_of_row V _ 6 _ _ _ HRV.out.row;have s7:V.cell? ⟨w.heap.size,7,none⟩=some (.bool x'.s.fa):=cell_of_row V _ 7 _ _ _ HRV.out.row;have HX:=zb (zi.one (c:=ye) (sz:=9) V (tm,x') 239 #[.int .i64 tm,.int .i64 x'.s.id,.int .i64 x'.s.ac,.int .i64 x'.s.si,.string x'.s.plan,.slice x'.na x'.nn x'.nc,.slice x'.pa x'.pn x'.pc,.bool x'.s.su,.bool x'.s.fa] rfl);have HRW:=zb (HRV.out.below ((Below.refl V.heap.size V).alloc (Nat.le_refl _) (Obj.cells #[.int .i64 tm,.int .i64 x'.s.id,.int .i64 x'.s.ac,.int .i64 x'.s.si,.string x'.s.plan,.slice x'.na x'.nn x'.nc,.slice x'.pa x'.pn x'.pc,.bool x'.s.su,.bool x'.s.fa] 239)));have hVs:=HRV.out.b.size;go_wp2_with (at_builtin;refine zX (c:=ye) (sz:=9) (fun _=>rfl) J9 239 236 _ 104 Tryz.underlying236 Tryz.momInfo rfl (by decide) rfl _ _ rfl w.heap.size ?hs _ _ [] [(tm,x')] rfl rfl HRW.out.own HX.out ?hl ?hb ?_);case hs=>simp;omega
        case hl=>unfold maxLen;simp<;>omega
        case hb=>simp<;>omega
        intro R hR v5 w5 own5 hg5;have HRe:=zb (show R=([]:List (Int×SbX))++[(tm,x')] by rw[hR.out];first|rfl|simp);have HRf:=zb (HRW.out.turn hg5 own5 (fun p hp=>by
         rw[HRe.out]at hp;rcases List.mem_append.1 hp with hp|hp;· exact Or.inl hp
         rw[List.mem_singleton.1 hp];exact Or.inr rfl));have HPf:=zb (show zY R=(momF n (l.take (k+1))).1 by rw[HP2.out,HRe.out];exact rfl);clear own5 hg5 hR e0 s0 s1 s2 s3 s4 s5 s6 s7 hVs;go_wp2;exact⟨⟨k+1,R,x',by omega,by go_num,HPf,HS2,HRf.out⟩,by simp[intOf];omega⟩
      obtain⟨K,q,rfl⟩:∃K q,X=K++[q]:=⟨_,_,(List.dropLast_concat_getLast hX).symm⟩;obtain⟨q1,q2⟩:=q;clear hX;obtain⟨g0,rfl,hln,hgB,hgl,hown,hcell⟩:=kz (c:=ye) (sz:=9) (fun _=>rfl) HR2.out.own;have HR2:=zb (show MomR w (K++[(q1,q2)]) x' (.slice (some ⟨g0,0,none⟩) (K.length+1) cp) Z by have h:=HR2.out;rwa[hln]at h);have HownM:=zb hown;have z1:Z.cell? ⟨g0,K.length*9,none⟩=some (.int .i64 q1):=hcell 0 (by decide);rw[hln]at hXl hc1⊢;have hj1:IntKind.i64.wrap ((K.length:Int)+1-1)=(K.length:Int):=by rw[Int.add_sub_cancel];exact IntWalk.i64_in _ (by omega)
      have hj2:(0:Int)<(K.length:Int)+1:=by omega
      have hj3:((K.length:Int)+1).toNat=K.length+1:=by omega
      have hj4:IntKind.i64.wrap (K.length:Int)=(K.length:Int):=IntWalk.i64_in _ (by omega);have hj5:(0:Int)<=(K.length:Int):=Int.natCast_nonneg _;have hj6:(K.length:Int)<(K.length:Int)+1:=by omega
      have J:=zb (And.intro hj1 (And.intro hj2 (And.intro hj3 (And.intro hj4 (And.intro hj5 hj6)))));have Hln:=zb hln;clear hown hcell hln;by_cases hq:q1=tm
      · have hq2:(q1==tm)=true:=by rw[hq];exact beq_self_eq_true _
        have Hq:=zb hq;clear hq;go_big_quiet (fail);clear hj1 hj2 hj3 hj4 hj5 hj6 z0 z1;go_upto_region 10 with(fail);obtain⟨V,hV⟩:∃V,V=Z.drewN nq:=⟨_,rfl⟩;have hbV:Below Z.heap.size Z V:=by rw[hV];exact zH (Below.refl _ _) _
        rw[<-hV];have HRV:=zb (HR2.out.below hbV);have HoV:=zb (zd HownM.out hbV);clear hV hbV;have s0:V.cell? ⟨w.heap.size,0,none⟩=some (.int .i64 x'.s.id):=cell_of_row V _ 0 _ _ _ HRV.out.row;have s1:V.cell? ⟨w.heap.size,1,none⟩=some (.int .i64 x'.s.ac):=cell_of_row V _ 1 _ _ _ HRV.out.row;have s2:V.cell? ⟨w.heap.size,2,none⟩=some (.int .i64 x'.s.si):=cell_of_row V _ 2 _ _ _ HRV.out.row;have s3:V.cell? ⟨w.heap.size,3,none⟩=some (.string x'.s.plan):=cell_of_row V _ 3 _ _ _ HRV.out.row;have s4:V.cell? ⟨w.heap.size,4,none⟩=some (.slice x'.na x'.nn x'.nc):=cell_of_row V _ 4 _ _ _ HRV.out.row;have s5:V.cell? ⟨w.heap.size,5,none⟩=some (.slice x'.pa x'.pn x'.pc):=cell_of_row V _ 5 _ _ _ HRV.out.row;have s6:V.cell? ⟨w.heap.size,6,none⟩=some (.bool x'.s.su):=cell_of_row V _ 6 _ _ _ HRV.out.row;have s7:V.cell? ⟨w.heap.size,7,none⟩=some (.bool x'.s.fa):=cell_of_row V _ 7 _ _ _ HRV.out.row;obtain⟨so,sg⟩:=qI (zK x') _ (K.length*9+1) _ HoV.out;rw[js (c:=ye) (sz:=9) (fun _=>rfl) K (q1,q2) (q1,x') 1 (zK x') rfl rfl]at so;have SO:=zb (show(V.setCells g0 (K.length*9+1) (zK x')).ownsRow w.heap.size 239 9 (.slice (some ⟨g0,0,none⟩) (K.length+1) cp) (K++[(q1,x')]).length ((K++[(q1,x')]).flatMap ye) by rw[List.length_append,List.length_singleton];exact so);have HRf:=zb (HRV.out.turn sg SO.out (fun p hp=>by
         rcases List.mem_append.1 hp with hp|hp;· exact Or.inl (List.mem_append_left _ hp)
         rw[List.mem_singleton.1 hp];exact Or.inr rfl));have HTh:=zb (kS HoV.out (K.length*9+1) 8 (by omega));have HPf:=zb (show zY (K++[(q1,x')])=(momF n (l.take (k+1))).1 by
         have e:=Hq.out;rw[HP2.out,qy,qy,e];exact(X9 (zY K) q2.s x'.s tm).symm);obtain⟨hj1,hj2,hj3,hj4,hj5,hj6⟩:=J.out;clear so sg;obtain⟨V2,hV2⟩:∃V2,V2=V.setCells g0 (K.length*9+1) (zK x').toArray.toList:=⟨_,rfl⟩;have HRf2:=zb (show MomR w (K++[(q1,x')]) x' (.slice (some ⟨g0,0,none⟩) (K.length+1) cp) V2 by rw[hV2];exact HRf.out);have HV2:=zb hV2;clear hV2 HRf SO;repeat (first|((refine wpList_store_mid rfl _ _ _ rfl g0 (K.length*9+1) (zK x').toArray rfl rfl HTh.out (by kernel_rfl) (by simp[zK,Value.oneCell']) ?_);rw[<-HV2.out];clear hj1 hj2 hj3 hj4 hj5 hj6 s0 s1 s2 s3 s4 s5 s6 s7)|go_step)
        exact⟨⟨k+1,K++[(q1,x')],x',by omega,by go_num,HPf,HS2,HRf2.out⟩,by simp[intOf];omega⟩
      have hq2:(q1==tm)=false:=beq_eq_false_iff_ne.2 hq;have Hq:=zb hq;clear hq;go_big_quiet (fail);clear hj1 hj2 hj3 hj4 hj5 hj6 z0 z1;go_upto_region 11 with(fail);obtain⟨V,hV⟩:∃V,V=Z.drewN nq:=⟨_,rfl⟩;have hbV:Below Z.heap.size Z V:=by rw[hV];exact zH (Below.refl _ _) _
      rw[<-hV];have HRV:=zb (HR2.out.below hbV);have HYV:=zb ((hbV.block _ (zu HY2.out)).trans HY2.out);clear hV hbV;have e0:=cell_of_row V _ 0 _ _ _ HYV.out;have s0:V.cell? ⟨w.heap.size,0,none⟩=some (.int .i64 x'.s.id):=cell_of_row V _ 0 _ _ _ HRV.out.row;have s1:V.cell? ⟨w.heap.size,1,none⟩=some (.int .i64 x'.s.ac):=cell_of_row V _ 1 _ _ _ HRV.out.row;have s2:V.cell? ⟨w.heap.size,2,none⟩=some (.int .i64 x'.s.si):=cell_of_row V _ 2 _ _ _ HRV.out.row;have s3:V.cell? ⟨w.heap.size,3,none⟩=some (.string x'.s.plan):=cell_of_row V _ 3 _ _ _ HRV.out.row;have s4:V.cell? ⟨w.heap.size,4,none⟩=some (.slice x'.na x'.nn x'.nc):=cell_of_row V _ 4 _ _ _ HRV.out.row;have s5:V.cell? ⟨w.heap.size,5,none⟩=some (.slice x'.pa x'.pn x'.pc):=cell_of_row V _ 5 _ _ _ HRV.out.row;have s6:V.cell? ⟨w.heap.size,6,none⟩=some (.bool x'.s.su):=cell_of_row V _ 6 _ _ _ HRV.out.row;have s7:V.cell? ⟨w.heap.size,7,none⟩=some (.bool x'.s.fa):=cell_of_row V _ 7 _ _ _ HRV.out.row;have HX:=zb (zi.one (c:=ye) (sz:=9) V (tm,x') 239 #[.int .i64 tm,.int .i64 x'.s.id,.int .i64 x'.s.ac,.int .i64 x'.s.si,.string x'.s.plan,.slice x'.na x'.nn x'.nc,.slice x'.pa x'.pn x'.pc,.bool x'.s.su,.bool x'.s.fa] rfl);have HRW:=zb (HRV.out.below ((Below.refl V.heap.size V).alloc (Nat.le_refl _) (Obj.cells #[.int .i64 tm,.int .i64 x'.s.id,.int .i64 x'.s.ac,.int .i64 x'.s.si,.string x'.s.plan,.slice x'.na x'.nn x'.nc,.slice x'.pa x'.pn x'.pc,.bool x'.s.su,.bool x'.s.fa] 239)));have hVs:=HRV.out.b.size;go_wp2_with (at_builtin;refine zX (c:=ye) (sz:=9) (fun _=>rfl) J9 239 236 _ 104 Tryz.underlying236 Tryz.momInfo rfl (by decide) rfl _ _ rfl w.heap.size ?hs _ _ (K++[(q1,q2)]) [(tm,x')] rfl rfl HRW.out.own HX.out ?hl ?hb ?_);case hs=>simp;omega
      case hl=>unfold maxLen;simp<;>omega
      case hb=>simp<;>omega
      intro R hR v5 w5 own5 hg5;have HRe:=zb (show R=(K++[(q1,q2)])++[(tm,x')] by rw[hR.out];first|rfl|simp);have HRf:=zb (HRW.out.turn hg5 own5 (fun p hp=>by
       rw[HRe.out]at hp;rcases List.mem_append.1 hp with hp|hp;· exact Or.inl hp
       rw[List.mem_singleton.1 hp];exact Or.inr rfl));have HPf:=zb (show zY R=(momF n (l.take (k+1))).1 by rw[HP2.out,HRe.out,qy,qy];exact(X8 (zY K) (q1,q2.s) tm x'.s Hq.out).symm);clear own5 hg5 hR e0 s0 s1 s2 s3 s4 s5 s6 s7 hVs;go_wp2;exact⟨⟨k+1,R,x',by omega,by go_num,HPf,HS2,HRf.out⟩,by simp[intOf];omega⟩
    have HE:=zb (HMf.out.trans (kU (Or.inr hsn)));have hn2:(sb != n)=true:=by simp[hsn]
    clear hn0 hsn;go_upto_region 6 with(fail);rw[<-HY.out];go_wp2;exact⟨⟨k+1,X,xs,by omega,by go_num,zb (HP.out.trans (by rw[HE.out])),zb (HS.out.trans (by rw[HE.out])),HRY.out⟩,by simp[intOf];omega⟩
  have HE:=zb (show(momF n (l.take k)).1=(momF n l).1 by rw[List.take_of_length_le (by omega)]);go_wp2;go_ret;exact⟨a,cp,X,rfl,HR.out.own,HP.out.trans HE.out,HR.out.ok,HR.out.b⟩
end Go.Proofs.YtngippiilgdnoaaGreat
namespace Go.Proofs.YtngippiilgdnoaaGreat
open Go.RowKit
open Go.RowKit
abbrev Du:=Int×(Int×Int)
def befD (x y:Du):Prop:=x.2.2<y.2.2\/(x.2.2=y.2.2/\x.1<y.1)
instance befDDec (x y:Du):Decidable (befD x y):=inferInstanceAs (Decidable (_\/(_/\_)))
theorem JN {a b:Du} (h1:befD a b) (h2:befD b a):False:=by unfold befD at h1 h2;omega
noncomputable def moOf (a t:Int):Int:=by classical exact if h:∃m,IsMo a t m then h.choose else 0
theorem jq {a t:Int} (h0:0<=t) (h1:t<12622780800):IsMo a t (moOf a t):=by
 classical
 unfold moOf;rw[dif_pos (IsMo.ex a t h0 h1)];exact(IsMo.ex a t h0 h1).choose_spec
theorem Gr {a:Int} (ha:1<=a) (hb:a<=28) (lo hi:Int):(cycL a lo hi).Pairwise fun c d=>c.2<=d.1:=by unfold cycL;rw[List.pairwise_map];refine List.Pairwise.imp (fun {i j} hij=>?_) (List.pairwise_lt_range (n:=(hi+1-lo).toNat));exact vN ha hb (by omega)
def IsDue (l:List Ev) (a b:Int) (d:Du):Prop:=∃e∈l,e.kd=1/\e.ac=d.1/\∃m,-1<=m/\m<=4799/\d.2=cyc e.vl m/\xL e.tm (xT l e.ac) d.2=true/\a<d.2.2/\d.2.2<=b
structure QP (l:List Ev) (a b:Int) (D:List Du):Prop where
 srt:D.Pairwise befD
 mem:∀d,d∈D↔IsDue l a b d
theorem QP.one {l:List Ev} {a b:Int} {D E:List Du} (h:QP l a b D) (g:QP l a b E):D=E:=by
 have nd:∀{D:List Du},D.Pairwise befD->D.Nodup:=fun h=>h.imp fun {x y} h e=>by subst e;exact JN h h
 refine List.Perm.eq_of_pairwise (le:=befD) (fun a b _ _ x y=>(JN x y).elim) h.srt g.srt ?_;rw[List.perm_ext_iff_of_nodup (nd h.srt) (nd g.srt)];intro d;rw[h.mem,g.mem]
theorem QP.append {l:List Ev} {a b c:Int} {D E:List Du} (hab:a<=b) (hbc:b<=c) (h:QP l a b D) (g:QP l b c E):QP l a c (D++E):=by
 constructor
 · refine List.pairwise_append.2 ⟨h.srt,g.srt,fun x hx y hy=>?_⟩
   obtain⟨_,_,_,_,_,_,_,_,_,_,h1⟩:=(h.mem x).1 hx;obtain⟨_,_,_,_,_,_,_,_,_,h2,_⟩:=(g.mem y).1 hy;exact Or.inl (by omega)
 intro d;rw[List.mem_append,h.mem,g.mem];constructor
 · rintro(⟨e,h1,h2,h3,m,h4,h5,h6,h7,h8,h9⟩|⟨e,h1,h2,h3,m,h4,h5,h6,h7,h8,h9⟩)
   · exact⟨e,h1,h2,h3,m,h4,h5,h6,h7,h8,by omega⟩
   exact⟨e,h1,h2,h3,m,h4,h5,h6,h7,by omega,h9⟩
 rintro⟨e,h1,h2,h3,m,h4,h5,h6,h7,h8,h9⟩;by_cases hb:d.2.2<=b;· exact Or.inl ⟨e,h1,h2,h3,m,h4,h5,h6,h7,h8,hb⟩
 exact Or.inr ⟨e,h1,h2,h3,m,h4,h5,h6,h7,by omega,h9⟩
end Go.Proofs.YtngippiilgdnoaaGreat
