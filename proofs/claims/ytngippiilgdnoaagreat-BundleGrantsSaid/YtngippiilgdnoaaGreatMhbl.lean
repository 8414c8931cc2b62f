/-
  The walks of the program's Cover, Minus and Common.
-/
import Derived.Test.YtngippiilgdnoaaGreatMhak
import Derived.Test.YtngippiilgdnoaaGreatMhbk
import Derived.Shelf.SlSortCmp.NoneTotal
set_option maxRecDepth 100000
set_option maxHeartbeats 25600000
namespace Go.Proofs.YtngippiilgdnoaaGreat
open Go.RowKit Go.Sort
def ChT:Type:={ c:Int×Int×Int // 0<=c.1/\c.1<=12622780800 }
instance chInh:Inhabited ChT:=⟨⟨(0,0,0),by decide⟩⟩
def jH (c:ChT):List Value:=jK c.1
def Vg (x y:ChT):Int:=x.1.1-y.1.1
theorem Wt (x y:ChT):Go.Proofs.ltOf Vg x y=decide (x.1.1<y.1.1):=by unfold Go.Proofs.ltOf Vg;exact decide_eq_decide.2 (by omega)
theorem xV:SWO (Go.Proofs.ltOf Vg) where
 irrefl x:=by rw[Wt];simp
 trans x y z h1 h2:=by rw[Wt]at *;simp at *;omega
 ntrans x y z h1 h2:=by rw[Wt]at *;simp at *;omega
theorem EL (x:ChT):(jH x).length=3:=rfl
theorem xW (x:ChT):∀v∈jH x,v.oneCell'=true:=by intro v hv;simp[jH,jK]at hv;rcases hv with rfl|rfl|rfl<;>rfl
theorem NU (L:List (Int×Int×Int)) (h:∀c∈L,0<=c.1/\c.1<=12622780800):∃d:Array ChT,d.toList.map (·.1)=L:=by
 induction L with
 |nil=>exact⟨#[],rfl⟩
 |cons c r ih=>obtain⟨d,hd⟩:=ih fun x hx=>h x (by simp[hx]);exact⟨(⟨c,h c (by simp)⟩::d.toList).toArray,by show c::d.toList.map (·.1)=c::r;rw[hd]⟩
theorem Ey (d:Array ChT) (j:Nat) (hj:j<(flatK jH 3 d).size):some (flatK jH 3 d)[j]! = ((d.toList.map (·.1)).flatMap jK)[j]?:=by
 rw[size_flatK]at hj;rw[get_flatK _ _ _ _ hj];have h1:j / 3<d.size:=by omega
 have h2:=vJ jK 3 (fun _=>rfl) (d.toList.map (·.1)) (j / 3) (j % 3) (by simpa using h1) (by omega);rw[show j / 3*3+j % 3=j by omega]at h2;rw[h2];simp only[List.getElem_map];rw[getElem!_pos d (j / 3) h1,Array.getElem_toList];have h3:j % 3<(jH d[j / 3]).length:=by rw[EL];omega
 rw[show jK (d[j / 3]).1=jH d[j / 3] from rfl,List.getElem!_eq_getElem?_getD,List.getElem?_eq_getElem h3];rfl
theorem EM {w:World} {base:Nat} {e:TypeId} {g cap:Nat} {L:List (Int×Int×Int)} (d:Array ChT) (hd:d.toList.map (·.1)=L)
 (h:w.ownsRow base e 3 (.slice (some ⟨g,0,none⟩) L.length cap) L.length (L.flatMap jK)):HoldsK jH 3 w g 0 d:=by
 intro j hj;have e1:=Ey d j hj;rw[hd]at e1;have hl:L.length=d.size:=by rw[<-hd];simp
 rw[size_flatK]at hj;refine⟨?_,h.frozenAt _⟩;rw[Nat.zero_add,h.cellAt j (by omega)];exact e1.symm
theorem Gu {w:World} {g cap n:Nat} {os:Array Obj} {d d':Array ChT} (hH:HoldsK jH 3 w g 0 d) (hg:g<w.heap.size) (hc:d.size<=cap) (hm:cap<=maxLen) (hp:PermIn 0 d.size d d') (hs:SortedIn (Go.Proofs.ltOf Vg) 0 d.size d'):
 ∃S:List (Int×Int×Int),S.Perm (d.toList.map (·.1))/\S.Pairwise (fun c e=>c.1<=e.1)/\S.length=d.size/\JR (sortWorldK jH 3 w g 0 n d' os) (.slice (some ⟨g,0,none⟩) d.size cap) S:=by
 have hsz:d'.size=d.size:=hp.1;have hl:(d'.toList.map (·.1)).length=d.size:=by simp[hsz]
 refine⟨d'.toList.map (·.1),?_,?_,hl,?_⟩
 · have h:=hp.2.2
   rw[show d'.extract 0 d.size=d' by rw[<-hsz];simp,show d.extract 0 d.size=d by simp]at h;exact h.map _
 · rw[List.pairwise_iff_getElem]
   intro i j hi hj hij;have hj':j<d'.size:=by simpa using hj
   have hi':i<d'.size:=by omega
   have h:=hs i j (Nat.zero_le _) hij (by omega);rw[Wt,getElem!_pos d' j hj',getElem!_pos d' i hi']at h;simp only[List.getElem_map,Array.getElem_toList];have:=of_decide_eq_false h;omega
 have hH':=Go.Proofs.holdsK_sortWorldK_c jH 3 w g 0 d d' n os hH hg hsz;rw[<-hl];refine⟨some ⟨g,0,none⟩,cap,rfl,by omega,⟨hm,fun h=>by cases h⟩,fun _=>⟨g,0,rfl,Nat.lt_of_lt_of_le hg (Go.Proofs.size_sortWorldK_c jH 3 w g 0 n d' os),fun i hi=>?_⟩⟩;have hi':i<d'.size:=by simpa using hi
 have q0:=(hH'.cell (i:=i) (c:=0) hi' (by omega)).1;have q1:=(hH'.cell (i:=i) (c:=1) hi' (by omega)).1;have q2:=(hH'.cell (i:=i) (c:=2) hi' (by omega)).1;rw[getElem!_pos d' i hi']at q0 q1 q2;simp only[List.getElem_map,Array.getElem_toList];exact⟨q0,q1,q2⟩
theorem EN {w:World} {g n:Nat} {os:Array Obj} (d':Array ChT):w.grownBy (sortWorldK jH 3 w g 0 n d' os) (some g):=by unfold sortWorldK putRowK;refine⟨rfl,rfl,rfl,by simp[Sort.ahead],fun k hk hne=>?_⟩;rw[heap_grow_old _ _ (by simpa [Sort.ahead]using hk)];have:g≠k:=fun e=>hne (by rw[e]);simp[putRow,mapBlock,Sort.ahead,Array.getElem?_modify,this]
theorem EO {w:World} {B g n:Nat} {os:Array Obj} (d':Array ChT) (hB:B<=w.heap.size) (hg:B<=g):Below B w (sortWorldK jH 3 w g 0 n d' os):=
 Below.grown (Below.refl B w) (EN d') hB (fun k hk=>by cases hk;exact hg)
theorem Uz (x y:ChT) (W:World):Calls Tryz.prog 162 #[.agg #[.int .i64 x.1.1,.int .i64 x.1.2.1,.int .i64 x.1.2.2],.agg #[.int .i64 y.1.1,.int .i64 y.1.2.1,.int .i64 y.1.2.2]] W fun e w'=>e=.returned (.int .i64 (Vg x y))/\∃q os',w'=grow (W.drewN q) os':=by have hx:=x.2;have hy:=y.2;have hw:=IntWalk.i64_in (x.1.1-y.1.1) (by omega);have HC:=zb (show Vg x y=x.1.1-y.1.1 from rfl);generalize x.1.1=x1 at *;generalize y.1.1=y1 at *;generalize x.1.2.1=x2 at *;generalize y.1.2.1=y2 at *;generalize x.1.2.2=x3 at *;generalize y.1.2.2=y3 at *;go_enter Tryz.func162,Tryz.ntmps162;go_wp2;go_ret;rw[HC.out];exact⟨rfl,0,_,by rw[alloc_eq_grow,alloc_eq_grow,grow_grow];rfl⟩
theorem Xv (blk off size:Nat) (w:World):Go.Proofs.CmpLays Tryz.prog 162 #[] jH 3 Vg blk off size w:=fun _ _ _ _ x y=>Uz x y _
theorem JW (B:Nat) (w:World) (v:Value) (N:List (Int×Int×Int)) (hown:w.ownsRow B 216 3 v N.length (N.flatMap jK)) (hB:B<=w.heap.size) (hN:∀c∈N,0<=c.1/\c.1<=12622780800) (hl:N.length<=8000):
 Calls Tryz.prog 161 #[v,.func (.func 162) #[] #[]] w (UP B N v w):=by
 by_cases h0:N=[]
 · subst h0
   have hc:JR w v []:=by
    rcases hown.2 with⟨rfl,-⟩|⟨g,cap,cur,rfl,-,-,h1,h2,-⟩;· exact zz.nil w
    exact⟨_,cap,rfl,h1,⟨h2,fun h=>by cases h⟩,fun h=>absurd rfl h⟩
   obtain⟨av,cap,rfl,-,-⟩:=zf hown;have h:=Go.Proofs.AnyF.slices_SortFunc_none Tryz.sortCh av cap (.func (.func 162) #[] #[]) w;change Calls Tryz.prog 161 _ _ _ at h;refine h.mono ?_;rintro e w' ⟨rfl,rfl⟩;exact⟨rfl,Below.refl _ _,[],List.Perm.refl _,List.Pairwise.nil,rfl,hc⟩
 have h2:=hown.2;rcases h2 with⟨-,h2⟩|⟨g,cap,cur,hv,hg,hh,h1,h2,-⟩;· exact absurd (List.length_eq_zero_iff.1 h2) h0
 subst hv;obtain⟨d,hd⟩:=NU N hN;have hsz:N.length=d.size:=by rw[<-hd];simp
 have hlt:=(zu hh);have hH:=EM d hd hown;have eg:∀args w,(callFunc 162 args).run Tryz.prog w=.ok (.enter 162 args) w:=Go.Proofs.enters_of Tryz.func162 (by kernel_rfl) rfl;have h:=Go.Proofs.AnyQ.slices_SortFunc Tryz.sortCh 3 Tryz.isAgg216 Tryz.sizeOf216 jH EL xW Vg xV 162 #[] g 0 cap d w eg (Xv g 0 d.size w) hH hlt (by omega);change Calls Tryz.prog 161 _ _ _ at h;rw[hsz];refine h.mono ?_;rintro e w' ⟨rfl,d',n,os,hp,hs,rfl⟩;obtain⟨S,s1,s2,s3,s4⟩:=Gu (n:=n) (os:=os) hH hlt (by omega) h2 hp hs;rw[hd]at s1;exact⟨rfl,EO d' hB hg,S,s1,s2,by omega,s4⟩
end Go.Proofs.YtngippiilgdnoaaGreat
namespace Go.Proofs.YtngippiilgdnoaaGreat
open Go.RowKit
theorem Nq:Wy:=fun B w v N h1 h2 h3 h4=>JW B w v N h1 h2 h3 h4
theorem NI (x y:Bool) (W:World):Calls Tryz.prog 137 #[.bool x,.bool y] W fun e w'=>e=.returned (.bool x)/\Below W.heap.size W w':=by go_enter Tryz.func137,Tryz.ntmps137;go_wp2;go_ret;exact⟨rfl,Below.refl _ _⟩
theorem Uv (va:Value) (a:List (Int×Int)) (w:World) (ha:yd w va a) (hn:a.length<=2000):
 Calls Tryz.prog 93 #[va] w (jF w (vh a [] true false)):=by
 have H:=zb (Jk Nq va (.slice none 0 0) a [] true false 137 (fun x _=>x) w ha (zz.nil w) (by simpa using hn) (enters_of Tryz.func137 (by kernel_rfl) rfl) NI rfl (fun x y=>by cases x<;>rfl));obtain⟨aa,ca,rfl,-⟩:=ha;go_enter Tryz.func93,Tryz.ntmps93;go_wp2_with fail;refine H.out.mono ?_;rintro e w1 ⟨v1,rfl,hp,hb1⟩;have HP:=zb hp;obtain⟨a1,c1,rfl,-⟩:=hp;go_wp2;go_ret;exact⟨_,rfl,HP.out,hb1⟩
end Go.Proofs.YtngippiilgdnoaaGreat
