/-
  An argument that is a slice of products, opened.
-/
import Derived.Test.YtngippiilgdnoaaGreatMhae
import Derived.Test.YtngippiilgdnoaaGreatMhbc
set_option maxRecDepth 100000
set_option maxHeartbeats 25600000
namespace Go.Proofs.YtngippiilgdnoaaGreat
open Go.ChangeShapes Go.WideShapes Go.ChangeAt Go.RowKit Go.Deep
theorem Tryz.bundleCells:Tryz.prog.cellsOf 76=6:=by kernel_rfl
theorem Tryz.productCells:Tryz.prog.cellsOf 72=6:=by kernel_rfl
theorem Tryz.intCells1:Tryz.prog.cellsOf 3=1:=by kernel_rfl
theorem Tryz.stringCells1:Tryz.prog.cellsOf 9=1:=by kernel_rfl
theorem Tryz.boolCells:Tryz.prog.cellsOf 4=1:=by kernel_rfl
theorem Tryz.textsCells:Tryz.prog.cellsOf 58=1:=by kernel_rfl
theorem Tryz.bundlesCells:Tryz.prog.cellsOf 70=1:=by kernel_rfl
section
variable {H:Type} {enc:TypeId×Value->H}
theorem VQ {α:Type} {R:World->Nat->Nat->α->Prop} {P:Program} {W:World} {sp:Nat->Bool} {fuel c:Nat} {T E:TypeId} {v:Value} {x:DataW H×List MemPlace} (hT:P.underlying T=some (.slice E)) (hc:P.cellsOf E=c) (hc0:0<c) (h:DataW.trod enc P W 0 sp true fuel T [v]=some x)
 (hR:∀b o cs n y,cs.length=c->(∀j,j<c->W.cell? ⟨b,o+j,none⟩=cs[j]?)->DataW.trod enc P W 0 sp true n E cs=some y->∃a,R W b o a):∃l,zz c R W v l:=by
 have hcap:∃(av:Option Addr) (len cap:Nat),v=.slice av len cap/\(av=none->cap=0):=by
  rcases open_slice hT h with⟨hv,-⟩|⟨a,len,cap,m,n,D,Pl,hv,-⟩
  · simp only[List.cons.injEq,and_true]at hv
    exact⟨none,0,0,hv,fun _=>rfl⟩
  simp only[List.cons.injEq,and_true]at hv;exact⟨some a,len,cap,hv,fun h=>by cases h⟩
 obtain⟨av,len,cap,rfl,hl,hm,hx⟩:=YW hT hc hc0 h;obtain⟨av',len',cap',he,hok⟩:=hcap;simp only[Value.slice.injEq]at he;obtain⟨rfl,rfl,rfl⟩:=he;by_cases h0:0<len
 · obtain⟨b,off,rfl,hB,hx⟩:=hx h0
   have each:∀i,i<len->∃s:α,R W b (off+i*c) s:=by intro i hi;obtain⟨cs,n,y,hlen,hcell,ht⟩:=hx i hi;exact hR b (off+i*c) cs n y hlen hcell ht
   obtain⟨a0,-⟩:=each 0 h0
   haveI:Inhabited α:=⟨a0⟩
   obtain⟨q,hq⟩:=choose_lt each;refine⟨(List.range len).map q,some ⟨b,off,none⟩,cap,by simp,by simp;omega,⟨hm,hok⟩,fun _=>⟨b,off,rfl,hB,fun i hi=>?_⟩⟩;simp only[List.getElem_map,List.getElem_range];exact hq i (by simpa using hi)
 obtain rfl:len=0:=by omega
 exact⟨[],av,cap,rfl,Nat.zero_le _,⟨hm,hok⟩,fun h=>absurd rfl h⟩
theorem Np {W:World} {sp:Nat->Bool} {fuel:Nat} {v:Value} {x:DataW H×List MemPlace} (h:DataW.trod enc Tryz.prog W 0 sp true fuel 58 [v]=some x):∃l,zR W v l:=by refine VQ Tryz.underlying58 Tryz.stringCells1 (by omega) h fun b o cs n y hl hc ht=>?_;obtain⟨s,hs,-,hw⟩:=DataW.trod_string Tryz.underlying9 ht;subst hs;exact⟨s,hc 0 (by omega),hw⟩
theorem bd_of {W:World} {sp:Nat->Bool} {b o fuel:Nat} {cs:List Value} {x:DataW H×List MemPlace} (hl:cs.length=6) (hc:∀j,j<6->W.cell? ⟨b,o+j,none⟩=cs[j]?) (h:DataW.trod enc Tryz.prog W 0 sp true fuel 76 cs=some x):∃a,BdR W b o a:=by
 obtain⟨kd,e0,-⟩:=zG Tryz.underlying76 h Tryz.underlying3 Tryz.intCells1 0 0 rfl;obtain⟨n,y,e1⟩:=yV Tryz.underlying76 h 1 1 58 1 rfl Tryz.textsCells;obtain⟨un,e2,-⟩:=zG Tryz.underlying76 h Tryz.underlying3 Tryz.intCells1 2 2 rfl;obtain⟨ro,e3,-⟩:=zG Tryz.underlying76 h Tryz.underlying3 Tryz.intCells1 3 3 rfl;obtain⟨pr,e4,-⟩:=zG Tryz.underlying76 h Tryz.underlying3 Tryz.intCells1 4 4 rfl;obtain⟨sh,e5⟩:=ZE Tryz.underlying76 h Tryz.underlying4 Tryz.boolCells 5 5 rfl
 match cs,hl with
 | [v0,v1,v2,v3,v4,v5],_=>simp only[List.drop,List.take,List.cons.injEq,and_true]at e0 e1 e2 e3 e4 e5;subst e0;subst e2;subst e3;subst e4;subst e5;obtain⟨zs,hz⟩:=Np e1;exact⟨⟨kd,zs,un,ro,pr,sh⟩,hc 0 (by omega),⟨v1,hc 1 (by omega),hz⟩,hc 2 (by omega),hc 3 (by omega),hc 4 (by omega),hc 5 (by omega)⟩
theorem gh {W:World} {sp:Nat->Bool} {fuel:Nat} {v:Value} {x:DataW H×List MemPlace} (h:DataW.trod enc Tryz.prog W 0 sp true fuel 70 [v]=some x):∃l,qR W v l:=
 VQ Tryz.underlying70 Tryz.bundleCells (by omega) h fun _ _ _ _ _ hl hc ht=>bd_of hl hc ht
theorem pd_of {W:World} {sp:Nat->Bool} {b o fuel:Nat} {cs:List Value} {x:DataW H×List MemPlace} (hl:cs.length=6) (hc:∀j,j<6->W.cell? ⟨b,o+j,none⟩=cs[j]?) (h:DataW.trod enc Tryz.prog W 0 sp true fuel 72 cs=some x):∃a,PdR W b o a:=by
 obtain⟨nm,e0,s0⟩:=qG Tryz.underlying72 h Tryz.underlying9 Tryz.stringCells1 0 0 rfl;obtain⟨fm,e1,-⟩:=zG Tryz.underlying72 h Tryz.underlying3 Tryz.intCells1 1 1 rfl;obtain⟨fe,e2,-⟩:=zG Tryz.underlying72 h Tryz.underlying3 Tryz.intCells1 2 2 rfl;obtain⟨ct,e3,s3⟩:=qG Tryz.underlying72 h Tryz.underlying9 Tryz.stringCells1 3 3 rfl;obtain⟨pro,e4⟩:=ZE Tryz.underlying72 h Tryz.underlying4 Tryz.boolCells 4 4 rfl;obtain⟨n,y,e5⟩:=yV Tryz.underlying72 h 5 5 70 1 rfl Tryz.bundlesCells
 match cs,hl with
 | [v0,v1,v2,v3,v4,v5],_=>simp only[List.drop,List.take,List.cons.injEq,and_true]at e0 e1 e2 e3 e4 e5;subst e0;subst e1;subst e2;subst e3;subst e4;obtain⟨bs,hb⟩:=gh e5;exact⟨⟨nm,fm,fe,ct,pro,bs⟩,⟨hc 0 (by omega),s0⟩,hc 1 (by omega),hc 2 (by omega),⟨hc 3 (by omega),s3⟩,hc 4 (by omega),v5,hc 5 (by omega),hb⟩
theorem xJ {W:World} {sp:Nat->Bool} {fuel:Nat} {v:Value} {x:DataW H×List MemPlace} (h:DataW.trod enc Tryz.prog W 0 sp true fuel 23 [v]=some x):∃l,qu W v l:=
 VQ Tryz.underlying23 Tryz.productCells (by omega) h fun _ _ _ _ _ hl hc ht=>pd_of hl hc ht
end
end Go.Proofs.YtngippiilgdnoaaGreat
