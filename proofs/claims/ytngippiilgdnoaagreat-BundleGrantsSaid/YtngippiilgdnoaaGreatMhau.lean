/-
  A slice that came in reads as a list, where each of its elements reads.
-/
import Derived.Test.YtngippiilgdnoaaGreatMhae
import Derived.Test.YtngippiilgdnoaaGreatMhag
set_option maxRecDepth 100000
set_option maxHeartbeats 25600000
namespace Go.Proofs.YtngippiilgdnoaaGreat
open Go.ChangeShapes Go.WideShapes Go.ChangeAt Go.RowKit Go.Deep
section
variable {H:Type} {enc:TypeId×Value->H}
theorem JY {α:Type} {R:World->Nat->Nat->α->Prop} {P:Program} {W:World} {sp:Nat->Bool} {fuel c:Nat} {T E:TypeId} {v:Value} {x:DataW H×List MemPlace} (hT:P.underlying T=some (.slice E)) (hc:P.cellsOf E=c) (hc0:0<c) (h:DataW.trod enc P W 0 sp true fuel T [v]=some x)
 (hR:∀b o cs n y,cs.length=c->(∀j,j<c->W.cell? ⟨b,o+j,none⟩=cs[j]?)->DataW.trod enc P W 0 sp true n E cs=some y->∃a,R W b o a):∃l,zz c R W v l:=by
 have hcap:∃(av:Option Addr) (len cap:Nat),v=.slice av len cap/\(av=none->cap=0):=by
  rcases open_slice hT h with⟨hv,-⟩|⟨a,len,cap,m,n,D,Pl,hv,-⟩
  · simp only[List.cons.injEq,and_true]at hv
    exact⟨none,0,0,hv,fun _=>rfl⟩
  simp only[List.cons.injEq,and_true]at hv;exact⟨some a,len,cap,hv,fun h=>by cases h⟩
 obtain⟨av,len,cap,rfl,hl,hm,hx⟩:=YW hT hc hc0 h;obtain⟨av',len',cap',he,hok⟩:=hcap;simp only[Value.slice.injEq]at he;obtain⟨rfl,rfl,rfl⟩:=he;by_cases h0:0<len
 · obtain⟨b,off,rfl,hB,hx⟩:=hx h0
   have each:∀i,i<len->∃s:α,R W b (off+i*c) s:=by intro i hi;obtain⟨cs,n,y,hlen,hcell,ht⟩:=hx i hi;exact hR b (off+i*c) cs n y hlen hcell ht
   obtain⟨a0,-⟩:=each 0 h0
   haveI:Inhabited α:=⟨a0⟩
   obtain⟨q,hq⟩:=choose_lt each;refine⟨(List.range len).map q,some ⟨b,off,none⟩,cap,by simp,by simp;omega,⟨hm,hok⟩,fun _=>⟨b,off,rfl,hB,fun i hi=>?_⟩⟩;simp only[List.getElem_map,List.getElem_range];exact hq i (by simpa using hi)
 obtain rfl:len=0:=by omega
 exact⟨[],av,cap,rfl,Nat.zero_le _,⟨hm,hok⟩,fun h=>absurd rfl h⟩
end
end Go.Proofs.YtngippiilgdnoaaGreat
