/-
  Arguments that are events, opened; arrays of three numbers.
-/
import Derived.Test.YtngippiilgdnoaaGreatMhau
import Derived.Test.YtngippiilgdnoaaGreatMham
set_option maxRecDepth 100000
set_option maxHeartbeats 25600000
namespace Go.Proofs.YtngippiilgdnoaaGreat
open Go.ChangeShapes Go.WideShapes Go.ChangeAt Go.RowKit Go.Deep
theorem Tryz.eventCells:Tryz.prog.cellsOf 55=7:=by kernel_rfl
theorem Tryz.textCells17:Tryz.prog.cellsOf 9=1:=by kernel_rfl
def EvR (w:World) (b o:Nat) (e:Ev):Prop:=RecR jt 7 w b o e/\e.nu.size<=maxLen/\e.nm.size<=maxLen
section
variable {H:Type} {enc:TypeId×Value->H}
theorem xP {W:World} {sp:Nat->Bool} {fuel:Nat} {v:Value} {x:DataW H×List MemPlace} (h:DataW.trod enc Tryz.prog W 0 sp true fuel 22 [v]=some x):∃l,vE W v l:=by
 obtain⟨l,hl⟩:=JY (R:=EvR) (c:=7) Tryz.underlying22 Tryz.eventCells (by omega) h fun b o cs n y hl hc ht=>by
  obtain⟨tm,e0,-⟩:=zG Tryz.underlying55 ht Tryz.underlying3 Tryz.intCells2 0 0 rfl;obtain⟨kd,e1,-⟩:=zG Tryz.underlying55 ht Tryz.underlying3 Tryz.intCells2 1 1 rfl;obtain⟨ac,e2,-⟩:=zG Tryz.underlying55 ht Tryz.underlying3 Tryz.intCells2 2 2 rfl;obtain⟨sb,e3,-⟩:=zG Tryz.underlying55 ht Tryz.underlying3 Tryz.intCells2 3 3 rfl;obtain⟨nu,e4,s4⟩:=qG Tryz.underlying55 ht Tryz.underlying9 Tryz.textCells17 4 4 rfl;obtain⟨nm,e5,s5⟩:=qG Tryz.underlying55 ht Tryz.underlying9 Tryz.textCells17 5 5 rfl;obtain⟨vl,e6,-⟩:=zG Tryz.underlying55 ht Tryz.underlying3 Tryz.intCells2 6 6 rfl
  match cs,hl with
  | [v0,v1,v2,v3,v4,v5,v6],_=>simp only[List.drop,List.take,List.cons.injEq,and_true]at e0 e1 e2 e3 e4 e5 e6;subst e0;subst e1;subst e2;subst e3;subst e4;subst e5;subst e6;exact⟨⟨tm,kd,ac,sb,nu,nm,vl⟩,fun j hj=>hc j hj,s4,s5⟩
 obtain⟨av,cap,e,hlc,hm,hx⟩:=hl;refine⟨l,⟨av,cap,e,hlc,hm,fun hne=>?_⟩,fun r hr=>?_⟩
 · obtain⟨b,o,e2,hB,hx⟩:=hx hne
   exact⟨b,o,e2,hB,fun i hi=>(hx i hi).1⟩
 obtain⟨i,hi,rfl⟩:=List.mem_iff_getElem.1 hr;obtain⟨b,o,-,-,hx⟩:=hx (List.ne_nil_of_mem hr);exact(hx i hi).2
end
end Go.Proofs.YtngippiilgdnoaaGreat
