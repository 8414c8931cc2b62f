/-
  The case of the laws of chapter 35, opened within the form's reach: events, products, a state, an account; a subscription and a product; a bucket.
-/
import Derived.Test.YtngippiilgdnoaaGreatMhbu
import Derived.Test.YtngippiilgdnoaaGreatMhbv
import Derived.Test.YtngippiilgdnoaaGreatMhbw
import Derived.Test.YtngippiilgdnoaaGreatMhbs
set_option maxRecDepth 100000
set_option maxHeartbeats 25600000
namespace Go.Proofs.YtngippiilgdnoaaGreat
open Go.ChangeShapes Go.WideShapes Go.ChangeAt Go.RowKit Go.Deep
theorem Tryz.caseCells35:Tryz.prog.cellsOf 47=6:=by kernel_rfl
theorem Tryz.eventsCells35:Tryz.prog.cellsOf 22=1:=by kernel_rfl
theorem Tryz.productsCells35:Tryz.prog.cellsOf 23=1:=by kernel_rfl
theorem Tryz.stateCells35:Tryz.prog.cellsOf 45=3:=by kernel_rfl
theorem Tryz.busCells35:Tryz.prog.cellsOf 41=1:=by kernel_rfl
theorem Tryz.walsCells35:Tryz.prog.cellsOf 42=1:=by kernel_rfl
theorem Tryz.cntsCells35:Tryz.prog.cellsOf 43=1:=by kernel_rfl
theorem Tryz.walCells35:Tryz.prog.cellsOf 102=5:=by kernel_rfl
theorem Tryz.cntCells35:Tryz.prog.cellsOf 104=5:=by kernel_rfl
theorem Tryz.buCells35:Tryz.prog.cellsOf 60=12:=by kernel_rfl
theorem Tryz.askCells35:Tryz.prog.cellsOf 78=2:=by kernel_rfl
theorem Tryz.textBytes35:Tryz.prog.bytesOf 9=16:=by kernel_rfl
def BuB (w:World) (b o:Nat) (x:BuX):Prop:=RecR zr 12 w b o x/\BuRd w x/\KeyB x.b
section
variable {H:Type} {enc:TypeId×Value->H}
theorem GP {W:World} {sp:Nat->Bool} {fuel:Nat} {v:Value} {x:DataW H×List MemPlace} (h:DataW.trod enc Tryz.prog W 0 sp true fuel 58 [v]=some x) (hw:j9 Tryz.prog reachBytes 58 x.1):∃l,zR W v l/\l.length*16<=140737488355328:=by
 obtain⟨l,hl,hb⟩:=KT (R:=StrR) (c:=1) Tryz.underlying58 Tryz.stringCells1 (by omega) h hw fun b o cs n y hl hc ht _=>by
  obtain⟨s,hs,-,hw⟩:=DataW.trod_string Tryz.underlying9 ht;subst hs;exact⟨s,hc 0 (by omega),hw⟩
 rw[Tryz.textBytes35]at hb;unfold reachBytes at hb;exact⟨l,hl,by omega⟩
theorem xZ {W:World} {sp:Nat->Bool} {fuel:Nat} {cs:List Value} {x:DataW H×List MemPlace} (hl:cs.length=12) (h:DataW.trod enc Tryz.prog W 0 sp true fuel 60 cs=some x) (hw:j9 Tryz.prog reachBytes 60 x.1):
 ∃z:BuX,cs=zr z/\BuRd W z/\KeyB z.b/\-9223372036854775808<=z.b.un/\z.b.un<=9223372036854775807/\-9223372036854775808<=z.b.lf/\z.b.lf<=9223372036854775807:=by
 obtain⟨ac,e0,b0⟩:=zG Tryz.underlying60 h Tryz.underlying3 Tryz.intCells2 0 0 rfl;obtain⟨sb,e1,b1⟩:=zG Tryz.underlying60 h Tryz.underlying3 Tryz.intCells2 1 1 rfl;obtain⟨ix,e3,b3⟩:=zG Tryz.underlying60 h Tryz.underlying3 Tryz.intCells2 3 3 rfl;obtain⟨kd,e4,b4⟩:=zG Tryz.underlying60 h Tryz.underlying3 Tryz.intCells2 4 4 rfl;obtain⟨un,e7,b7⟩:=zG Tryz.underlying60 h Tryz.underlying3 Tryz.intCells2 7 8 rfl;obtain⟨lf,e8,b8⟩:=zG Tryz.underlying60 h Tryz.underlying3 Tryz.intCells2 8 9 rfl;obtain⟨pt,e9,b9⟩:=zG Tryz.underlying60 h Tryz.underlying3 Tryz.intCells2 9 10 rfl;obtain⟨pr,e2,s2⟩:=qG Tryz.underlying60 h Tryz.underlying9 Tryz.textCells17 2 2 rfl;obtain⟨m5,z5,e5,w5⟩:=ku Tryz.underlying60 h hw 5 5 58 1 rfl Tryz.textsCells;obtain⟨m6,z6,e6⟩:=yV Tryz.underlying60 h 6 6 25 2 rfl Tryz.periodCells;obtain⟨sh,e10⟩:=ZE Tryz.underlying60 h Tryz.underlying4 Tryz.boolCells 10 11 rfl
 match cs,hl with
 | [v0,v1,v2,v3,v4,v5,v6,v7,v8,v9,v10,v11],_=>simp only[List.drop,List.take]at e5 e6;simp only[List.drop,List.take,List.cons.injEq,and_true]at e0 e1 e2 e3 e4 e7 e8 e9 e10;obtain⟨f,t,he,hb,-⟩:=K2 rfl e6;simp only[List.cons.injEq,and_true]at he;obtain⟨rfl,rfl⟩:=he;subst e0;subst e1;subst e2;subst e3;subst e4;subst e7;subst e8;subst e9;subst e10;obtain⟨zs,hz,hzl⟩:=GP e5 w5;have hz2:=hz;obtain⟨za,zc,rfl,-⟩:=hz2;exact⟨⟨⟨ac,sb,pr,ix,kd,zs,f,t,un,lf,pt,sh⟩,za,zs.length,zc⟩,rfl,⟨hz,s2,hzl⟩,⟨wf64 b1.1 b1.2,s2,wf64 b3.1 b3.2,wf64 hb.1 hb.2⟩,b7.1,b7.2,b8.1,b8.2⟩
theorem NV {W:World} {sp:Nat->Bool} {fuel:Nat} {v:Value} {x:DataW H×List MemPlace} (h:DataW.trod enc Tryz.prog W 0 sp true fuel 41 [v]=some x) (hw:j9 Tryz.prog reachBytes 41 x.1):∃X,zi zr 12 W v X/\(∀z∈X,BuRd W z)/\∀z∈X,KeyB z.b:=by
 obtain⟨l,hl,-⟩:=KT (R:=BuB) (c:=12) Tryz.underlying41 Tryz.buCells35 (by omega) h hw fun b o cs n y hl hc ht hwy=>by
  obtain⟨z,rfl,hr,hk,-⟩:=xZ hl ht hwy;exact⟨z,fun j hj=>hc j hj,hr,hk⟩
 obtain⟨av,cap,e,hlc,hm,hx⟩:=hl;have each:∀z∈l,BuRd W z/\KeyB z.b:=fun z hz=>by
  obtain⟨i,hi,rfl⟩:=List.mem_iff_getElem.1 hz;obtain⟨b,o,-,-,hx⟩:=hx (List.ne_nil_of_mem hz);exact(hx i hi).2
 refine⟨l,⟨av,cap,e,hlc,hm,fun hne=>?_⟩,fun z hz=>(each z hz).1,fun z hz=>(each z hz).2⟩;obtain⟨b,o,e2,hB,hx⟩:=hx hne;exact⟨b,o,e2,hB,fun i hi=>(hx i hi).1⟩
theorem No {W:World} {sp:Nat->Bool} {fuel:Nat} {v:Value} {x:DataW H×List MemPlace} (h:DataW.trod enc Tryz.prog W 0 sp true fuel 42 [v]=some x):∃l,zi zW 5 W v l:=by
 exact JY (R:=RecR zW 5) (c:=5) Tryz.underlying42 Tryz.walCells35 (by omega) h fun b o cs n y hl hc ht=>by
  obtain⟨a0,e0,-⟩:=zG Tryz.underlying102 ht Tryz.underlying3 Tryz.intCells2 0 0 rfl;obtain⟨a1,e1,-⟩:=zG Tryz.underlying102 ht Tryz.underlying3 Tryz.intCells2 1 1 rfl;obtain⟨a2,e2,-⟩:=zG Tryz.underlying102 ht Tryz.underlying3 Tryz.intCells2 2 2 rfl;obtain⟨a3,e3,-⟩:=zG Tryz.underlying102 ht Tryz.underlying3 Tryz.intCells2 3 3 rfl;obtain⟨a4,e4,-⟩:=zG Tryz.underlying102 ht Tryz.underlying3 Tryz.intCells2 4 4 rfl
  match cs,hl with
  | [v0,v1,v2,v3,v4],_=>simp only[List.drop,List.take,List.cons.injEq,and_true]at e0 e1 e2 e3 e4;subst e0;subst e1;subst e2;subst e3;subst e4;exact⟨⟨a0,a1,a2,a3,a4⟩,fun j hj=>hc j hj⟩
theorem NR {W:World} {sp:Nat->Bool} {fuel:Nat} {v:Value} {x:DataW H×List MemPlace} (h:DataW.trod enc Tryz.prog W 0 sp true fuel 43 [v]=some x):∃l,zi zW 5 W v l:=by
 exact JY (R:=RecR zW 5) (c:=5) Tryz.underlying43 Tryz.cntCells35 (by omega) h fun b o cs n y hl hc ht=>by
  obtain⟨a0,e0,-⟩:=zG Tryz.underlying104 ht Tryz.underlying3 Tryz.intCells2 0 0 rfl;obtain⟨a1,e1,-⟩:=zG Tryz.underlying104 ht Tryz.underlying3 Tryz.intCells2 1 1 rfl;obtain⟨a2,e2,-⟩:=zG Tryz.underlying104 ht Tryz.underlying3 Tryz.intCells2 2 2 rfl;obtain⟨a3,e3,-⟩:=zG Tryz.underlying104 ht Tryz.underlying3 Tryz.intCells2 3 3 rfl;obtain⟨a4,e4,-⟩:=zG Tryz.underlying104 ht Tryz.underlying3 Tryz.intCells2 4 4 rfl
  match cs,hl with
  | [v0,v1,v2,v3,v4],_=>simp only[List.drop,List.take,List.cons.injEq,and_true]at e0 e1 e2 e3 e4;subst e0;subst e1;subst e2;subst e3;subst e4;exact⟨⟨a0,a1,a2,a3,a4⟩,fun j hj=>hc j hj⟩
theorem K3 {W:World} {sp:Nat->Bool} {fuel:Nat} {cs:List Value} {x:DataW H×List MemPlace} (hl:cs.length=6) (h:DataW.trod enc Tryz.prog W 0 sp true fuel 47 cs=some x) (hw:j9 Tryz.prog reachBytes 47 x.1):
 ∃(ea pa ba wa ca:Option Addr) (en pn ec pc bc wc cc:Nat) (ac:Int) (l:List Ev) (P:List Pd) (X:List BuX) (WL CL:List I5),cs=[.slice ea en ec,.slice pa pn pc,.slice ba X.length bc,.slice wa WL.length wc,.slice ca CL.length cc,.int .i64 ac]/\vE W (.slice ea en ec) l/\qu W (.slice pa pn pc) P/\StIn W (plB X) WL CL ba bc X wa wc ca cc/\∀b∈plB X,KeyB b:=by
 obtain⟨n0,y0,e0⟩:=yV Tryz.underlying47 h 0 0 22 1 rfl Tryz.eventsCells35;obtain⟨n1,y1,e1⟩:=yV Tryz.underlying47 h 1 1 23 1 rfl Tryz.productsCells35;obtain⟨n2,y2,e2,w2⟩:=ku Tryz.underlying47 h hw 2 2 45 3 rfl Tryz.stateCells35;obtain⟨ac,e3,-⟩:=zG Tryz.underlying47 h Tryz.underlying3 Tryz.intCells2 3 5 rfl
 match cs,hl with
 | [v0,v1,v2,v3,v4,v5],_=>
   simp only[List.drop,List.take]at e0 e1 e2;simp only[List.drop,List.take,List.cons.injEq,and_true]at e3;subst e3;obtain⟨m0,q0,g0,u0⟩:=ku Tryz.underlying45 e2 w2 0 0 41 1 rfl Tryz.busCells35;obtain⟨m1,q1,g1⟩:=yV Tryz.underlying45 e2 1 1 42 1 rfl Tryz.walsCells35;obtain⟨m2,q2,g2⟩:=yV Tryz.underlying45 e2 2 2 43 1 rfl Tryz.cntsCells35;simp only[List.drop,List.take]at g0 g1 g2;obtain⟨l,hl⟩:=xP e0;obtain⟨P,hP⟩:=xJ e1;obtain⟨X,hX,hr,hk⟩:=NV g0 u0;obtain⟨WL,hWL⟩:=No g1;obtain⟨CL,hCL⟩:=NR g2;have q1:=hl;have q2:=hP;have q3:=hX;have q4:=hWL;have q5:=hCL;obtain⟨⟨ea,ec,r1,-⟩,-⟩:=q1;obtain⟨pa,pc,r2,-⟩:=q2;obtain⟨ba,bc,r3,-⟩:=q3;obtain⟨wa,wc,r4,-⟩:=q4;obtain⟨ca,cc,r5,-⟩:=q5;subst r1;subst r2;subst r3;subst r4;subst r5;exact⟨ea,pa,ba,wa,ca,_,_,ec,pc,bc,wc,cc,ac,l,P,X,WL,CL,rfl,hl,hP,⟨hX,rfl,hr,hWL,hCL⟩,fun b hb=>by
    obtain⟨z,hz,rfl⟩:=List.mem_map.1 hb;exact hk z hz⟩
theorem Xc {W:World} {sp:Nat->Bool} {fuel:Nat} {cs:List Value} {x:DataW H×List MemPlace} (hl:cs.length=2) (h:DataW.trod enc Tryz.prog W 0 sp true fuel 78 cs=some x):∃(sb:Int) (nm:ByteArray),cs=[.int .i64 sb,.string nm]/\nm.size<=maxLen:=by
 obtain⟨sb,e0,-⟩:=zG Tryz.underlying78 h Tryz.underlying3 Tryz.intCells2 0 0 rfl;obtain⟨nm,e1,s1⟩:=qG Tryz.underlying78 h Tryz.underlying9 Tryz.textCells17 1 1 rfl
 match cs,hl with
 | [v0,v1],_=>simp only[List.drop,List.take,List.cons.injEq,and_true]at e0 e1;subst e0;subst e1;exact⟨sb,nm,rfl,s1⟩
end
end Go.Proofs.YtngippiilgdnoaaGreat
