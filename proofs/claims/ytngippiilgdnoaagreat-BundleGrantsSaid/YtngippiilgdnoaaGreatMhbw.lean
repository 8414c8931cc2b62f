/-
  A slice that came in reads as a list, with the bounds that the form's reach gives.
-/
import Derived.Test.YtngippiilgdnoaaGreatMhau
import Derived.SizedLaws
set_option maxRecDepth 100000
set_option maxHeartbeats 25600000
namespace Go.Proofs.YtngippiilgdnoaaGreat
open Go.ChangeShapes Go.WideShapes Go.ChangeAt Go.RowKit Go.Deep
section
variable {H:Type} {enc:TypeId×Value->H}
def j9 (P:Program) (B:Nat) (t:TypeId) (d:DataW H):Prop:=∀n∈d.weights P t,n<=B
theorem uj {P:Program} {e:TypeId}:∀{ds:List (DataW H)} {d:DataW H},d∈ds->∀n∈d.weights P e,n∈DataW.weightsAll P e ds
 |x::ds,d,h,n,hn=>by
   rw[DataW.weightsAll,List.mem_append];rcases List.mem_cons.1 h with rfl|h;· exact Or.inl hn
   exact Or.inr (uj h n hn)
theorem KK {P:Program} {ts:List TypeId} {ds:List (DataW H)} (h:(DataW.weightsEach P ts ds).all (·<=reachBytes)=true) {j:Nat} {t:TypeId} {d:DataW H} (ht:ts[j]?=some t) (hd:ds[j]?=some d):j9 P reachBytes t d:=fun n hn=>by
 simpa using List.all_eq_true.1 h n (DataW.weights_mem_each ht hd n hn)
theorem KT {α:Type} {R:World->Nat->Nat->α->Prop} {P:Program} {W:World} {sp:Nat->Bool} {fuel c B:Nat} {T E:TypeId} {v:Value} {x:DataW H×List MemPlace} (hT:P.underlying T=some (.slice E)) (hc:P.cellsOf E=c) (hc0:0<c) (h:DataW.trod enc P W 0 sp true fuel T [v]=some x) (hw:j9 P B T x.1)
 (hR:∀b o cs n y,cs.length=c->(∀j,j<c->W.cell? ⟨b,o+j,none⟩=cs[j]?)->DataW.trod enc P W 0 sp true n E cs=some y->j9 P B E y.1->∃a,R W b o a):∃l,zz c R W v l/\l.length*P.bytesOf E<=B:=by
 rcases DataW.trod_slice hT h with⟨hv,-⟩|⟨a,len,cap,elems,rest,n,-,hv,hxe,-,hl,hm,hlen,hx,-,-⟩
 · simp only[List.cons.injEq,and_true]at hv
   subst hv;exact⟨[],zz.nil W,by simp⟩
 simp only[List.cons.injEq,and_true]at hv;subst hv;subst hxe;rw[hc]at hx;have hel:∀i (hi:i<elems.length),j9 P B E elems[i].1:=fun i hi m hm=>by
  refine hw m ?_;rw[DataW.weights,hT];refine List.mem_cons_of_mem _ (List.mem_append_left _ (uj (List.mem_map.2 ⟨elems[i],List.getElem_mem hi,rfl⟩) m hm))
 have hbd:(elems.length+rest.length)*P.bytesOf E<=B:=by refine hw _ ?_;rw[DataW.weights,hT];simp
 have hbd2:len*P.bytesOf E<=B:=Nat.le_trans (Nat.mul_le_mul_right _ (by omega)) hbd;by_cases h0:0<len
 · have hx2:∀i,(hi:i<len)->∃cs' y,W.cells? 0 (a.add (i*c)) c=some cs'/\DataW.trod enc P W 0 sp true n E cs'=some y/\j9 P B E y.1:=fun i hi=>by
    have h1:=hx i hi;rw[List.getElem?_eq_getElem (by omega)]at h1;obtain⟨cs',g1,g2⟩:=Option.bind_eq_some_iff.1 h1;exact⟨cs',_,g1,g2,hel i (by omega)⟩
   obtain⟨b,off,spot⟩:=a;have first:∃u,W.cell? ⟨b,off,spot⟩=some u:=by obtain⟨cs',y,g1,-⟩:=hx2 0 h0;obtain⟨_,hlen,hcell⟩:=World.cells?_some g1;have:=hcell 0 hc0;simp only[Nat.zero_mul,Addr.add,if_true]at this;exact⟨cs'[0],this.trans (List.getElem?_eq_getElem (by omega))⟩
   obtain⟨u,hu⟩:=first
   obtain rfl:spot=none:=World.cell?_spot hu;have each:∀i,i<len->∃s:α,R W b (off+i*c) s:=by intro i hi;obtain⟨cs',y,g1,g2,g3⟩:=hx2 i hi;obtain⟨_,hlen,hcell⟩:=World.cells?_some g1;refine hR b (off+i*c) cs' n y hlen (fun j hj=>?_) g2 g3;have:=hcell j hj;rw[Go.Deep.add_add,Go.WideShapes.add_plain,<-Nat.add_assoc]at this;exact this
   obtain⟨a0,-⟩:=each 0 h0
   haveI:Inhabited α:=⟨a0⟩
   obtain⟨q,hq⟩:=choose_lt each;refine⟨(List.range len).map q,⟨some ⟨b,off,none⟩,cap,by simp,by simp;omega,⟨hm,fun h=>by cases h⟩,fun _=>⟨b,off,rfl,World.block_lt_of_cell? W _ hu,fun i hi=>?_⟩⟩,by simpa using hbd2⟩;simp only[List.getElem_map,List.getElem_range];exact hq i (by simpa using hi)
 obtain rfl:len=0:=by omega
 exact⟨[],⟨some a,cap,rfl,Nat.zero_le _,⟨hm,fun h=>by cases h⟩,fun h=>absurd rfl h⟩,by simp⟩
theorem ku {P:Program} {w:World} {base B:Nat} {sp:Nat->Bool} {held:Bool} {fuel:Nat} {t:TypeId} {fs:Array Field} {cs:List Value} {x:DataW H×List MemPlace} (ht:P.underlying t=some (.struct fs)) (h:DataW.trod enc P w base sp held fuel t cs=some x) (hw:j9 P B t x.1)
 (i o:Nat) (ti:TypeId) (c:Nat) (hm:(fs[i]?).map (fun f=>(f.offset,f.type))=some (o,ti)) (hc:P.cellsOf ti=c):∃n y,DataW.trod enc P w base sp held n ti ((cs.drop o).take c)=some y/\j9 P B ti y.1:=by
 obtain⟨xs,n,-,he,-,hl,hx⟩:=DataW.trod_struct ht h;subst he;obtain⟨f,hf,hff⟩:=Option.map_eq_some_iff.1 hm;simp only[Prod.mk.injEq]at hff;obtain⟨rfl,rfl⟩:=hff;rw[<-hc];have hi:i<fs.size:=(zu hf);refine⟨n,xs[i],(hx i f hf).trans (List.getElem?_eq_getElem (by omega)),fun m hm2=>hw m ?_⟩;rw[DataW.weights,ht];refine DataW.weights_mem_each (j:=i) (t:=f.type) (d:=xs[i].1) ?_ ?_ m hm2
 · rw[List.getElem?_map,Array.getElem?_toList,hf]
   rfl
 rw[List.getElem?_map,List.getElem?_eq_getElem (by omega)];rfl
end
end Go.Proofs.YtngippiilgdnoaaGreat
