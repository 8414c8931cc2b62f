/-
  An argument that is a period, opened.
-/
import Derived.ProofKit
import Derived.Deep.Slices
import Derived.Deep.Strs
import Derived.OpenShut
import Derived.Test.YtngippiilgdnoaaGreatMhroot
set_option maxRecDepth 100000
set_option maxHeartbeats 25600000
namespace Go.Proofs.YtngippiilgdnoaaGreat
open Go.ChangeShapes Go.WideShapes Go.ChangeAt Go.RowKit Go.Deep
theorem Tryz.own:ownKnob Tryz.prog.godebug=none:=by kernel_rfl
theorem Tryz.laidOut:laidOutB Tryz.prog=true:=by kernel_rfl
section
variable {H:Type} {enc:TypeId×Value->H} {P:Program}
theorem Zf (hlo:laidOutB P=true) {W W':World} (hb:Below W.heap.size W W'):∀(ts:List TypeId) (vs:List Value) (ds:List (DataW H)) (ps:List MemPlace),
 (∀t∈ts,P.readableRec t=true/\t<P.types.size)->DataW.TrodAll enc P W 0 (fun _=>true) true ts vs ds ps->(∀x∈ps,x.block<W.heap.size)->
 DataW.TrodAll enc P W' 0 (fun b=>decide (b<W.heap.size)) true ts vs ds ps
 | [],[],[],_,_,h,_=>h
 |t::ts,v::vs,d::ds,ps,hr,h,hlt=>by
   obtain⟨p,q,h1,h2,rfl⟩:=h;obtain⟨r1,r2⟩:=hr t (List.mem_cons_self);exact⟨p,q,Below.trod hlo r1 r2 h1 hb (fun x hx=>hlt x (List.mem_append_left _ hx)),
    Zf hlo hb ts vs ds q (fun t ht=>hr t (List.mem_cons_of_mem _ ht)) h2 (fun x hx=>hlt x (List.mem_append_right _ hx)),rfl⟩
 | [],_::_,_,_,_,h,_=>h.elim
 | [],[],_::_,_,_,h,_=>h.elim
 |_::_,[],_,_,_,h,_=>h.elim
 |_::_,_::_,[],_,_,h,_=>h.elim
theorem Ed {f:Func} {s:ChangeSpec} {tb:TypeId} {W W':World} {args:Array Value} {ds gs:List (DataW H)} {before:List MemPlace} (hlo:laidOutB P=true)
 (hr:∀t∈f.params.toList,P.readableRec t=true/\t<P.types.size) (hv:s.vars=[]) (ht:f.resultTypes=#[tb]) (htb:P.underlying tb=some .bool)
 (h1:(s.fn H (ds++[])).results=[.lit (.bool true)]) (h2:(s.fn H (ds++[])).args=ds) (h3:(s.fn H (ds++[])).vars=[])
 (hW:DataW.Whole enc P f.params.toList s.vars false W args.toList ds gs before) (hb:Below W.heap.size W W'):
 s.post enc P f false true false false W args (.bool true) W':=by
 have hW':=hW;obtain⟨p,q,hA,hV,rfl,hz,hn⟩:=hW;rw[hv]at hV;obtain⟨rfl,rfl⟩:=trodVars_none hV;have hlt:∀x∈p++([]:List MemPlace),x.block<W.heap.size:=fun x hx=>hW'.lt x hx;simp only[List.append_nil]at *;refine⟨ds,[],p,[],p,[],hW',?_,?_,?_,?_,fun h=>by cases h⟩
 · simp only[List.append_nil]
   rw[h1,ht];exact trodAll_mk1 (shut_bool htb true)
 · simp only[List.append_nil]
   rw[h2];exact Zf hlo hb _ _ _ _ hr hA hlt
 · simp only[List.append_nil]
   rw[h3,hv];rfl
 exact hb.frame _
theorem YW {W:World} {sp:Nat->Bool} {fuel c:Nat} {T E:TypeId} {v:Value} {x:DataW H×List MemPlace} (hT:P.underlying T=some (.slice E)) (hc:P.cellsOf E=c) (hc0:0<c) (h:DataW.trod enc P W 0 sp true fuel T [v]=some x):
 ∃(av:Option Addr) (len cap:Nat),v=.slice av len cap/\len<=cap/\cap<=maxLen/\(0<len->∃b off,av=some ⟨b,off,none⟩/\b<W.heap.size/\
  ∀i,i<len->∃(cs:List Value) (n:Nat) (y:DataW H×List MemPlace),cs.length=c/\(∀j,j<c->W.cell? ⟨b,off+i*c+j,none⟩=cs[j]?)/\DataW.trod enc P W 0 sp true n E cs=some y):=by
 rcases open_slice hT h with⟨hv,-⟩|⟨a,len,cap,m,n,D,Pl,hv,-,hl,hm,hmm,-,hx⟩
 · simp only[List.cons.injEq,and_true]at hv
   exact⟨none,0,0,hv,Nat.le_refl _,Nat.zero_le _,fun h=>absurd h (Nat.lt_irrefl _)⟩
 simp only[List.cons.injEq,and_true]at hv;refine⟨some a,len,cap,hv,hl,hm,fun h0=>?_⟩;have hlm:len<=m:=by rw[hmm];split<;>omega
 rw[hc]at hx;obtain⟨b,off,spot⟩:=a;have first:∃u,W.cell? ⟨b,off,spot⟩=some u:=by obtain⟨cs',g1,-⟩:=hx 0 (by omega);obtain⟨_,hlen,hcell⟩:=World.cells?_some g1;have:=hcell 0 hc0;simp only[Nat.zero_mul,Addr.add,if_true]at this;exact⟨cs'[0],this.trans (List.getElem?_eq_getElem (by omega))⟩
 obtain⟨u,hu⟩:=first
 obtain rfl:spot=none:=World.cell?_spot hu;refine⟨b,off,rfl,World.block_lt_of_cell? W _ hu,fun i hi=>?_⟩;obtain⟨cs',g1,g2⟩:=hx i (by omega);obtain⟨_,hlen,hcell⟩:=World.cells?_some g1;refine⟨cs',n,_,hlen,fun j hj=>?_,g2⟩;have:=hcell j hj;rw[Go.Deep.add_add,Go.WideShapes.add_plain,<-Nat.add_assoc]at this;exact this
theorem yV {w:World} {base:Nat} {sp:Nat->Bool} {held:Bool} {fuel:Nat} {t:TypeId} {fs:Array Field} {cs:List Value} {x:DataW H×List MemPlace} (ht:P.underlying t=some (.struct fs)) (h:DataW.trod enc P w base sp held fuel t cs=some x)
 (i o:Nat) (ti:TypeId) (c:Nat) (hm:(fs[i]?).map (fun f=>(f.offset,f.type))=some (o,ti)) (hc:P.cellsOf ti=c):∃n y,DataW.trod enc P w base sp held n ti ((cs.drop o).take c)=some y:=by
 obtain⟨xs,n,-,-,-,hl,hx⟩:=DataW.trod_struct ht h;obtain⟨f,hf,hff⟩:=Option.map_eq_some_iff.1 hm;simp only[Prod.mk.injEq]at hff;obtain⟨rfl,rfl⟩:=hff;rw[<-hc];have hi:i<fs.size:=(zu hf);exact⟨n,xs[i],(hx i f hf).trans (List.getElem?_eq_getElem (by omega))⟩
theorem zG {w:World} {base:Nat} {sp:Nat->Bool} {held:Bool} {fuel:Nat} {t ti:TypeId} {fs:Array Field} {cs:List Value} {x:DataW H×List MemPlace} (ht:P.underlying t=some (.struct fs)) (h:DataW.trod enc P w base sp held fuel t cs=some x)
 (hti:P.underlying ti=some (.int .i64)) (hc:P.cellsOf ti=1) (i o:Nat) (hm:(fs[i]?).map (fun f=>(f.offset,f.type))=some (o,ti)):∃n,(cs.drop o).take 1=[.int .i64 n]/\-9223372036854775808<=n/\n<=9223372036854775807:=by
 obtain⟨n,y,hy⟩:=yV ht h i o ti 1 hm hc;obtain⟨k,hk,-,hw⟩:=DataW.trod_int hti hy;exact⟨k,hk,bounds_i64 hw⟩
theorem qG {w:World} {base:Nat} {sp:Nat->Bool} {held:Bool} {fuel:Nat} {t ti:TypeId} {fs:Array Field} {cs:List Value} {x:DataW H×List MemPlace} (ht:P.underlying t=some (.struct fs)) (h:DataW.trod enc P w base sp held fuel t cs=some x)
 (hti:P.underlying ti=some .string) (hc:P.cellsOf ti=1) (i o:Nat) (hm:(fs[i]?).map (fun f=>(f.offset,f.type))=some (o,ti)):∃s:ByteArray,(cs.drop o).take 1=[.string s]/\s.size<=maxLen:=by
 obtain⟨n,y,hy⟩:=yV ht h i o ti 1 hm hc;obtain⟨k,hk,-,hw⟩:=DataW.trod_string hti hy;exact⟨k,hk,hw⟩
theorem ZE {w:World} {base:Nat} {sp:Nat->Bool} {held:Bool} {fuel:Nat} {t ti:TypeId} {fs:Array Field} {cs:List Value} {x:DataW H×List MemPlace} (ht:P.underlying t=some (.struct fs)) (h:DataW.trod enc P w base sp held fuel t cs=some x)
 (hti:P.underlying ti=some .bool) (hc:P.cellsOf ti=1) (i o:Nat) (hm:(fs[i]?).map (fun f=>(f.offset,f.type))=some (o,ti)):∃b:Bool,(cs.drop o).take 1=[.bool b]:=by
 obtain⟨n,y,hy⟩:=yV ht h i o ti 1 hm hc;obtain⟨k,hk,-⟩:=DataW.trod_bool hti hy;exact⟨k,hk⟩
end
theorem Tryz.periodCells:Tryz.prog.cellsOf 25=2:=by kernel_rfl
theorem Tryz.intCells2:Tryz.prog.cellsOf 3=1:=by kernel_rfl
theorem K2 {H:Type} {enc:TypeId×Value->H} {W:World} {sp:Nat->Bool} {fuel:Nat} {cs:List Value} {x:DataW H×List MemPlace} (hl:cs.length=2) (h:DataW.trod enc Tryz.prog W 0 sp true fuel 25 cs=some x):
 ∃f t:Int,cs=[.int .i64 f,.int .i64 t]/\(-9223372036854775808<=f/\f<=9223372036854775807)/\(-9223372036854775808<=t/\t<=9223372036854775807):=by
 obtain⟨f,e0,b0⟩:=zG Tryz.underlying25 h Tryz.underlying3 Tryz.intCells2 0 0 rfl;obtain⟨t,e1,b1⟩:=zG Tryz.underlying25 h Tryz.underlying3 Tryz.intCells2 1 1 rfl
 match cs,hl with
 | [v0,v1],_=>simp only[List.drop,List.take,List.cons.injEq,and_true]at e0 e1;subst e0;subst e1;exact⟨f,t,rfl,b0,b1⟩
end Go.Proofs.YtngippiilgdnoaaGreat
