/-
  A row of the call's own that holds records of one size, read as a list.
-/
import Derived.Test.YtngippiilgdnoaaGreatMhag
import Derived.Laws.AppendOwn
import Derived.OwnWalk
import Derived.Deep.AppendLies
set_option maxRecDepth 100000
set_option maxHeartbeats 25600000
namespace Go.Proofs.YtngippiilgdnoaaGreat
open Go.RowKit
theorem zN {α:Type} (c:α->List Value) (sz:Nat) (hc:∀a,(c a).length=sz) (l:List α):(l.flatMap c).length=l.length*sz:=by
 induction l with
 |nil=>simp
 |cons a l ih=>rw[List.flatMap_cons,List.length_append,hc,ih,List.length_cons,Nat.succ_mul];omega
theorem vJ {α:Type} (c:α->List Value) (sz:Nat) (hc:∀a,(c a).length=sz) (l:List α):∀(i j:Nat) (hi:i<l.length),j<sz->(l.flatMap c)[i*sz+j]?=(c l[i])[j]?:=by
 induction l with
 |nil=>intro i j hi;cases hi
 |cons a l ih=>
   intro i j hi hj;rw[List.flatMap_cons]
   match i,hi with
   |0,_=>rw[Nat.zero_mul,Nat.zero_add,List.getElem?_append_left (by rw[hc];exact hj)];rfl
   |i+1,hi=>
     rw[List.getElem?_append_right (by rw[hc,Nat.succ_mul];omega),hc];have e:(i+1)*sz+j-sz=i*sz+j:=by rw[Nat.succ_mul];omega
     rw[e];exact ih i j (by simpa using hi) hj
theorem zd {w w':World} {base:Nat} {e:TypeId} {sz n:Nat} {v:Value} {xs:List Value} (h:w.ownsRow base e sz v n xs) (hb:Below w.heap.size w w'):w'.ownsRow base e sz v n xs:=by
 obtain⟨h1,h2⟩:=h;refine⟨h1,?_⟩;rcases h2 with h2|⟨g,cap,cur,hv,hg,hh,r⟩;· exact Or.inl h2
 have hlt:g<w.heap.size:=(zu hh);exact Or.inr ⟨g,cap,cur,hv,hg,(hb.block g hlt).trans hh,r⟩
theorem zg {w:World} {base:Nat} {e:TypeId} {sz n:Nat} {v:Value} {xs:List Value} (h:w.ownsRow base e sz v n xs) (g:Nat) (hg:v.ownBlock=some g):base<=g/\g<w.heap.size:=by
 obtain⟨-,h2⟩:=h;rcases h2 with⟨rfl,-⟩|⟨g',cap,cur,rfl,hB,hh,-⟩;· cases hg
 simp only[Value.ownBlock,Option.some.injEq]at hg;subst hg;exact⟨hB,(zu hh)⟩
theorem zf {w:World} {base:Nat} {e:TypeId} {sz n:Nat} {v:Value} {xs:List Value} (h:w.ownsRow base e sz v n xs):∃av cap,v=.slice av n cap/\n<=cap/\cap<=maxLen:=by
 obtain⟨-,h2⟩:=h;rcases h2 with⟨rfl,rfl⟩|⟨g,cap,cur,rfl,-,-,h1,h2,-⟩;· exact⟨none,0,rfl,Nat.le_refl _,Nat.zero_le _⟩
 exact⟨_,cap,rfl,h1,h2⟩
theorem zz.own {α:Type} {sz:Nat} {R:World->Nat->Nat->α->Prop} (c:α->List Value) (hc:∀a,(c a).length=sz) {w:World} {base:Nat} {e:TypeId} {v:Value} {l:List α} (h:w.ownsRow base e sz v l.length (l.flatMap c))
 (hR:∀g o (i:Nat) (hi:i<l.length),(∀j,j<sz->w.cell? ⟨g,o+j,none⟩=(c l[i])[j]?)->R w g o l[i]):zz sz R w v l:=by
 obtain⟨-,h2⟩:=h;rcases h2 with⟨rfl,h0⟩|⟨g,cap,cur,rfl,hB,hh,h1,h2,h3,h4⟩
 · obtain rfl:l=[]:=List.length_eq_zero_iff.1 h0
   exact zz.nil w
 refine⟨_,cap,rfl,h1,⟨h2,fun h=>by cases h⟩,fun _=>⟨g,0,rfl,(zu hh),fun i hi=>?_⟩⟩;refine hR g _ i hi fun j hj=>?_;have hlt:i*sz+j<l.length*sz:=by have:(i+1)*sz<=l.length*sz:=Nat.mul_le_mul_right _ hi;rw[Nat.succ_mul]at this;omega
 rw[<-vJ c sz hc l i j hi hj,<-h4,List.getElem?_take_of_lt hlt,Nat.zero_add];simp only[World.cell?,hh,Option.isSome_none,Bool.false_eq_true,if_false];simp
end Go.Proofs.YtngippiilgdnoaaGreat
