/-
  A record stored whole into an owned row.
-/
import Derived.Test.YtngippiilgdnoaaGreatMhal
import Derived.Deep.MidRow
set_option maxRecDepth 100000
set_option maxHeartbeats 25600000
namespace Go.Proofs.YtngippiilgdnoaaGreat
open Go.RowKit
def VR {α:Type} (xs:List α) (o:Nat):List α->List α
 | []=>xs
 |u::r=>VR (xs.set o u) (o+1) r
theorem uO {α:Type}:∀(vs:List α) (xs:List α) (o j:Nat),o+vs.length<=xs.length->(VR xs o vs)[j]?=if o<=j/\j<o+vs.length then vs[j-o]? else xs[j]?
 | [],xs,o,j,_=>by
   rw[if_neg (by rw[List.length_nil];omega)];rfl
 |u::r,xs,o,j,h=>by
   rw[List.length_cons]at h;show(VR (xs.set o u) (o+1) r)[j]?=_;rw[uO r (xs.set o u) (o+1) j (by simp;omega),List.length_cons];by_cases h1:j=o
   · subst h1
     rw[if_neg (by omega),if_pos (by omega),Nat.sub_self,List.getElem?_set_self (by omega)];rfl
   by_cases h2:o+1<=j/\j<o+1+r.length
   · rw[if_pos h2,if_pos (by omega),show j-o=(j-(o+1))+1 by omega]
     rfl
   rw[if_neg h2,if_neg (by omega),List.getElem?_set_ne (by omega)]
theorem qI {base:Nat} {e:TypeId} {sz n g cap:Nat}:∀(vs xs:List Value) (o:Nat) (w:World),w.ownsRow base e sz (.slice (some ⟨g,0,none⟩) n cap) n xs->
 (w.setCells g o vs).ownsRow base e sz (.slice (some ⟨g,0,none⟩) n cap) n (VR xs o vs)/\w.grownBy (w.setCells g o vs) (some g)
 | [],_,_,_,h=>⟨h,⟨rfl,rfl,rfl,Nat.le_refl _,fun _ _ _=>rfl⟩⟩
 |u::r,xs,o,w,h=>by
   obtain⟨h1,h2⟩:=h.stored o u;obtain⟨h3,h4⟩:=qI r (xs.set o u) (o+1) _ h1;exact⟨h3,⟨h4.os.trans h2.os,h4.tape.trans h2.tape,h4.output.trans h2.output,Nat.le_trans h2.size h4.size,fun k hk hne=>(h4.block k (Nat.lt_of_lt_of_le hk h2.size) hne).trans (h2.block k hk hne)⟩⟩
theorem JI {α:Type} {c:α->List Value} {sz:Nat} (hc:∀a,(c a).length=sz) (l:List α) (k:Nat) (x:α) (h:k<l.length):VR (l.flatMap c) (k*sz) (c x)=(l.set k x).flatMap c:=by
 have hlen:(k+1)*sz<=l.length*sz:=Nat.mul_le_mul_right _ h;rw[Nat.succ_mul]at hlen;have e1:=zN c sz hc l;apply List.ext_getElem?;intro j;rw[uO _ _ _ _ (by rw[hc,e1];exact hlen),hc];by_cases hsz:sz=0
 · subst hsz
   rw[if_neg (by omega)];have z1:l.flatMap c=[]:=List.length_eq_zero_iff.1 (by rw[e1,Nat.mul_zero]);have z2:(l.set k x).flatMap c=[]:=List.length_eq_zero_iff.1 (by rw[zN c 0 hc,Nat.mul_zero]);rw[z1,z2]
 by_cases hj:j<l.length*sz
 · have hi:j / sz<l.length:=(Nat.div_lt_iff_lt_mul (by omega)).2 hj
   have hm:j % sz<sz:=Nat.mod_lt _ (by omega);have hd:j / sz*sz+j % sz=j:=by rw[Nat.mul_comm];exact Nat.div_add_mod j sz
   have g1:=vJ c sz hc (l.set k x) (j / sz) (j % sz) (by simpa using hi) hm;have g2:=vJ c sz hc l (j / sz) (j % sz) hi hm;rw[hd]at g1 g2;rw[g1,List.getElem_set];by_cases hk:k=j / sz
   · subst hk
     rw[if_pos (by omega),if_pos rfl,show j-j / sz*sz=j % sz by omega]
   rw[if_neg hk,<-g2,if_neg];rintro⟨q1,q2⟩;apply hk;rcases Nat.lt_or_gt_of_ne hk with q|q
   · have:=Nat.mul_le_mul_right sz (show k+1<=j / sz from q)
     rw[Nat.succ_mul]at this;omega
   have:=Nat.mul_le_mul_right sz (show j / sz+1<=k from q);rw[Nat.succ_mul]at this;omega
 rw[if_neg (by omega),List.getElem?_eq_none (by rw[e1];omega),List.getElem?_eq_none (by rw[zN c sz hc];simp;omega)]
theorem W0 {w:World} {base:Nat} {e:TypeId} {sz n g cap:Nat} {xs:List Value} (h:w.ownsRow base e sz (.slice (some ⟨g,0,none⟩) n cap) n xs) (k:Nat) (hk:k<n):w.there g (k*sz) sz:=fun j hj=>by
 have hlen:(k+1)*sz<=n*sz:=Nat.mul_le_mul_right _ hk;rw[Nat.succ_mul]at hlen;refine⟨?_,h.frozenAt _⟩;rw[h.cellAt _ (by omega),List.getElem?_eq_getElem (by rw[h.1];omega)];rfl
end Go.Proofs.YtngippiilgdnoaaGreat
