/-
  A slice value that reads as a list, whatever its elements.
-/
import Derived.Test.YtngippiilgdnoaaGreatMiaa
import Derived.Handy
import Derived.Deep.Slices
set_option maxRecDepth 100000
set_option maxHeartbeats 25600000
namespace Go.Proofs.YtngippiilgdnoaaGreat
open Go.RowKit
def YG (av:Option Addr) (cap:Nat):Prop:=cap<=maxLen/\(av=none->cap=0)
def zA {α:Type} (sz:Nat) (R:World->Nat->Nat->α->Prop) (w:World) (v:Value) (l:List α):Prop:=
 ∃(av:Option Addr) (cap:Nat),v=.slice av l.length cap/\l.length<=cap/\YG av cap/\(l≠[]->∃b o,av=some ⟨b,o,none⟩/\b<w.heap.size/\∀i (h:i<l.length),R w b (o+i*sz) l[i])
def YF {α:Type} (R:World->Nat->Nat->α->Prop):Prop:=∀(w w':World) (b o:Nat) (x:α),Below w.heap.size w w'->b<w.heap.size->R w b o x->R w' b o x
theorem zA.below {α:Type} {sz:Nat} {R:World->Nat->Nat->α->Prop} (hR:YF R) {w w':World} {v:Value} {l:List α} (h:zA sz R w v l) (hb:Below w.heap.size w w'):zA sz R w' v l:=by obtain⟨av,cap,rfl,hl,hm,hc⟩:=h;refine⟨av,cap,rfl,hl,hm,fun hne=>?_⟩;obtain⟨b,o,e,hB,hs⟩:=hc hne;exact⟨b,o,e,Nat.lt_of_lt_of_le hB hb.size,fun i hi=>hR _ _ _ _ _ hb hB (hs i hi)⟩
theorem zA.nil {α:Type} {sz:Nat} {R:World->Nat->Nat->α->Prop} (w:World):zA sz R w (.slice none 0 0) ([]:List α):=
 ⟨none,0,rfl,Nat.le_refl _,⟨Nat.zero_le _,fun _=>rfl⟩,fun h=>absurd rfl h⟩
def StrR (w:World) (b o:Nat) (s:ByteArray):Prop:=w.cell? ⟨b,o,none⟩=some (.string s)/\s.size<=maxLen
theorem StrR.stays:YF StrR:=fun _ _ b o _ hb hB h=>⟨(hb.cell (p:=⟨b,o,none⟩) hB).trans h.1,h.2⟩
def zY (w:World) (v:Value) (l:List ByteArray):Prop:=zA 1 StrR w v l
theorem zY.below {w w':World} {v:Value} {l:List ByteArray} (h:zY w v l) (hb:Below w.heap.size w w'):zY w' v l:=zA.below StrR.stays h hb
end Go.Proofs.YtngippiilgdnoaaGreat
