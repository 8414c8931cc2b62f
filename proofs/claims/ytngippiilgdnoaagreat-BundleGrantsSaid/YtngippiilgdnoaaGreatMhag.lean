/-
  A slice value that reads as a list, whatever its elements.
-/
import Derived.Test.YtngippiilgdnoaaGreatMhaa
import Derived.Handy
import Derived.Deep.Slices
set_option maxRecDepth 100000
set_option maxHeartbeats 25600000
namespace Go.Proofs.YtngippiilgdnoaaGreat
open Go.RowKit
def QR (av:Option Addr) (cap:Nat):Prop:=cap<=maxLen/\(av=none->cap=0)
def zz {α:Type} (sz:Nat) (R:World->Nat->Nat->α->Prop) (w:World) (v:Value) (l:List α):Prop:=
 ∃(av:Option Addr) (cap:Nat),v=.slice av l.length cap/\l.length<=cap/\QR av cap/\(l≠[]->∃b o,av=some ⟨b,o,none⟩/\b<w.heap.size/\∀i (h:i<l.length),R w b (o+i*sz) l[i])
def Yl {α:Type} (R:World->Nat->Nat->α->Prop):Prop:=∀(w w':World) (b o:Nat) (x:α),Below w.heap.size w w'->b<w.heap.size->R w b o x->R w' b o x
theorem zz.below {α:Type} {sz:Nat} {R:World->Nat->Nat->α->Prop} (hR:Yl R) {w w':World} {v:Value} {l:List α} (h:zz sz R w v l) (hb:Below w.heap.size w w'):zz sz R w' v l:=by obtain⟨av,cap,rfl,hl,hm,hc⟩:=h;refine⟨av,cap,rfl,hl,hm,fun hne=>?_⟩;obtain⟨b,o,e,hB,hs⟩:=hc hne;exact⟨b,o,e,Nat.lt_of_lt_of_le hB hb.size,fun i hi=>hR _ _ _ _ _ hb hB (hs i hi)⟩
theorem zz.nil {α:Type} {sz:Nat} {R:World->Nat->Nat->α->Prop} (w:World):zz sz R w (.slice none 0 0) ([]:List α):=
 ⟨none,0,rfl,Nat.le_refl _,⟨Nat.zero_le _,fun _=>rfl⟩,fun h=>absurd rfl h⟩
def StrR (w:World) (b o:Nat) (s:ByteArray):Prop:=w.cell? ⟨b,o,none⟩=some (.string s)/\s.size<=maxLen
theorem StrR.stays:Yl StrR:=fun _ _ b o _ hb hB h=>⟨(hb.cell (p:=⟨b,o,none⟩) hB).trans h.1,h.2⟩
def zR (w:World) (v:Value) (l:List ByteArray):Prop:=zz 1 StrR w v l
theorem zR.below {w w':World} {v:Value} {l:List ByteArray} (h:zR w v l) (hb:Below w.heap.size w w'):zR w' v l:=zz.below StrR.stays h hb
end Go.Proofs.YtngippiilgdnoaaGreat
