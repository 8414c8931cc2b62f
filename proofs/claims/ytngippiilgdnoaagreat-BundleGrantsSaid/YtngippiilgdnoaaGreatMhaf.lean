/-
  A region that draws its order, whose operations only read and whose callees leave what was there: walked once, in the order of the text.
-/
import Derived.Test.YtngippiilgdnoaaGreatMhaa
import Derived.BigQuiet
set_option maxRecDepth 100000
set_option maxHeartbeats 25600000
namespace Go.Proofs.YtngippiilgdnoaaGreat
open Go.RowKit
structure ze (X:World) where
 w:World
 h:Below X.heap.size X w
instance (X:World):Nonempty (ze X):=⟨⟨X,Below.refl _ _⟩⟩
theorem ze.cell {X:World} {a:Addr} {v:Value} (hb:a.block<X.heap.size) (h:X.cell? a=some v) (p:ze X):p.w.cell? a=some v:=(p.h.cell hb).trans h
theorem zl {P:Program} {id:Nat} {Q:Exit->Act->World->Prop} {a:Act} {X w:World} {l:List Oper} (h0:Below X.heap.size X w) (hm:P.follows .mixedOrders=true) (hB:Region.lexB .any l.toArray=true)
 (h:wpQuiet P l.toArray (fun w'=>∃p:ze X,w'=p.w) (fun a'=>∀w',(∃p:ze X,w'=p.w)->Q .normal a' w') l a):(Code.region id l.toArray true).wp P Q a w:=
 wp_region_quiet (C:=fun w'=>∃p:ze X,w'=p.w) hm hB ⟨⟨w.drew,h0.drew⟩,rfl⟩ (by simpa using h)
theorem zE {P:Program} {f:FuncId} {args:Array Value} {X:World} {p:ze X} {v:Value} {Q:Ending->World->Prop} (h:Calls P f args p.w Q) (hQ:∀e w',Q e w'->e=.returned v/\Below p.w.heap.size p.w w'):
 Calls P f args p.w fun e w''=>e=.returned v/\∃q:ze X,w''=q.w:=
 h.mono fun e w' hq=>⟨(hQ e w' hq).1,⟨w',p.h.trans ((hQ e w' hq).2.mono p.h.size)⟩,rfl⟩
end Go.Proofs.YtngippiilgdnoaaGreat
