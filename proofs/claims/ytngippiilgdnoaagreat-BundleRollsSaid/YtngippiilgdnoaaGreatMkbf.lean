/-
  The walks of the reference's joined and Active.
-/
import Derived.Test.YtngippiilgdnoaaGreatMkaz
import Derived.Test.YtngippiilgdnoaaGreatMkbe
set_option maxRecDepth 100000
set_option maxHeartbeats 25600000
namespace Go.Proofs.YtngippiilgdnoaaGreat
open Go.RowKit
def PersIn (w : World) (N : List (Int × Int)) (e : Ending) (w' : World) : Prop := ∃ (a : Option Addr) (c : Nat), e = .returned (.slice a N.length c) ∧ w'.ownsRow w.heap.size 25 2 (.slice a N.length c) N.length (N.flatMap perCells) ∧ Below w.heap.size w w'
theorem PersIn.to {w w' : World} {N : List (Int × Int)} {e : Ending} (h : PersIn w N e w') : PersTo w N e w' := by
 obtain ⟨a, c, rfl, h1, h2⟩ := h
 exact ⟨_, rfl, PersAt.own h1, h2⟩
end Go.Proofs.YtngippiilgdnoaaGreat
