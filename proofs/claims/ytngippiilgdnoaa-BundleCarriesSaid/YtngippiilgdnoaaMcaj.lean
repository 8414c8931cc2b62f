/-
  Lists of periods, and of instants, that a text lays literally.
-/
import Derived.Test.YtngippiilgdnoaaMcai
import Derived.Deep.RegionHeld3
set_option maxRecDepth 100000
set_option maxHeartbeats 25600000
namespace Go.Proofs.Ytngippiilgdnoaa
open Go.RowKit
def PerR (w : World) (b o : Nat) (p : Int × Int) : Prop := w.cell? ⟨b, o, none⟩ = some (.int .i64 p.1) ∧ w.cell? ⟨b, o + 1, none⟩ = some (.int .i64 p.2)
theorem PerR.stays : Stays PerR := fun w w' b _ _ hb hB ⟨h0, h1⟩ =>
 have c : ∀ j, w'.cell? ⟨b, j, none⟩ = w.cell? ⟨b, j, none⟩ := fun j => hb.cell (p := ⟨b, j, none⟩) hB
 ⟨(c _).trans h0, (c _).trans h1⟩
def PersAt (w : World) (v : Value) (l : List (Int × Int)) : Prop := SliceAt 2 PerR w v l
theorem PersAt.below {w w' : World} {v : Value} {l : List (Int × Int)} (h : PersAt w v l) (hb : Below w.heap.size w w') : PersAt w' v l := SliceAt.below PerR.stays h hb
def perCells (p : Int × Int) : List Value := [.int .i64 p.1, .int .i64 p.2]
theorem PersAt.own {w : World} {base : Nat} {e : TypeId} {v : Value} {l : List (Int × Int)} (h : w.ownsRow base e 2 v l.length (l.flatMap perCells)) : PersAt w v l :=
 SliceAt.own perCells (fun _ => rfl) h fun g o i hi hc => ⟨hc 0 (by decide), hc 1 (by decide)⟩
def inL (ps : List (Int × Int)) (t : Int) : Bool := ps.any fun p => containsB p.1 p.2 t
def limStep (l : List Int) (p : Int × Int) : List Int := if validB p.1 p.2 = true then addL (addL l p.1) p.2 else l
def limitsL (l : List Int) (ps : List (Int × Int)) : List Int := ps.foldl limStep l
end Go.Proofs.Ytngippiilgdnoaa
namespace Go.Proofs.Ytngippiilgdnoaa
open Go.RowKit
end Go.Proofs.Ytngippiilgdnoaa
