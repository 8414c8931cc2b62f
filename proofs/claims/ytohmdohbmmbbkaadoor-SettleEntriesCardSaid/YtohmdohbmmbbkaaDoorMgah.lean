/-
  Usages: what a list of them reads as; the units of one.
-/
import Derived.Test.YtohmdohbmmbbkaaDoorMgac
import Derived.Test.YtohmdohbmmbbkaaDoorMgae
namespace Go.Proofs.YtohmdohbmmbbkaaDoor
open Go.RowKit

/-- A usage. -/
structure Us where
  id : Int
  kd : Int
  ac : Int
  sb : Int
  a : ByteArray
  b : ByteArray
  st : Int
  un : Int
  tr : Int
  ib : Bool
  so : Int
  se : Int
def Us.row (u : Us) : Array Value := #[.int .i64 u.id, .int .i64 u.kd, .int .i64 u.ac, .int .i64 u.sb, .string u.a, .string u.b, .int .i64 u.st, .int .i64 u.un, .int .i64 u.tr, .bool u.ib, .int .i64 u.so, .int .i64 u.se]
instance usInh : Inhabited Us := ⟨⟨0, 0, 0, 0, ByteArray.empty, ByteArray.empty, 0, 0, 0, false, 0, 0⟩⟩
def UsR (w : World) (b o : Nat) (u : Us) : Prop := ∀ j, j < 12 → w.cell? ⟨b, o + j, none⟩ = u.row[j]?
theorem UsR.stays : Stays UsR := fun _ _ b _ _ hb hB h j hj => (hb.cell (p := ⟨b, _, none⟩) hB).trans (h j hj)
def UssAt (w : World) (v : Value) (l : List Us) : Prop := SliceAt 12 UsR w v l
theorem UssAt.below {w w' : World} {v : Value} {l : List Us} (h : UssAt w v l) (hb : Below w.heap.size w w') : UssAt w' v l := SliceAt.below UsR.stays h hb
/-- The units of a usage; none if they are out of range. -/
def unitsU (u : Us) : Int := if u.un < 0 ∨ 1099511627776 < u.un then 0 else u.un
theorem unitsU_bd (u : Us) : 0 ≤ unitsU u ∧ unitsU u ≤ 1099511627776 := by
  unfold unitsU
  by_cases h : u.un < 0 ∨ 1099511627776 < u.un
  · rw [if_pos h]; decide
  · rw [if_neg h]; omega
end Go.Proofs.YtohmdohbmmbbkaaDoor
