/-
  The walks of the calendar: the date of a day, the month of an instant, its cycle, the cycles of a period.
  The walks of the calendar: the month of an instant, its cycle, the cycles of a period.
  The walks of the reference's calendar: leap years, lengths of months, the cycles of a period, the cycle of an instant.
  The walks of the reference's calendar: no cycles, and the cycle of an instant.
-/
import Derived.Test.YtngippiilgdnoaaGreatMpap
import Derived.Test.YtngippiilgdnoaaGreatMpal
import Derived.Laws.Tables
namespace Go.Proofs.YtngippiilgdnoaaGreat
open Go.RowKit

theorem row_set {w : World} {g i : Nat} {cs : Array Value} {t : TypeId} {fr : Nat × Nat} (v : Value) (hg : w.heap[g]? = some (.cells cs t fr)) : (w.setCell ⟨g, i, none⟩ v).heap[g]? = some (.cells (cs.setIfInBounds i v) t fr) := by
  rw [setCell_eq_setRow w g i cs t fr v hg]
  exact setRow_heap w g cs _ t fr hg
theorem row_other {w : World} {g k i : Nat} {v : Value} {o : Obj} (hk : w.heap[k]? = some o) (h : k ≠ g) : (w.setCell ⟨g, i, none⟩ v).heap[k]? = some o :=
  (Below.heap_setCell _ _ _ _ h).trans hk

end Go.Proofs.YtngippiilgdnoaaGreat

namespace Go.Proofs.YtngippiilgdnoaaGreat
open Go.RowKit

end Go.Proofs.YtngippiilgdnoaaGreat

namespace Go.Proofs.YtngippiilgdnoaaGreat
open Go.RowKit

end Go.Proofs.YtngippiilgdnoaaGreat

namespace Go.Proofs.YtngippiilgdnoaaGreat
open Go.RowKit

end Go.Proofs.YtngippiilgdnoaaGreat
