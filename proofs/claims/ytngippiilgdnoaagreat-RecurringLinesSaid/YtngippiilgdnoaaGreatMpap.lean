/-
  The walks of the calendar: leap years, lengths of months, days before years, the number of a date's day, the beginning of a cycle.
  The walks of the calendar: the number of a date's day, the beginning of a cycle, the cycle of a month.
-/
import Derived.Test.YtngippiilgdnoaaGreatMpaa
import Derived.Test.YtngippiilgdnoaaGreatMpan
import Derived.Test.YtngippiilgdnoaaGreatMpag
import Derived.Deep.DeepCutAuto
import Derived.Deep.LoopGhost
import Derived.WalkMore
import Derived.IntWalk
namespace Go.Proofs.YtngippiilgdnoaaGreat
open Go.RowKit

end Go.Proofs.YtngippiilgdnoaaGreat

namespace Go.Proofs.YtngippiilgdnoaaGreat
open Go.RowKit

end Go.Proofs.YtngippiilgdnoaaGreat
