/-
  No cell of these rows narrows 'for every input' (looked for: loops, veiled, ifaces, maps, wideKeys, modest, calm, conditions, laid).
  DERIVED. THE GIVEN ROWS OF THIS SEAT. 9 by the template 'for every input the law returns true; each argument reads behind the call as it read before'; 0 by the template 'total and deterministic' (their statements: YtimclpgkdplnhaaTotals.lean).
  GIVEN WITH THE SEED: the statements are not yours to turn. If you find one false, say at which input.
  Laid BY PROGRAM, IN A SANDBOX (cutbox-rows.mjs): the forced cells as the released guide's own fill.sh prints them over the translation 226f67f3b51312fd… (all of the seat's roots in one cut). By AI agents, Wed Nov 11 2026. No macro, syntax, notation, axiom, sorry.
-/
import Derived.Test.YtimclpgkdplnhaaChecked
import GoSem.Claim
import GoSem.ClaimJoined
import GoSem.ClaimMapViews
import Derived.JoinedTies
import Derived.KernelRfl
namespace Go.Proofs.Ytimclpgkdplnhaa
/- THE CELL 'sum', in the pinned program and in every row, IS THE sha256 OF THE DUMP (.gsa) THAT YtimclpgkdplnhaaProg.lean LOADS. Nothing in Lean hashes anything: it is a label: what it is worth is what the hold of that sum in a sandbox is worth. -/
noncomputable def Try.pinned : Pinned := { name := "ytimclpgkdplnhaa", sum := "226f67f3b51312fd04be227823e61dad834c28685531f59889746f37430970a4", checked := Try.checked }
namespace Rows
def none {H : Type} : Left H := { results := [], args := [] }

/-- 'billinglaw44.RecurringProrates': WHATEVER THE INPUT: true; the input reads as it did. -/
def recurringProratesSpec : ChangeSpec := { name := "recurringProrates", fn := fun _ => fun
  | [d1, d2, d3] => { results := [.lit (.bool true)], args := [d1, d2, d3] }
  | _ => none }
def recurringProratesRow : OpenClaim := { program := "ytimclpgkdplnhaa", sum := "226f67f3b51312fd04be227823e61dad834c28685531f59889746f37430970a4", func := "billing/billinglaw44.RecurringProrates", spec := "recurringProrates", unfollowed := true, recurses := true, apart := false }
def RecurringProratesSaid : Prop := recurringProratesRow.holds Try.pinned (OpenSpec.ofChange recurringProratesSpec)

/-- ITS FALSE NEIGHBOUR: 'it returns false'. Refute it at one input. -/
def recurringProratesWrong : ChangeSpec := { name := "recurringProrates", fn := fun _ => fun
  | [d1, d2, d3] => { results := [.lit (.bool false)], args := [d1, d2, d3] }
  | _ => none }
def RecurringProratesWrongFalsely : Prop := recurringProratesRow.holds Try.pinned (OpenSpec.ofChange recurringProratesWrong)

/-- 'billinglaw44.RecurringParts': WHATEVER THE INPUT: true; the input reads as it did. -/
def recurringPartsSpec : ChangeSpec := { name := "recurringParts", fn := fun _ => fun
  | [d1, d2, d3] => { results := [.lit (.bool true)], args := [d1, d2, d3] }
  | _ => none }
def recurringPartsRow : OpenClaim := { program := "ytimclpgkdplnhaa", sum := "226f67f3b51312fd04be227823e61dad834c28685531f59889746f37430970a4", func := "billing/billinglaw44.RecurringParts", spec := "recurringParts", unfollowed := true, recurses := true, apart := false }
def RecurringPartsSaid : Prop := recurringPartsRow.holds Try.pinned (OpenSpec.ofChange recurringPartsSpec)

/-- ITS FALSE NEIGHBOUR: 'it returns false'. Refute it at one input. -/
def recurringPartsWrong : ChangeSpec := { name := "recurringParts", fn := fun _ => fun
  | [d1, d2, d3] => { results := [.lit (.bool false)], args := [d1, d2, d3] }
  | _ => none }
def RecurringPartsWrongFalsely : Prop := recurringPartsRow.holds Try.pinned (OpenSpec.ofChange recurringPartsWrong)

/-- 'billinglaw44.RecurringOrder': WHATEVER THE INPUT: true; the input reads as it did. -/
def recurringOrderSpec : ChangeSpec := { name := "recurringOrder", fn := fun _ => fun
  | [d1, d2, d3] => { results := [.lit (.bool true)], args := [d1, d2, d3] }
  | _ => none }
def recurringOrderRow : OpenClaim := { program := "ytimclpgkdplnhaa", sum := "226f67f3b51312fd04be227823e61dad834c28685531f59889746f37430970a4", func := "billing/billinglaw44.RecurringOrder", spec := "recurringOrder", unfollowed := true, recurses := true, apart := false }
def RecurringOrderSaid : Prop := recurringOrderRow.holds Try.pinned (OpenSpec.ofChange recurringOrderSpec)

/-- ITS FALSE NEIGHBOUR: 'it returns false'. Refute it at one input. -/
def recurringOrderWrong : ChangeSpec := { name := "recurringOrder", fn := fun _ => fun
  | [d1, d2, d3] => { results := [.lit (.bool false)], args := [d1, d2, d3] }
  | _ => none }
def RecurringOrderWrongFalsely : Prop := recurringOrderRow.holds Try.pinned (OpenSpec.ofChange recurringOrderWrong)

/-- 'billinglaw04.IntervalCuts': WHATEVER THE INPUT: true; the input reads as it did. -/
def intervalCutsSpec : ChangeSpec := { name := "intervalCuts", fn := fun _ => fun
  | [d1, d2] => { results := [.lit (.bool true)], args := [d1, d2] }
  | _ => none }
def intervalCutsRow : OpenClaim := { program := "ytimclpgkdplnhaa", sum := "226f67f3b51312fd04be227823e61dad834c28685531f59889746f37430970a4", func := "billing/billinglaw04.IntervalCuts", spec := "intervalCuts", unfollowed := true, recurses := true, apart := false }
def IntervalCutsSaid : Prop := intervalCutsRow.holds Try.pinned (OpenSpec.ofChange intervalCutsSpec)

/-- ITS FALSE NEIGHBOUR: 'it returns false'. Refute it at one input. -/
def intervalCutsWrong : ChangeSpec := { name := "intervalCuts", fn := fun _ => fun
  | [d1, d2] => { results := [.lit (.bool false)], args := [d1, d2] }
  | _ => none }
def IntervalCutsWrongFalsely : Prop := intervalCutsRow.holds Try.pinned (OpenSpec.ofChange intervalCutsWrong)

/-- 'billinglaw04.IntervalCovers': WHATEVER THE INPUT: true; the input reads as it did. -/
def intervalCoversSpec : ChangeSpec := { name := "intervalCovers", fn := fun _ => fun
  | [d] => { results := [.lit (.bool true)], args := [d] }
  | _ => none }
def intervalCoversRow : OpenClaim := { program := "ytimclpgkdplnhaa", sum := "226f67f3b51312fd04be227823e61dad834c28685531f59889746f37430970a4", func := "billing/billinglaw04.IntervalCovers", spec := "intervalCovers", unfollowed := true, recurses := true, apart := false }
def IntervalCoversSaid : Prop := intervalCoversRow.holds Try.pinned (OpenSpec.ofChange intervalCoversSpec)

/-- ITS FALSE NEIGHBOUR: 'it returns false'. Refute it at one input. -/
def intervalCoversWrong : ChangeSpec := { name := "intervalCovers", fn := fun _ => fun
  | [d] => { results := [.lit (.bool false)], args := [d] }
  | _ => none }
def IntervalCoversWrongFalsely : Prop := intervalCoversRow.holds Try.pinned (OpenSpec.ofChange intervalCoversWrong)

/-- 'billinglaw04.IntervalMinus': WHATEVER THE INPUT: true; the input reads as it did. -/
def intervalMinusSpec : ChangeSpec := { name := "intervalMinus", fn := fun _ => fun
  | [d1, d2] => { results := [.lit (.bool true)], args := [d1, d2] }
  | _ => none }
def intervalMinusRow : OpenClaim := { program := "ytimclpgkdplnhaa", sum := "226f67f3b51312fd04be227823e61dad834c28685531f59889746f37430970a4", func := "billing/billinglaw04.IntervalMinus", spec := "intervalMinus", unfollowed := true, recurses := true, apart := false }
def IntervalMinusSaid : Prop := intervalMinusRow.holds Try.pinned (OpenSpec.ofChange intervalMinusSpec)

/-- ITS FALSE NEIGHBOUR: 'it returns false'. Refute it at one input. -/
def intervalMinusWrong : ChangeSpec := { name := "intervalMinus", fn := fun _ => fun
  | [d1, d2] => { results := [.lit (.bool false)], args := [d1, d2] }
  | _ => none }
def IntervalMinusWrongFalsely : Prop := intervalMinusRow.holds Try.pinned (OpenSpec.ofChange intervalMinusWrong)

/-- 'billinglaw04.IntervalTotals': WHATEVER THE INPUT: true; the input reads as it did. -/
def intervalTotalsSpec : ChangeSpec := { name := "intervalTotals", fn := fun _ => fun
  | [d1, d2] => { results := [.lit (.bool true)], args := [d1, d2] }
  | _ => none }
def intervalTotalsRow : OpenClaim := { program := "ytimclpgkdplnhaa", sum := "226f67f3b51312fd04be227823e61dad834c28685531f59889746f37430970a4", func := "billing/billinglaw04.IntervalTotals", spec := "intervalTotals", unfollowed := true, recurses := true, apart := false }
def IntervalTotalsSaid : Prop := intervalTotalsRow.holds Try.pinned (OpenSpec.ofChange intervalTotalsSpec)

/-- ITS FALSE NEIGHBOUR: 'it returns false'. Refute it at one input. -/
def intervalTotalsWrong : ChangeSpec := { name := "intervalTotals", fn := fun _ => fun
  | [d1, d2] => { results := [.lit (.bool false)], args := [d1, d2] }
  | _ => none }
def IntervalTotalsWrongFalsely : Prop := intervalTotalsRow.holds Try.pinned (OpenSpec.ofChange intervalTotalsWrong)

/-- 'billinglaw04.IntervalPoints': WHATEVER THE INPUT: true; the input reads as it did. -/
def intervalPointsSpec : ChangeSpec := { name := "intervalPoints", fn := fun _ => fun
  | [d1, d2, d3] => { results := [.lit (.bool true)], args := [d1, d2, d3] }
  | _ => none }
def intervalPointsRow : OpenClaim := { program := "ytimclpgkdplnhaa", sum := "226f67f3b51312fd04be227823e61dad834c28685531f59889746f37430970a4", func := "billing/billinglaw04.IntervalPoints", spec := "intervalPoints", unfollowed := true, recurses := true, apart := false }
def IntervalPointsSaid : Prop := intervalPointsRow.holds Try.pinned (OpenSpec.ofChange intervalPointsSpec)

/-- ITS FALSE NEIGHBOUR: 'it returns false'. Refute it at one input. -/
def intervalPointsWrong : ChangeSpec := { name := "intervalPoints", fn := fun _ => fun
  | [d1, d2, d3] => { results := [.lit (.bool false)], args := [d1, d2, d3] }
  | _ => none }
def IntervalPointsWrongFalsely : Prop := intervalPointsRow.holds Try.pinned (OpenSpec.ofChange intervalPointsWrong)

/-- 'billinglaw04.IntervalSets': WHATEVER THE INPUT: true; the input reads as it did. -/
def intervalSetsSpec : ChangeSpec := { name := "intervalSets", fn := fun _ => fun
  | [d1, d2, d3] => { results := [.lit (.bool true)], args := [d1, d2, d3] }
  | _ => none }
def intervalSetsRow : OpenClaim := { program := "ytimclpgkdplnhaa", sum := "226f67f3b51312fd04be227823e61dad834c28685531f59889746f37430970a4", func := "billing/billinglaw04.IntervalSets", spec := "intervalSets", unfollowed := true, recurses := true, apart := false }
def IntervalSetsSaid : Prop := intervalSetsRow.holds Try.pinned (OpenSpec.ofChange intervalSetsSpec)

/-- ITS FALSE NEIGHBOUR: 'it returns false'. Refute it at one input. -/
def intervalSetsWrong : ChangeSpec := { name := "intervalSets", fn := fun _ => fun
  | [d1, d2, d3] => { results := [.lit (.bool false)], args := [d1, d2, d3] }
  | _ => none }
def IntervalSetsWrongFalsely : Prop := intervalSetsRow.holds Try.pinned (OpenSpec.ofChange intervalSetsWrong)

/- THE SECOND FORM. 'bulk': how many values and letters a reading holds, each counted each time it is reached (what is shared counts as often as it is met; a slice's spare places count too). A statement '..UptoSaid' is the law's where the arguments, and the package variables that the reading takes, are together of bulk at most 1048576: NARROWER than '..Said'. Prove '..Said' where nothing that the law and all that it calls make is longer than what came in: it says more and counts as full. Else prove '..UptoSaid'. A law counts once. -/
mutual
def uptoBulk {H : Type} : DataW H → Nat
  | .lit (.string bytes) => bytes.length + 1
  | .lit _ => 1
  | .nil => 1
  | .ptr d => uptoBulk d + 1
  | .slice elems spare => uptoBulkAll elems + uptoBulkAll spare + 1
  | .agg parts => uptoBulkAll parts + 1
  | .iface _ d => uptoBulk d + 1
  | .map entries => uptoBulkEntries entries + 1
  | .held _ => 1
def uptoBulkAll {H : Type} : List (DataW H) → Nat
  | [] => 0
  | d :: r => uptoBulk d + uptoBulkAll r
def uptoBulkEntries {H : Type} : List (Lit × DataW H) → Nat
  | [] => 0
  | x :: r => uptoBulkEntry x + uptoBulkEntries r
def uptoBulkEntry {H : Type} : Lit × DataW H → Nat
  | (.string bytes, d) => bytes.length + uptoBulk d + 1
  | (_, d) => uptoBulk d + 1
 end
def uptoSmall : (H : Type) → List (DataW H) → Bool := fun _ ds => decide (uptoBulkAll ds ≤ 1048576)
def OpenSpec.upto (s : _root_.Go.ChangeSpec) : _root_.Go.OpenSpec := { _root_.Go.OpenSpec.ofChange s with cond := some uptoSmall }

/-- 'billinglaw44.RecurringProrates', WHERE WHAT IT READS IS OF BULK AT MOST 1048576: true; the input reads as it did. -/
def recurringProratesUptoRow : OpenClaim := { program := "ytimclpgkdplnhaa", sum := "226f67f3b51312fd04be227823e61dad834c28685531f59889746f37430970a4", func := "billing/billinglaw44.RecurringProrates", spec := "recurringProrates", unfollowed := true, recurses := true, apart := false, narrowed := true }
def RecurringProratesUptoSaid : Prop := recurringProratesUptoRow.holds Try.pinned (OpenSpec.upto recurringProratesSpec)

/-- 'billinglaw44.RecurringParts', WHERE WHAT IT READS IS OF BULK AT MOST 1048576: true; the input reads as it did. -/
def recurringPartsUptoRow : OpenClaim := { program := "ytimclpgkdplnhaa", sum := "226f67f3b51312fd04be227823e61dad834c28685531f59889746f37430970a4", func := "billing/billinglaw44.RecurringParts", spec := "recurringParts", unfollowed := true, recurses := true, apart := false, narrowed := true }
def RecurringPartsUptoSaid : Prop := recurringPartsUptoRow.holds Try.pinned (OpenSpec.upto recurringPartsSpec)

/-- 'billinglaw44.RecurringOrder', WHERE WHAT IT READS IS OF BULK AT MOST 1048576: true; the input reads as it did. -/
def recurringOrderUptoRow : OpenClaim := { program := "ytimclpgkdplnhaa", sum := "226f67f3b51312fd04be227823e61dad834c28685531f59889746f37430970a4", func := "billing/billinglaw44.RecurringOrder", spec := "recurringOrder", unfollowed := true, recurses := true, apart := false, narrowed := true }
def RecurringOrderUptoSaid : Prop := recurringOrderUptoRow.holds Try.pinned (OpenSpec.upto recurringOrderSpec)

/-- 'billinglaw04.IntervalCuts', WHERE WHAT IT READS IS OF BULK AT MOST 1048576: true; the input reads as it did. -/
def intervalCutsUptoRow : OpenClaim := { program := "ytimclpgkdplnhaa", sum := "226f67f3b51312fd04be227823e61dad834c28685531f59889746f37430970a4", func := "billing/billinglaw04.IntervalCuts", spec := "intervalCuts", unfollowed := true, recurses := true, apart := false, narrowed := true }
def IntervalCutsUptoSaid : Prop := intervalCutsUptoRow.holds Try.pinned (OpenSpec.upto intervalCutsSpec)

/-- 'billinglaw04.IntervalCovers', WHERE WHAT IT READS IS OF BULK AT MOST 1048576: true; the input reads as it did. -/
def intervalCoversUptoRow : OpenClaim := { program := "ytimclpgkdplnhaa", sum := "226f67f3b51312fd04be227823e61dad834c28685531f59889746f37430970a4", func := "billing/billinglaw04.IntervalCovers", spec := "intervalCovers", unfollowed := true, recurses := true, apart := false, narrowed := true }
def IntervalCoversUptoSaid : Prop := intervalCoversUptoRow.holds Try.pinned (OpenSpec.upto intervalCoversSpec)

/-- 'billinglaw04.IntervalMinus', WHERE WHAT IT READS IS OF BULK AT MOST 1048576: true; the input reads as it did. -/
def intervalMinusUptoRow : OpenClaim := { program := "ytimclpgkdplnhaa", sum := "226f67f3b51312fd04be227823e61dad834c28685531f59889746f37430970a4", func := "billing/billinglaw04.IntervalMinus", spec := "intervalMinus", unfollowed := true, recurses := true, apart := false, narrowed := true }
def IntervalMinusUptoSaid : Prop := intervalMinusUptoRow.holds Try.pinned (OpenSpec.upto intervalMinusSpec)

/-- 'billinglaw04.IntervalTotals', WHERE WHAT IT READS IS OF BULK AT MOST 1048576: true; the input reads as it did. -/
def intervalTotalsUptoRow : OpenClaim := { program := "ytimclpgkdplnhaa", sum := "226f67f3b51312fd04be227823e61dad834c28685531f59889746f37430970a4", func := "billing/billinglaw04.IntervalTotals", spec := "intervalTotals", unfollowed := true, recurses := true, apart := false, narrowed := true }
def IntervalTotalsUptoSaid : Prop := intervalTotalsUptoRow.holds Try.pinned (OpenSpec.upto intervalTotalsSpec)

/-- 'billinglaw04.IntervalPoints', WHERE WHAT IT READS IS OF BULK AT MOST 1048576: true; the input reads as it did. -/
def intervalPointsUptoRow : OpenClaim := { program := "ytimclpgkdplnhaa", sum := "226f67f3b51312fd04be227823e61dad834c28685531f59889746f37430970a4", func := "billing/billinglaw04.IntervalPoints", spec := "intervalPoints", unfollowed := true, recurses := true, apart := false, narrowed := true }
def IntervalPointsUptoSaid : Prop := intervalPointsUptoRow.holds Try.pinned (OpenSpec.upto intervalPointsSpec)

/-- 'billinglaw04.IntervalSets', WHERE WHAT IT READS IS OF BULK AT MOST 1048576: true; the input reads as it did. -/
def intervalSetsUptoRow : OpenClaim := { program := "ytimclpgkdplnhaa", sum := "226f67f3b51312fd04be227823e61dad834c28685531f59889746f37430970a4", func := "billing/billinglaw04.IntervalSets", spec := "intervalSets", unfollowed := true, recurses := true, apart := false, narrowed := true }
def IntervalSetsUptoSaid : Prop := intervalSetsUptoRow.holds Try.pinned (OpenSpec.upto intervalSetsSpec)

end Rows
end Go.Proofs.Ytimclpgkdplnhaa
