/-
  No cell of these rows narrows 'for every input' (looked for: loops, veiled, ifaces, maps, wideKeys, modest, calm, conditions, laid).
  DERIVED. THE GIVEN ROWS OF THIS SEAT. 5 by the template 'for every input the law returns true; each argument reads behind the call as it read before'; 0 by the template 'total and deterministic' (their statements: YtmilpaibkemmdaaTotals.lean).
  GIVEN WITH THE SEED: the statements are not yours to turn. If you find one false, say at which input.
  Laid BY PROGRAM, IN A SANDBOX (cutbox-rows.mjs): the forced cells as the released guide's own fill.sh prints them over the translation 5e8b3fa3c5b77917… (all of the seat's roots in one cut). By AI agents, Wed Nov 11 2026. No macro, syntax, notation, axiom, sorry.
-/
import Derived.Test.YtmilpaibkemmdaaChecked
import GoSem.Claim
import GoSem.ClaimJoined
import GoSem.ClaimMapViews
import Derived.JoinedTies
import Derived.KernelRfl
namespace Go.Proofs.Ytmilpaibkemmdaa
/- THE CELL 'sum', in the pinned program and in every row, IS THE sha256 OF THE DUMP (.gsa) THAT YtmilpaibkemmdaaProg.lean LOADS. Nothing in Lean hashes anything: it is a label: what it is worth is what the hold of that sum in a sandbox is worth. -/
noncomputable def Try.pinned : Pinned := { name := "ytmilpaibkemmdaa", sum := "5e8b3fa3c5b7791707b464497b74ea18bb8248fb740f0015cbf115a522e696ad", checked := Try.checked }
namespace Rows
def none {H : Type} : Left H := { results := [], args := [] }

/-- 'billinglaw43.CycleOfs': WHATEVER THE INPUT: true; the input reads as it did. -/
def cycleOfsSpec : ChangeSpec := { name := "cycleOfs", fn := fun _ => fun
  | [d1, d2, d3] => { results := [.lit (.bool true)], args := [d1, d2, d3] }
  | _ => none }
def cycleOfsRow : OpenClaim := { program := "ytmilpaibkemmdaa", sum := "5e8b3fa3c5b7791707b464497b74ea18bb8248fb740f0015cbf115a522e696ad", func := "billing/billinglaw43.CycleOfs", spec := "cycleOfs", unfollowed := true, recurses := true, apart := false }
def CycleOfsSaid : Prop := cycleOfsRow.holds Try.pinned (OpenSpec.ofChange cycleOfsSpec)

/-- ITS FALSE NEIGHBOUR: 'it returns false'. Refute it at one input. -/
def cycleOfsWrong : ChangeSpec := { name := "cycleOfs", fn := fun _ => fun
  | [d1, d2, d3] => { results := [.lit (.bool false)], args := [d1, d2, d3] }
  | _ => none }
def CycleOfsWrongFalsely : Prop := cycleOfsRow.holds Try.pinned (OpenSpec.ofChange cycleOfsWrong)

/-- 'billinglaw43.CycleDues': WHATEVER THE INPUT: true; the input reads as it did. -/
def cycleDuesSpec : ChangeSpec := { name := "cycleDues", fn := fun _ => fun
  | [d1, d2, d3] => { results := [.lit (.bool true)], args := [d1, d2, d3] }
  | _ => none }
def cycleDuesRow : OpenClaim := { program := "ytmilpaibkemmdaa", sum := "5e8b3fa3c5b7791707b464497b74ea18bb8248fb740f0015cbf115a522e696ad", func := "billing/billinglaw43.CycleDues", spec := "cycleDues", unfollowed := true, recurses := true, apart := false }
def CycleDuesSaid : Prop := cycleDuesRow.holds Try.pinned (OpenSpec.ofChange cycleDuesSpec)

/-- ITS FALSE NEIGHBOUR: 'it returns false'. Refute it at one input. -/
def cycleDuesWrong : ChangeSpec := { name := "cycleDues", fn := fun _ => fun
  | [d1, d2, d3] => { results := [.lit (.bool false)], args := [d1, d2, d3] }
  | _ => none }
def CycleDuesWrongFalsely : Prop := cycleDuesRow.holds Try.pinned (OpenSpec.ofChange cycleDuesWrong)

/-- 'billinglaw43.CycleOnce': WHATEVER THE INPUT: true; the input reads as it did. -/
def cycleOnceSpec : ChangeSpec := { name := "cycleOnce", fn := fun _ => fun
  | [d1, d2] => { results := [.lit (.bool true)], args := [d1, d2] }
  | _ => none }
def cycleOnceRow : OpenClaim := { program := "ytmilpaibkemmdaa", sum := "5e8b3fa3c5b7791707b464497b74ea18bb8248fb740f0015cbf115a522e696ad", func := "billing/billinglaw43.CycleOnce", spec := "cycleOnce", unfollowed := true, recurses := true, apart := false }
def CycleOnceSaid : Prop := cycleOnceRow.holds Try.pinned (OpenSpec.ofChange cycleOnceSpec)

/-- ITS FALSE NEIGHBOUR: 'it returns false'. Refute it at one input. -/
def cycleOnceWrong : ChangeSpec := { name := "cycleOnce", fn := fun _ => fun
  | [d1, d2] => { results := [.lit (.bool false)], args := [d1, d2] }
  | _ => none }
def CycleOnceWrongFalsely : Prop := cycleOnceRow.holds Try.pinned (OpenSpec.ofChange cycleOnceWrong)

/-- 'billinglaw43.CycleLists': WHATEVER THE INPUT: true; the input reads as it did. -/
def cycleListsSpec : ChangeSpec := { name := "cycleLists", fn := fun _ => fun
  | [d1, d2, d3] => { results := [.lit (.bool true)], args := [d1, d2, d3] }
  | _ => none }
def cycleListsRow : OpenClaim := { program := "ytmilpaibkemmdaa", sum := "5e8b3fa3c5b7791707b464497b74ea18bb8248fb740f0015cbf115a522e696ad", func := "billing/billinglaw43.CycleLists", spec := "cycleLists", unfollowed := true, recurses := true, apart := false }
def CycleListsSaid : Prop := cycleListsRow.holds Try.pinned (OpenSpec.ofChange cycleListsSpec)

/-- ITS FALSE NEIGHBOUR: 'it returns false'. Refute it at one input. -/
def cycleListsWrong : ChangeSpec := { name := "cycleLists", fn := fun _ => fun
  | [d1, d2, d3] => { results := [.lit (.bool false)], args := [d1, d2, d3] }
  | _ => none }
def CycleListsWrongFalsely : Prop := cycleListsRow.holds Try.pinned (OpenSpec.ofChange cycleListsWrong)

/-- 'billinglaw43.CycleOne': WHATEVER THE INPUT: true; the input reads as it did. -/
def cycleOneSpec : ChangeSpec := { name := "cycleOne", fn := fun _ => fun
  | [d1, d2, d3] => { results := [.lit (.bool true)], args := [d1, d2, d3] }
  | _ => none }
def cycleOneRow : OpenClaim := { program := "ytmilpaibkemmdaa", sum := "5e8b3fa3c5b7791707b464497b74ea18bb8248fb740f0015cbf115a522e696ad", func := "billing/billinglaw43.CycleOne", spec := "cycleOne", unfollowed := true, recurses := true, apart := false }
def CycleOneSaid : Prop := cycleOneRow.holds Try.pinned (OpenSpec.ofChange cycleOneSpec)

/-- ITS FALSE NEIGHBOUR: 'it returns false'. Refute it at one input. -/
def cycleOneWrong : ChangeSpec := { name := "cycleOne", fn := fun _ => fun
  | [d1, d2, d3] => { results := [.lit (.bool false)], args := [d1, d2, d3] }
  | _ => none }
def CycleOneWrongFalsely : Prop := cycleOneRow.holds Try.pinned (OpenSpec.ofChange cycleOneWrong)

/- THE SECOND FORM. 'bulk': how many values and letters a reading holds, each counted each time it is reached (what is shared counts as often as it is met; a slice's spare places count too). A statement '..UptoSaid' is the law's where the arguments, and the package variables that the reading takes, are together of bulk at most 1048576: NARROWER than '..Said'. Prove '..Said' where nothing that the law and all that it calls make is longer than what came in: it says more and counts as full. Else prove '..UptoSaid'. A law counts once. -/
mutual
def uptoBulk {H : Type} : DataW H → Nat
  | .lit (.string bytes) => bytes.length + 1
  | .lit _ => 1
  | .nil => 1
  | .ptr d => uptoBulk d + 1
  | .slice elems spare => uptoBulkAll elems + uptoBulkAll spare + 1
  | .agg parts => uptoBulkAll parts + 1
  | .iface _ d => uptoBulk d + 1
  | .map entries => uptoBulkEntries entries + 1
  | .held _ => 1
def uptoBulkAll {H : Type} : List (DataW H) → Nat
  | [] => 0
  | d :: r => uptoBulk d + uptoBulkAll r
def uptoBulkEntries {H : Type} : List (Lit × DataW H) → Nat
  | [] => 0
  | x :: r => uptoBulkEntry x + uptoBulkEntries r
def uptoBulkEntry {H : Type} : Lit × DataW H → Nat
  | (.string bytes, d) => bytes.length + uptoBulk d + 1
  | (_, d) => uptoBulk d + 1
 end
def uptoSmall : (H : Type) → List (DataW H) → Bool := fun _ ds => decide (uptoBulkAll ds ≤ 1048576)
def OpenSpec.upto (s : _root_.Go.ChangeSpec) : _root_.Go.OpenSpec := { _root_.Go.OpenSpec.ofChange s with cond := some uptoSmall }

/-- 'billinglaw43.CycleOfs', WHERE WHAT IT READS IS OF BULK AT MOST 1048576: true; the input reads as it did. -/
def cycleOfsUptoRow : OpenClaim := { program := "ytmilpaibkemmdaa", sum := "5e8b3fa3c5b7791707b464497b74ea18bb8248fb740f0015cbf115a522e696ad", func := "billing/billinglaw43.CycleOfs", spec := "cycleOfs", unfollowed := true, recurses := true, apart := false, narrowed := true }
def CycleOfsUptoSaid : Prop := cycleOfsUptoRow.holds Try.pinned (OpenSpec.upto cycleOfsSpec)

/-- 'billinglaw43.CycleDues', WHERE WHAT IT READS IS OF BULK AT MOST 1048576: true; the input reads as it did. -/
def cycleDuesUptoRow : OpenClaim := { program := "ytmilpaibkemmdaa", sum := "5e8b3fa3c5b7791707b464497b74ea18bb8248fb740f0015cbf115a522e696ad", func := "billing/billinglaw43.CycleDues", spec := "cycleDues", unfollowed := true, recurses := true, apart := false, narrowed := true }
def CycleDuesUptoSaid : Prop := cycleDuesUptoRow.holds Try.pinned (OpenSpec.upto cycleDuesSpec)

/-- 'billinglaw43.CycleOnce', WHERE WHAT IT READS IS OF BULK AT MOST 1048576: true; the input reads as it did. -/
def cycleOnceUptoRow : OpenClaim := { program := "ytmilpaibkemmdaa", sum := "5e8b3fa3c5b7791707b464497b74ea18bb8248fb740f0015cbf115a522e696ad", func := "billing/billinglaw43.CycleOnce", spec := "cycleOnce", unfollowed := true, recurses := true, apart := false, narrowed := true }
def CycleOnceUptoSaid : Prop := cycleOnceUptoRow.holds Try.pinned (OpenSpec.upto cycleOnceSpec)

/-- 'billinglaw43.CycleLists', WHERE WHAT IT READS IS OF BULK AT MOST 1048576: true; the input reads as it did. -/
def cycleListsUptoRow : OpenClaim := { program := "ytmilpaibkemmdaa", sum := "5e8b3fa3c5b7791707b464497b74ea18bb8248fb740f0015cbf115a522e696ad", func := "billing/billinglaw43.CycleLists", spec := "cycleLists", unfollowed := true, recurses := true, apart := false, narrowed := true }
def CycleListsUptoSaid : Prop := cycleListsUptoRow.holds Try.pinned (OpenSpec.upto cycleListsSpec)

/-- 'billinglaw43.CycleOne', WHERE WHAT IT READS IS OF BULK AT MOST 1048576: true; the input reads as it did. -/
def cycleOneUptoRow : OpenClaim := { program := "ytmilpaibkemmdaa", sum := "5e8b3fa3c5b7791707b464497b74ea18bb8248fb740f0015cbf115a522e696ad", func := "billing/billinglaw43.CycleOne", spec := "cycleOne", unfollowed := true, recurses := true, apart := false, narrowed := true }
def CycleOneUptoSaid : Prop := cycleOneUptoRow.holds Try.pinned (OpenSpec.upto cycleOneSpec)

end Rows
end Go.Proofs.Ytmilpaibkemmdaa
