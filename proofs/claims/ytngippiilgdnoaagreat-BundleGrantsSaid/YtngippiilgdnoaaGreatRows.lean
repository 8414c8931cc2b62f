/-
  No cell of these rows narrows 'for every input' (looked for: loops, veiled, ifaces, maps, wideKeys, modest, calm, conditions, laid).
  DERIVED. THE GIVEN ROWS OF THIS SEAT. 8 by the template 'for every input the law returns true; each argument reads behind the call as it read before'; 0 by the template 'total and deterministic' (their statements: YtngippiilgdnoaaGreatTotals.lean).
  GIVEN WITH THE SEED: the statements are not yours to turn. If you find one false, say at which input.
  Laid BY PROGRAM, IN A SANDBOX (cutbox-rows.mjs): the forced cells as the released guide's own fill.sh prints them over the translation 7541b67f954ccdfc… (all of the seat's roots in one cut). By AI agents, Wed Nov 11 2026. No macro, syntax, notation, axiom, sorry.
-/
import Derived.Test.YtngippiilgdnoaaGreatChecked
import GoSem.Claim
import GoSem.ClaimJoined
import GoSem.ClaimMapViews
import Derived.JoinedTies
import Derived.KernelRfl
namespace Go.Proofs.YtngippiilgdnoaaGreat
/- THE CELL 'sum', in the pinned program and in every row, IS THE sha256 OF THE DUMP (.gsa) THAT YtngippiilgdnoaaGreatProg.lean LOADS. Nothing in Lean hashes anything: it is a label: what it is worth is what the hold of that sum in a sandbox is worth. -/
noncomputable def Tryz.pinned : Pinned := { name := "ytngippiilgdnoaagreat", sum := "7541b67f954ccdfcaa1f885e4b469991881a15a9d84048fe48e0f4be1cfd9a10", checked := Tryz.checked }
namespace Rows
def none {H : Type} : Left H := { results := [], args := [] }

/-- 'billinglaw44.RecurringFees': WHATEVER THE INPUT: true; the input reads as it did. -/
def recurringFeesSpec : ChangeSpec := { name := "recurringFees", fn := fun _ => fun
  | [d1, d2, d3] => { results := [.lit (.bool true)], args := [d1, d2, d3] }
  | _ => none }
def recurringFeesRow : OpenClaim := { program := "ytngippiilgdnoaagreat", sum := "7541b67f954ccdfcaa1f885e4b469991881a15a9d84048fe48e0f4be1cfd9a10", func := "billing/billinglaw44.RecurringFees", spec := "recurringFees", unfollowed := true, recurses := true, plainKeys := false, apart := false }
def RecurringFeesSaid : Prop := recurringFeesRow.holds Tryz.pinned (OpenSpec.ofChange recurringFeesSpec)

/-- ITS FALSE NEIGHBOUR: 'it returns false'. Refute it at one input. -/
def recurringFeesWrong : ChangeSpec := { name := "recurringFees", fn := fun _ => fun
  | [d1, d2, d3] => { results := [.lit (.bool false)], args := [d1, d2, d3] }
  | _ => none }
def RecurringFeesWrongFalsely : Prop := recurringFeesRow.holds Tryz.pinned (OpenSpec.ofChange recurringFeesWrong)

/-- 'billinglaw44.RecurringLines': WHATEVER THE INPUT: true; the input reads as it did. -/
def recurringLinesSpec : ChangeSpec := { name := "recurringLines", fn := fun _ => fun
  | [d1, d2] => { results := [.lit (.bool true)], args := [d1, d2] }
  | _ => none }
def recurringLinesRow : OpenClaim := { program := "ytngippiilgdnoaagreat", sum := "7541b67f954ccdfcaa1f885e4b469991881a15a9d84048fe48e0f4be1cfd9a10", func := "billing/billinglaw44.RecurringLines", spec := "recurringLines", unfollowed := true, recurses := true, plainKeys := false, apart := false }
def RecurringLinesSaid : Prop := recurringLinesRow.holds Tryz.pinned (OpenSpec.ofChange recurringLinesSpec)

/-- ITS FALSE NEIGHBOUR: 'it returns false'. Refute it at one input. -/
def recurringLinesWrong : ChangeSpec := { name := "recurringLines", fn := fun _ => fun
  | [d1, d2] => { results := [.lit (.bool false)], args := [d1, d2] }
  | _ => none }
def RecurringLinesWrongFalsely : Prop := recurringLinesRow.holds Tryz.pinned (OpenSpec.ofChange recurringLinesWrong)

/-- 'billinglaw35.BundleAdvances': WHATEVER THE INPUT: true; the input reads as it did. -/
def bundleAdvancesSpec : ChangeSpec := { name := "bundleAdvances", fn := fun _ => fun
  | [d1, d2] => { results := [.lit (.bool true)], args := [d1, d2] }
  | _ => none }
def bundleAdvancesRow : OpenClaim := { program := "ytngippiilgdnoaagreat", sum := "7541b67f954ccdfcaa1f885e4b469991881a15a9d84048fe48e0f4be1cfd9a10", func := "billing/billinglaw35.BundleAdvances", spec := "bundleAdvances", unfollowed := true, recurses := true, plainKeys := false, apart := false }
def BundleAdvancesSaid : Prop := bundleAdvancesRow.holds Tryz.pinned (OpenSpec.ofChange bundleAdvancesSpec)

/-- ITS FALSE NEIGHBOUR: 'it returns false'. Refute it at one input. -/
def bundleAdvancesWrong : ChangeSpec := { name := "bundleAdvances", fn := fun _ => fun
  | [d1, d2] => { results := [.lit (.bool false)], args := [d1, d2] }
  | _ => none }
def BundleAdvancesWrongFalsely : Prop := bundleAdvancesRow.holds Tryz.pinned (OpenSpec.ofChange bundleAdvancesWrong)

/-- 'billinglaw35.BundleAdvance': WHATEVER THE INPUT: true; the input reads as it did. -/
def bundleAdvanceSpec : ChangeSpec := { name := "bundleAdvance", fn := fun _ => fun
  | [d1, d2, d3] => { results := [.lit (.bool true)], args := [d1, d2, d3] }
  | _ => none }
def bundleAdvanceRow : OpenClaim := { program := "ytngippiilgdnoaagreat", sum := "7541b67f954ccdfcaa1f885e4b469991881a15a9d84048fe48e0f4be1cfd9a10", func := "billing/billinglaw35.BundleAdvance", spec := "bundleAdvance", unfollowed := true, recurses := true, plainKeys := false, apart := false }
def BundleAdvanceSaid : Prop := bundleAdvanceRow.holds Tryz.pinned (OpenSpec.ofChange bundleAdvanceSpec)

/-- ITS FALSE NEIGHBOUR: 'it returns false'. Refute it at one input. -/
def bundleAdvanceWrong : ChangeSpec := { name := "bundleAdvance", fn := fun _ => fun
  | [d1, d2, d3] => { results := [.lit (.bool false)], args := [d1, d2, d3] }
  | _ => none }
def BundleAdvanceWrongFalsely : Prop := bundleAdvanceRow.holds Tryz.pinned (OpenSpec.ofChange bundleAdvanceWrong)

/-- 'billinglaw35.BundleKeeps': WHATEVER THE INPUT: true; the input reads as it did. -/
def bundleKeepsSpec : ChangeSpec := { name := "bundleKeeps", fn := fun _ => fun
  | [d1, d2] => { results := [.lit (.bool true)], args := [d1, d2] }
  | _ => none }
def bundleKeepsRow : OpenClaim := { program := "ytngippiilgdnoaagreat", sum := "7541b67f954ccdfcaa1f885e4b469991881a15a9d84048fe48e0f4be1cfd9a10", func := "billing/billinglaw35.BundleKeeps", spec := "bundleKeeps", unfollowed := true, recurses := true, plainKeys := false, apart := false }
def BundleKeepsSaid : Prop := bundleKeepsRow.holds Tryz.pinned (OpenSpec.ofChange bundleKeepsSpec)

/-- ITS FALSE NEIGHBOUR: 'it returns false'. Refute it at one input. -/
def bundleKeepsWrong : ChangeSpec := { name := "bundleKeeps", fn := fun _ => fun
  | [d1, d2] => { results := [.lit (.bool false)], args := [d1, d2] }
  | _ => none }
def BundleKeepsWrongFalsely : Prop := bundleKeepsRow.holds Tryz.pinned (OpenSpec.ofChange bundleKeepsWrong)

/-- 'billinglaw35.BundleRolls': WHATEVER THE INPUT: true; the input reads as it did. -/
def bundleRollsSpec : ChangeSpec := { name := "bundleRolls", fn := fun _ => fun
  | [d1, d2] => { results := [.lit (.bool true)], args := [d1, d2] }
  | _ => none }
def bundleRollsRow : OpenClaim := { program := "ytngippiilgdnoaagreat", sum := "7541b67f954ccdfcaa1f885e4b469991881a15a9d84048fe48e0f4be1cfd9a10", func := "billing/billinglaw35.BundleRolls", spec := "bundleRolls", unfollowed := true, recurses := true, plainKeys := false, apart := false }
def BundleRollsSaid : Prop := bundleRollsRow.holds Tryz.pinned (OpenSpec.ofChange bundleRollsSpec)

/-- ITS FALSE NEIGHBOUR: 'it returns false'. Refute it at one input. -/
def bundleRollsWrong : ChangeSpec := { name := "bundleRolls", fn := fun _ => fun
  | [d1, d2] => { results := [.lit (.bool false)], args := [d1, d2] }
  | _ => none }
def BundleRollsWrongFalsely : Prop := bundleRollsRow.holds Tryz.pinned (OpenSpec.ofChange bundleRollsWrong)

/-- 'billinglaw35.BundleElse': WHATEVER THE INPUT: true; the input reads as it did. -/
def bundleElseSpec : ChangeSpec := { name := "bundleElse", fn := fun _ => fun
  | [d1, d2] => { results := [.lit (.bool true)], args := [d1, d2] }
  | _ => none }
def bundleElseRow : OpenClaim := { program := "ytngippiilgdnoaagreat", sum := "7541b67f954ccdfcaa1f885e4b469991881a15a9d84048fe48e0f4be1cfd9a10", func := "billing/billinglaw35.BundleElse", spec := "bundleElse", unfollowed := true, recurses := true, plainKeys := false, apart := false }
def BundleElseSaid : Prop := bundleElseRow.holds Tryz.pinned (OpenSpec.ofChange bundleElseSpec)

/-- ITS FALSE NEIGHBOUR: 'it returns false'. Refute it at one input. -/
def bundleElseWrong : ChangeSpec := { name := "bundleElse", fn := fun _ => fun
  | [d1, d2] => { results := [.lit (.bool false)], args := [d1, d2] }
  | _ => none }
def BundleElseWrongFalsely : Prop := bundleElseRow.holds Tryz.pinned (OpenSpec.ofChange bundleElseWrong)

/-- 'billinglaw35.BundleGrants': WHATEVER THE INPUT: true; the input reads as it did. -/
def bundleGrantsSpec : ChangeSpec := { name := "bundleGrants", fn := fun _ => fun
  | [d1, d2, d3] => { results := [.lit (.bool true)], args := [d1, d2, d3] }
  | _ => none }
def bundleGrantsRow : OpenClaim := { program := "ytngippiilgdnoaagreat", sum := "7541b67f954ccdfcaa1f885e4b469991881a15a9d84048fe48e0f4be1cfd9a10", func := "billing/billinglaw35.BundleGrants", spec := "bundleGrants", unfollowed := true, recurses := true, plainKeys := false, apart := false }
def BundleGrantsSaid : Prop := bundleGrantsRow.holds Tryz.pinned (OpenSpec.ofChange bundleGrantsSpec)

/-- ITS FALSE NEIGHBOUR: 'it returns false'. Refute it at one input. -/
def bundleGrantsWrong : ChangeSpec := { name := "bundleGrants", fn := fun _ => fun
  | [d1, d2, d3] => { results := [.lit (.bool false)], args := [d1, d2, d3] }
  | _ => none }
def BundleGrantsWrongFalsely : Prop := bundleGrantsRow.holds Tryz.pinned (OpenSpec.ofChange bundleGrantsWrong)

/- THE SECOND FORM. 'bulk': how many values and letters a reading holds, each counted each time it is reached (what is shared counts as often as it is met; a slice's spare places count too). A statement '..UptoSaid' is the law's where the arguments, and the package variables that the reading takes, are together of bulk at most 1048576: NARROWER than '..Said'. Prove '..Said' where nothing that the law and all that it calls make is longer than what came in: it says more and counts as full. Else prove '..UptoSaid'. A law counts once. -/
mutual
def uptoBulk {H : Type} : DataW H → Nat
  | .lit (.string bytes) => bytes.length + 1
  | .lit _ => 1
  | .nil => 1
  | .ptr d => uptoBulk d + 1
  | .slice elems spare => uptoBulkAll elems + uptoBulkAll spare + 1
  | .agg parts => uptoBulkAll parts + 1
  | .iface _ d => uptoBulk d + 1
  | .map entries => uptoBulkEntries entries + 1
  | .held _ => 1
def uptoBulkAll {H : Type} : List (DataW H) → Nat
  | [] => 0
  | d :: r => uptoBulk d + uptoBulkAll r
def uptoBulkEntries {H : Type} : List (Lit × DataW H) → Nat
  | [] => 0
  | x :: r => uptoBulkEntry x + uptoBulkEntries r
def uptoBulkEntry {H : Type} : Lit × DataW H → Nat
  | (.string bytes, d) => bytes.length + uptoBulk d + 1
  | (_, d) => uptoBulk d + 1
 end
def uptoSmall : (H : Type) → List (DataW H) → Bool := fun _ ds => decide (uptoBulkAll ds ≤ 1048576)
def OpenSpec.upto (s : _root_.Go.ChangeSpec) : _root_.Go.OpenSpec := { _root_.Go.OpenSpec.ofChange s with cond := some uptoSmall }

/-- 'billinglaw44.RecurringFees', WHERE WHAT IT READS IS OF BULK AT MOST 1048576: true; the input reads as it did. -/
def recurringFeesUptoRow : OpenClaim := { program := "ytngippiilgdnoaagreat", sum := "7541b67f954ccdfcaa1f885e4b469991881a15a9d84048fe48e0f4be1cfd9a10", func := "billing/billinglaw44.RecurringFees", spec := "recurringFees", unfollowed := true, recurses := true, plainKeys := false, apart := false, narrowed := true }
def RecurringFeesUptoSaid : Prop := recurringFeesUptoRow.holds Tryz.pinned (OpenSpec.upto recurringFeesSpec)

/-- 'billinglaw44.RecurringLines', WHERE WHAT IT READS IS OF BULK AT MOST 1048576: true; the input reads as it did. -/
def recurringLinesUptoRow : OpenClaim := { program := "ytngippiilgdnoaagreat", sum := "7541b67f954ccdfcaa1f885e4b469991881a15a9d84048fe48e0f4be1cfd9a10", func := "billing/billinglaw44.RecurringLines", spec := "recurringLines", unfollowed := true, recurses := true, plainKeys := false, apart := false, narrowed := true }
def RecurringLinesUptoSaid : Prop := recurringLinesUptoRow.holds Tryz.pinned (OpenSpec.upto recurringLinesSpec)

/-- 'billinglaw35.BundleAdvances', WHERE WHAT IT READS IS OF BULK AT MOST 1048576: true; the input reads as it did. -/
def bundleAdvancesUptoRow : OpenClaim := { program := "ytngippiilgdnoaagreat", sum := "7541b67f954ccdfcaa1f885e4b469991881a15a9d84048fe48e0f4be1cfd9a10", func := "billing/billinglaw35.BundleAdvances", spec := "bundleAdvances", unfollowed := true, recurses := true, plainKeys := false, apart := false, narrowed := true }
def BundleAdvancesUptoSaid : Prop := bundleAdvancesUptoRow.holds Tryz.pinned (OpenSpec.upto bundleAdvancesSpec)

/-- 'billinglaw35.BundleAdvance', WHERE WHAT IT READS IS OF BULK AT MOST 1048576: true; the input reads as it did. -/
def bundleAdvanceUptoRow : OpenClaim := { program := "ytngippiilgdnoaagreat", sum := "7541b67f954ccdfcaa1f885e4b469991881a15a9d84048fe48e0f4be1cfd9a10", func := "billing/billinglaw35.BundleAdvance", spec := "bundleAdvance", unfollowed := true, recurses := true, plainKeys := false, apart := false, narrowed := true }
def BundleAdvanceUptoSaid : Prop := bundleAdvanceUptoRow.holds Tryz.pinned (OpenSpec.upto bundleAdvanceSpec)

/-- 'billinglaw35.BundleKeeps', WHERE WHAT IT READS IS OF BULK AT MOST 1048576: true; the input reads as it did. -/
def bundleKeepsUptoRow : OpenClaim := { program := "ytngippiilgdnoaagreat", sum := "7541b67f954ccdfcaa1f885e4b469991881a15a9d84048fe48e0f4be1cfd9a10", func := "billing/billinglaw35.BundleKeeps", spec := "bundleKeeps", unfollowed := true, recurses := true, plainKeys := false, apart := false, narrowed := true }
def BundleKeepsUptoSaid : Prop := bundleKeepsUptoRow.holds Tryz.pinned (OpenSpec.upto bundleKeepsSpec)

/-- 'billinglaw35.BundleRolls', WHERE WHAT IT READS IS OF BULK AT MOST 1048576: true; the input reads as it did. -/
def bundleRollsUptoRow : OpenClaim := { program := "ytngippiilgdnoaagreat", sum := "7541b67f954ccdfcaa1f885e4b469991881a15a9d84048fe48e0f4be1cfd9a10", func := "billing/billinglaw35.BundleRolls", spec := "bundleRolls", unfollowed := true, recurses := true, plainKeys := false, apart := false, narrowed := true }
def BundleRollsUptoSaid : Prop := bundleRollsUptoRow.holds Tryz.pinned (OpenSpec.upto bundleRollsSpec)

/-- 'billinglaw35.BundleElse', WHERE WHAT IT READS IS OF BULK AT MOST 1048576: true; the input reads as it did. -/
def bundleElseUptoRow : OpenClaim := { program := "ytngippiilgdnoaagreat", sum := "7541b67f954ccdfcaa1f885e4b469991881a15a9d84048fe48e0f4be1cfd9a10", func := "billing/billinglaw35.BundleElse", spec := "bundleElse", unfollowed := true, recurses := true, plainKeys := false, apart := false, narrowed := true }
def BundleElseUptoSaid : Prop := bundleElseUptoRow.holds Tryz.pinned (OpenSpec.upto bundleElseSpec)

/-- 'billinglaw35.BundleGrants', WHERE WHAT IT READS IS OF BULK AT MOST 1048576: true; the input reads as it did. -/
def bundleGrantsUptoRow : OpenClaim := { program := "ytngippiilgdnoaagreat", sum := "7541b67f954ccdfcaa1f885e4b469991881a15a9d84048fe48e0f4be1cfd9a10", func := "billing/billinglaw35.BundleGrants", spec := "bundleGrants", unfollowed := true, recurses := true, plainKeys := false, apart := false, narrowed := true }
def BundleGrantsUptoSaid : Prop := bundleGrantsUptoRow.holds Tryz.pinned (OpenSpec.upto bundleGrantsSpec)

end Rows
end Go.Proofs.YtngippiilgdnoaaGreat
