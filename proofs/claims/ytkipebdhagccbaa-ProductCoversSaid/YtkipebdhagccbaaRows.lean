/-
  No cell of these rows narrows 'for every input' (looked for: loops, veiled, ifaces, maps, wideKeys, modest, calm, conditions, laid).
  DERIVED. THE GIVEN ROWS OF THIS SEAT. 12 by the template 'for every input the law returns true; each argument reads behind the call as it read before'; 0 by the template 'total and deterministic' (their statements: YtkipebdhagccbaaTotals.lean).
  GIVEN WITH THE SEED: the statements are not yours to turn. If you find one false, say at which input.
  Laid BY PROGRAM, IN A SANDBOX (cutbox-rows.mjs): the forced cells as the released guide's own fill.sh prints them over the translation 20ddab7728e18ad4… (all of the seat's roots in one cut). By AI agents, Wed Nov 11 2026. No macro, syntax, notation, axiom, sorry.
-/
import Derived.Test.YtkipebdhagccbaaChecked
import GoSem.Claim
import GoSem.ClaimJoined
import GoSem.ClaimMapViews
import Derived.JoinedTies
import Derived.KernelRfl
namespace Go.Proofs.Ytkipebdhagccbaa
/- THE CELL 'sum', in the pinned program and in every row, IS THE sha256 OF THE DUMP (.gsa) THAT YtkipebdhagccbaaProg.lean LOADS. Nothing in Lean hashes anything: it is a label: what it is worth is what the hold of that sum in a sandbox is worth. -/
noncomputable def Try.pinned : Pinned := { name := "ytkipebdhagccbaa", sum := "20ddab7728e18ad42f7b6ddcd80e498c42a47c59e98ea59fb8966e79ef76aa7a", checked := Try.checked }
namespace Rows
def none {H : Type} : Left H := { results := [], args := [] }

/-- 'billinglaw29.LadderPrices': WHATEVER THE INPUT: true; the input reads as it did. -/
def ladderPricesSpec : ChangeSpec := { name := "ladderPrices", fn := fun _ => fun
  | [d1, d2] => { results := [.lit (.bool true)], args := [d1, d2] }
  | _ => none }
def ladderPricesRow : OpenClaim := { program := "ytkipebdhagccbaa", sum := "20ddab7728e18ad42f7b6ddcd80e498c42a47c59e98ea59fb8966e79ef76aa7a", func := "billing/billinglaw29.LadderPrices", spec := "ladderPrices", unfollowed := true, recurses := true, apart := false }
def LadderPricesSaid : Prop := ladderPricesRow.holds Try.pinned (OpenSpec.ofChange ladderPricesSpec)

/-- ITS FALSE NEIGHBOUR: 'it returns false'. Refute it at one input. -/
def ladderPricesWrong : ChangeSpec := { name := "ladderPrices", fn := fun _ => fun
  | [d1, d2] => { results := [.lit (.bool false)], args := [d1, d2] }
  | _ => none }
def LadderPricesWrongFalsely : Prop := ladderPricesRow.holds Try.pinned (OpenSpec.ofChange ladderPricesWrong)

/-- 'billinglaw29.LadderBetween': WHATEVER THE INPUT: true; the input reads as it did. -/
def ladderBetweenSpec : ChangeSpec := { name := "ladderBetween", fn := fun _ => fun
  | [d1, d2, d3] => { results := [.lit (.bool true)], args := [d1, d2, d3] }
  | _ => none }
def ladderBetweenRow : OpenClaim := { program := "ytkipebdhagccbaa", sum := "20ddab7728e18ad42f7b6ddcd80e498c42a47c59e98ea59fb8966e79ef76aa7a", func := "billing/billinglaw29.LadderBetween", spec := "ladderBetween", unfollowed := true, recurses := true, apart := false }
def LadderBetweenSaid : Prop := ladderBetweenRow.holds Try.pinned (OpenSpec.ofChange ladderBetweenSpec)

/-- ITS FALSE NEIGHBOUR: 'it returns false'. Refute it at one input. -/
def ladderBetweenWrong : ChangeSpec := { name := "ladderBetween", fn := fun _ => fun
  | [d1, d2, d3] => { results := [.lit (.bool false)], args := [d1, d2, d3] }
  | _ => none }
def LadderBetweenWrongFalsely : Prop := ladderBetweenRow.holds Try.pinned (OpenSpec.ofChange ladderBetweenWrong)

/-- 'billinglaw29.LadderUnits': WHATEVER THE INPUT: true; the input reads as it did. -/
def ladderUnitsSpec : ChangeSpec := { name := "ladderUnits", fn := fun _ => fun
  | [d1, d2, d3] => { results := [.lit (.bool true)], args := [d1, d2, d3] }
  | _ => none }
def ladderUnitsRow : OpenClaim := { program := "ytkipebdhagccbaa", sum := "20ddab7728e18ad42f7b6ddcd80e498c42a47c59e98ea59fb8966e79ef76aa7a", func := "billing/billinglaw29.LadderUnits", spec := "ladderUnits", unfollowed := true, recurses := true, apart := false }
def LadderUnitsSaid : Prop := ladderUnitsRow.holds Try.pinned (OpenSpec.ofChange ladderUnitsSpec)

/-- ITS FALSE NEIGHBOUR: 'it returns false'. Refute it at one input. -/
def ladderUnitsWrong : ChangeSpec := { name := "ladderUnits", fn := fun _ => fun
  | [d1, d2, d3] => { results := [.lit (.bool false)], args := [d1, d2, d3] }
  | _ => none }
def LadderUnitsWrongFalsely : Prop := ladderUnitsRow.holds Try.pinned (OpenSpec.ofChange ladderUnitsWrong)

/-- 'billinglaw29.LadderInverse': WHATEVER THE INPUT: true; the input reads as it did. -/
def ladderInverseSpec : ChangeSpec := { name := "ladderInverse", fn := fun _ => fun
  | [d1, d2, d3] => { results := [.lit (.bool true)], args := [d1, d2, d3] }
  | _ => none }
def ladderInverseRow : OpenClaim := { program := "ytkipebdhagccbaa", sum := "20ddab7728e18ad42f7b6ddcd80e498c42a47c59e98ea59fb8966e79ef76aa7a", func := "billing/billinglaw29.LadderInverse", spec := "ladderInverse", unfollowed := true, recurses := true, apart := false }
def LadderInverseSaid : Prop := ladderInverseRow.holds Try.pinned (OpenSpec.ofChange ladderInverseSpec)

/-- ITS FALSE NEIGHBOUR: 'it returns false'. Refute it at one input. -/
def ladderInverseWrong : ChangeSpec := { name := "ladderInverse", fn := fun _ => fun
  | [d1, d2, d3] => { results := [.lit (.bool false)], args := [d1, d2, d3] }
  | _ => none }
def LadderInverseWrongFalsely : Prop := ladderInverseRow.holds Try.pinned (OpenSpec.ofChange ladderInverseWrong)

/-- 'billinglaw29.LadderParts': WHATEVER THE INPUT: true; the input reads as it did. -/
def ladderPartsSpec : ChangeSpec := { name := "ladderParts", fn := fun _ => fun
  | [d1, d2, d3] => { results := [.lit (.bool true)], args := [d1, d2, d3] }
  | _ => none }
def ladderPartsRow : OpenClaim := { program := "ytkipebdhagccbaa", sum := "20ddab7728e18ad42f7b6ddcd80e498c42a47c59e98ea59fb8966e79ef76aa7a", func := "billing/billinglaw29.LadderParts", spec := "ladderParts", unfollowed := true, recurses := true, apart := false }
def LadderPartsSaid : Prop := ladderPartsRow.holds Try.pinned (OpenSpec.ofChange ladderPartsSpec)

/-- ITS FALSE NEIGHBOUR: 'it returns false'. Refute it at one input. -/
def ladderPartsWrong : ChangeSpec := { name := "ladderParts", fn := fun _ => fun
  | [d1, d2, d3] => { results := [.lit (.bool false)], args := [d1, d2, d3] }
  | _ => none }
def LadderPartsWrongFalsely : Prop := ladderPartsRow.holds Try.pinned (OpenSpec.ofChange ladderPartsWrong)

/-- 'billinglaw29.LadderBlocks': WHATEVER THE INPUT: true; the input reads as it did. -/
def ladderBlocksSpec : ChangeSpec := { name := "ladderBlocks", fn := fun _ => fun
  | [d1, d2, d3] => { results := [.lit (.bool true)], args := [d1, d2, d3] }
  | _ => none }
def ladderBlocksRow : OpenClaim := { program := "ytkipebdhagccbaa", sum := "20ddab7728e18ad42f7b6ddcd80e498c42a47c59e98ea59fb8966e79ef76aa7a", func := "billing/billinglaw29.LadderBlocks", spec := "ladderBlocks", unfollowed := true, recurses := true, apart := false }
def LadderBlocksSaid : Prop := ladderBlocksRow.holds Try.pinned (OpenSpec.ofChange ladderBlocksSpec)

/-- ITS FALSE NEIGHBOUR: 'it returns false'. Refute it at one input. -/
def ladderBlocksWrong : ChangeSpec := { name := "ladderBlocks", fn := fun _ => fun
  | [d1, d2, d3] => { results := [.lit (.bool false)], args := [d1, d2, d3] }
  | _ => none }
def LadderBlocksWrongFalsely : Prop := ladderBlocksRow.holds Try.pinned (OpenSpec.ofChange ladderBlocksWrong)

/-- 'billinglaw39.QuotaCosts': WHATEVER THE INPUT: true; the input reads as it did. -/
def quotaCostsSpec : ChangeSpec := { name := "quotaCosts", fn := fun _ => fun
  | [d1, d2, d3] => { results := [.lit (.bool true)], args := [d1, d2, d3] }
  | _ => none }
def quotaCostsRow : OpenClaim := { program := "ytkipebdhagccbaa", sum := "20ddab7728e18ad42f7b6ddcd80e498c42a47c59e98ea59fb8966e79ef76aa7a", func := "billing/billinglaw39.QuotaCosts", spec := "quotaCosts", apart := false }
def QuotaCostsSaid : Prop := quotaCostsRow.holds Try.pinned (OpenSpec.ofChange quotaCostsSpec)

/-- ITS FALSE NEIGHBOUR: 'it returns false'. Refute it at one input. -/
def quotaCostsWrong : ChangeSpec := { name := "quotaCosts", fn := fun _ => fun
  | [d1, d2, d3] => { results := [.lit (.bool false)], args := [d1, d2, d3] }
  | _ => none }
def QuotaCostsWrongFalsely : Prop := quotaCostsRow.holds Try.pinned (OpenSpec.ofChange quotaCostsWrong)

/-- 'billinglaw39.QuotaParts': WHATEVER THE INPUT: true; the input reads as it did. -/
def quotaPartsSpec : ChangeSpec := { name := "quotaParts", fn := fun _ => fun
  | [d1, d2, d3] => { results := [.lit (.bool true)], args := [d1, d2, d3] }
  | _ => none }
def quotaPartsRow : OpenClaim := { program := "ytkipebdhagccbaa", sum := "20ddab7728e18ad42f7b6ddcd80e498c42a47c59e98ea59fb8966e79ef76aa7a", func := "billing/billinglaw39.QuotaParts", spec := "quotaParts", apart := false }
def QuotaPartsSaid : Prop := quotaPartsRow.holds Try.pinned (OpenSpec.ofChange quotaPartsSpec)

/-- ITS FALSE NEIGHBOUR: 'it returns false'. Refute it at one input. -/
def quotaPartsWrong : ChangeSpec := { name := "quotaParts", fn := fun _ => fun
  | [d1, d2, d3] => { results := [.lit (.bool false)], args := [d1, d2, d3] }
  | _ => none }
def QuotaPartsWrongFalsely : Prop := quotaPartsRow.holds Try.pinned (OpenSpec.ofChange quotaPartsWrong)

/-- 'billinglaw19.ProductChecks': WHATEVER THE INPUT: true; the input reads as it did. -/
def productChecksSpec : ChangeSpec := { name := "productChecks", fn := fun _ => fun
  | [d] => { results := [.lit (.bool true)], args := [d] }
  | _ => none }
def productChecksRow : OpenClaim := { program := "ytkipebdhagccbaa", sum := "20ddab7728e18ad42f7b6ddcd80e498c42a47c59e98ea59fb8966e79ef76aa7a", func := "billing/billinglaw19.ProductChecks", spec := "productChecks", unfollowed := true, recurses := true, apart := false }
def ProductChecksSaid : Prop := productChecksRow.holds Try.pinned (OpenSpec.ofChange productChecksSpec)

/-- ITS FALSE NEIGHBOUR: 'it returns false'. Refute it at one input. -/
def productChecksWrong : ChangeSpec := { name := "productChecks", fn := fun _ => fun
  | [d] => { results := [.lit (.bool false)], args := [d] }
  | _ => none }
def ProductChecksWrongFalsely : Prop := productChecksRow.holds Try.pinned (OpenSpec.ofChange productChecksWrong)

/-- 'billinglaw19.ProductAt': WHATEVER THE INPUT: true; the input reads as it did. -/
def productAtSpec : ChangeSpec := { name := "productAt", fn := fun _ => fun
  | [d1, d2, d3] => { results := [.lit (.bool true)], args := [d1, d2, d3] }
  | _ => none }
def productAtRow : OpenClaim := { program := "ytkipebdhagccbaa", sum := "20ddab7728e18ad42f7b6ddcd80e498c42a47c59e98ea59fb8966e79ef76aa7a", func := "billing/billinglaw19.ProductAt", spec := "productAt", unfollowed := true, recurses := true, apart := false }
def ProductAtSaid : Prop := productAtRow.holds Try.pinned (OpenSpec.ofChange productAtSpec)

/-- ITS FALSE NEIGHBOUR: 'it returns false'. Refute it at one input. -/
def productAtWrong : ChangeSpec := { name := "productAt", fn := fun _ => fun
  | [d1, d2, d3] => { results := [.lit (.bool false)], args := [d1, d2, d3] }
  | _ => none }
def ProductAtWrongFalsely : Prop := productAtRow.holds Try.pinned (OpenSpec.ofChange productAtWrong)

/-- 'billinglaw19.ProductFees': WHATEVER THE INPUT: true; the input reads as it did. -/
def productFeesSpec : ChangeSpec := { name := "productFees", fn := fun _ => fun
  | [d1, d2, d3] => { results := [.lit (.bool true)], args := [d1, d2, d3] }
  | _ => none }
def productFeesRow : OpenClaim := { program := "ytkipebdhagccbaa", sum := "20ddab7728e18ad42f7b6ddcd80e498c42a47c59e98ea59fb8966e79ef76aa7a", func := "billing/billinglaw19.ProductFees", spec := "productFees", unfollowed := true, recurses := true, apart := false }
def ProductFeesSaid : Prop := productFeesRow.holds Try.pinned (OpenSpec.ofChange productFeesSpec)

/-- ITS FALSE NEIGHBOUR: 'it returns false'. Refute it at one input. -/
def productFeesWrong : ChangeSpec := { name := "productFees", fn := fun _ => fun
  | [d1, d2, d3] => { results := [.lit (.bool false)], args := [d1, d2, d3] }
  | _ => none }
def ProductFeesWrongFalsely : Prop := productFeesRow.holds Try.pinned (OpenSpec.ofChange productFeesWrong)

/-- 'billinglaw19.ProductCovers': WHATEVER THE INPUT: true; the input reads as it did. -/
def productCoversSpec : ChangeSpec := { name := "productCovers", fn := fun _ => fun
  | [d1, d2, d3] => { results := [.lit (.bool true)], args := [d1, d2, d3] }
  | _ => none }
def productCoversRow : OpenClaim := { program := "ytkipebdhagccbaa", sum := "20ddab7728e18ad42f7b6ddcd80e498c42a47c59e98ea59fb8966e79ef76aa7a", func := "billing/billinglaw19.ProductCovers", spec := "productCovers", unfollowed := true, recurses := true, apart := false }
def ProductCoversSaid : Prop := productCoversRow.holds Try.pinned (OpenSpec.ofChange productCoversSpec)

/-- ITS FALSE NEIGHBOUR: 'it returns false'. Refute it at one input. -/
def productCoversWrong : ChangeSpec := { name := "productCovers", fn := fun _ => fun
  | [d1, d2, d3] => { results := [.lit (.bool false)], args := [d1, d2, d3] }
  | _ => none }
def ProductCoversWrongFalsely : Prop := productCoversRow.holds Try.pinned (OpenSpec.ofChange productCoversWrong)

/- THE SECOND FORM. 'bulk': how many values and letters a reading holds, each counted each time it is reached (what is shared counts as often as it is met; a slice's spare places count too). A statement '..UptoSaid' is the law's where the arguments, and the package variables that the reading takes, are together of bulk at most 1048576: NARROWER than '..Said'. Prove '..Said' where nothing that the law and all that it calls make is longer than what came in: it says more and counts as full. Else prove '..UptoSaid'. A law counts once. -/
mutual
def uptoBulk {H : Type} : DataW H → Nat
  | .lit (.string bytes) => bytes.length + 1
  | .lit _ => 1
  | .nil => 1
  | .ptr d => uptoBulk d + 1
  | .slice elems spare => uptoBulkAll elems + uptoBulkAll spare + 1
  | .agg parts => uptoBulkAll parts + 1
  | .iface _ d => uptoBulk d + 1
  | .map entries => uptoBulkEntries entries + 1
  | .held _ => 1
def uptoBulkAll {H : Type} : List (DataW H) → Nat
  | [] => 0
  | d :: r => uptoBulk d + uptoBulkAll r
def uptoBulkEntries {H : Type} : List (Lit × DataW H) → Nat
  | [] => 0
  | x :: r => uptoBulkEntry x + uptoBulkEntries r
def uptoBulkEntry {H : Type} : Lit × DataW H → Nat
  | (.string bytes, d) => bytes.length + uptoBulk d + 1
  | (_, d) => uptoBulk d + 1
 end
def uptoSmall : (H : Type) → List (DataW H) → Bool := fun _ ds => decide (uptoBulkAll ds ≤ 1048576)
def OpenSpec.upto (s : _root_.Go.ChangeSpec) : _root_.Go.OpenSpec := { _root_.Go.OpenSpec.ofChange s with cond := some uptoSmall }

/-- 'billinglaw29.LadderPrices', WHERE WHAT IT READS IS OF BULK AT MOST 1048576: true; the input reads as it did. -/
def ladderPricesUptoRow : OpenClaim := { program := "ytkipebdhagccbaa", sum := "20ddab7728e18ad42f7b6ddcd80e498c42a47c59e98ea59fb8966e79ef76aa7a", func := "billing/billinglaw29.LadderPrices", spec := "ladderPrices", unfollowed := true, recurses := true, apart := false, narrowed := true }
def LadderPricesUptoSaid : Prop := ladderPricesUptoRow.holds Try.pinned (OpenSpec.upto ladderPricesSpec)

/-- 'billinglaw29.LadderBetween', WHERE WHAT IT READS IS OF BULK AT MOST 1048576: true; the input reads as it did. -/
def ladderBetweenUptoRow : OpenClaim := { program := "ytkipebdhagccbaa", sum := "20ddab7728e18ad42f7b6ddcd80e498c42a47c59e98ea59fb8966e79ef76aa7a", func := "billing/billinglaw29.LadderBetween", spec := "ladderBetween", unfollowed := true, recurses := true, apart := false, narrowed := true }
def LadderBetweenUptoSaid : Prop := ladderBetweenUptoRow.holds Try.pinned (OpenSpec.upto ladderBetweenSpec)

/-- 'billinglaw29.LadderUnits', WHERE WHAT IT READS IS OF BULK AT MOST 1048576: true; the input reads as it did. -/
def ladderUnitsUptoRow : OpenClaim := { program := "ytkipebdhagccbaa", sum := "20ddab7728e18ad42f7b6ddcd80e498c42a47c59e98ea59fb8966e79ef76aa7a", func := "billing/billinglaw29.LadderUnits", spec := "ladderUnits", unfollowed := true, recurses := true, apart := false, narrowed := true }
def LadderUnitsUptoSaid : Prop := ladderUnitsUptoRow.holds Try.pinned (OpenSpec.upto ladderUnitsSpec)

/-- 'billinglaw29.LadderInverse', WHERE WHAT IT READS IS OF BULK AT MOST 1048576: true; the input reads as it did. -/
def ladderInverseUptoRow : OpenClaim := { program := "ytkipebdhagccbaa", sum := "20ddab7728e18ad42f7b6ddcd80e498c42a47c59e98ea59fb8966e79ef76aa7a", func := "billing/billinglaw29.LadderInverse", spec := "ladderInverse", unfollowed := true, recurses := true, apart := false, narrowed := true }
def LadderInverseUptoSaid : Prop := ladderInverseUptoRow.holds Try.pinned (OpenSpec.upto ladderInverseSpec)

/-- 'billinglaw29.LadderParts', WHERE WHAT IT READS IS OF BULK AT MOST 1048576: true; the input reads as it did. -/
def ladderPartsUptoRow : OpenClaim := { program := "ytkipebdhagccbaa", sum := "20ddab7728e18ad42f7b6ddcd80e498c42a47c59e98ea59fb8966e79ef76aa7a", func := "billing/billinglaw29.LadderParts", spec := "ladderParts", unfollowed := true, recurses := true, apart := false, narrowed := true }
def LadderPartsUptoSaid : Prop := ladderPartsUptoRow.holds Try.pinned (OpenSpec.upto ladderPartsSpec)

/-- 'billinglaw29.LadderBlocks', WHERE WHAT IT READS IS OF BULK AT MOST 1048576: true; the input reads as it did. -/
def ladderBlocksUptoRow : OpenClaim := { program := "ytkipebdhagccbaa", sum := "20ddab7728e18ad42f7b6ddcd80e498c42a47c59e98ea59fb8966e79ef76aa7a", func := "billing/billinglaw29.LadderBlocks", spec := "ladderBlocks", unfollowed := true, recurses := true, apart := false, narrowed := true }
def LadderBlocksUptoSaid : Prop := ladderBlocksUptoRow.holds Try.pinned (OpenSpec.upto ladderBlocksSpec)

/-- 'billinglaw39.QuotaCosts', WHERE WHAT IT READS IS OF BULK AT MOST 1048576: true; the input reads as it did. -/
def quotaCostsUptoRow : OpenClaim := { program := "ytkipebdhagccbaa", sum := "20ddab7728e18ad42f7b6ddcd80e498c42a47c59e98ea59fb8966e79ef76aa7a", func := "billing/billinglaw39.QuotaCosts", spec := "quotaCosts", apart := false, narrowed := true }
def QuotaCostsUptoSaid : Prop := quotaCostsUptoRow.holds Try.pinned (OpenSpec.upto quotaCostsSpec)

/-- 'billinglaw39.QuotaParts', WHERE WHAT IT READS IS OF BULK AT MOST 1048576: true; the input reads as it did. -/
def quotaPartsUptoRow : OpenClaim := { program := "ytkipebdhagccbaa", sum := "20ddab7728e18ad42f7b6ddcd80e498c42a47c59e98ea59fb8966e79ef76aa7a", func := "billing/billinglaw39.QuotaParts", spec := "quotaParts", apart := false, narrowed := true }
def QuotaPartsUptoSaid : Prop := quotaPartsUptoRow.holds Try.pinned (OpenSpec.upto quotaPartsSpec)

/-- 'billinglaw19.ProductChecks', WHERE WHAT IT READS IS OF BULK AT MOST 1048576: true; the input reads as it did. -/
def productChecksUptoRow : OpenClaim := { program := "ytkipebdhagccbaa", sum := "20ddab7728e18ad42f7b6ddcd80e498c42a47c59e98ea59fb8966e79ef76aa7a", func := "billing/billinglaw19.ProductChecks", spec := "productChecks", unfollowed := true, recurses := true, apart := false, narrowed := true }
def ProductChecksUptoSaid : Prop := productChecksUptoRow.holds Try.pinned (OpenSpec.upto productChecksSpec)

/-- 'billinglaw19.ProductAt', WHERE WHAT IT READS IS OF BULK AT MOST 1048576: true; the input reads as it did. -/
def productAtUptoRow : OpenClaim := { program := "ytkipebdhagccbaa", sum := "20ddab7728e18ad42f7b6ddcd80e498c42a47c59e98ea59fb8966e79ef76aa7a", func := "billing/billinglaw19.ProductAt", spec := "productAt", unfollowed := true, recurses := true, apart := false, narrowed := true }
def ProductAtUptoSaid : Prop := productAtUptoRow.holds Try.pinned (OpenSpec.upto productAtSpec)

/-- 'billinglaw19.ProductFees', WHERE WHAT IT READS IS OF BULK AT MOST 1048576: true; the input reads as it did. -/
def productFeesUptoRow : OpenClaim := { program := "ytkipebdhagccbaa", sum := "20ddab7728e18ad42f7b6ddcd80e498c42a47c59e98ea59fb8966e79ef76aa7a", func := "billing/billinglaw19.ProductFees", spec := "productFees", unfollowed := true, recurses := true, apart := false, narrowed := true }
def ProductFeesUptoSaid : Prop := productFeesUptoRow.holds Try.pinned (OpenSpec.upto productFeesSpec)

/-- 'billinglaw19.ProductCovers', WHERE WHAT IT READS IS OF BULK AT MOST 1048576: true; the input reads as it did. -/
def productCoversUptoRow : OpenClaim := { program := "ytkipebdhagccbaa", sum := "20ddab7728e18ad42f7b6ddcd80e498c42a47c59e98ea59fb8966e79ef76aa7a", func := "billing/billinglaw19.ProductCovers", spec := "productCovers", unfollowed := true, recurses := true, apart := false, narrowed := true }
def ProductCoversUptoSaid : Prop := productCoversUptoRow.holds Try.pinned (OpenSpec.upto productCoversSpec)

end Rows
end Go.Proofs.Ytkipebdhagccbaa
