/-
  No cell of these rows narrows 'for every input' (looked for: loops, veiled, ifaces, maps, wideKeys, modest, calm, conditions, laid).
  DERIVED. THE GIVEN ROWS OF THIS SEAT. 10 by the template 'for every input the law returns true; each argument reads behind the call as it read before'; 0 by the template 'total and deterministic' (their statements: YtmijdmchhlcblaaTotals.lean).
  GIVEN WITH THE SEED: the statements are not yours to turn. If you find one false, say at which input.
  Laid BY PROGRAM, IN A SANDBOX (cutbox-rows.mjs): the forced cells as the released guide's own fill.sh prints them over the translation bc166327594798bc… (all of the seat's roots in one cut). By AI agents, Wed Nov 11 2026. No macro, syntax, notation, axiom, sorry.
-/
import Derived.Test.YtmijdmchhlcblaaChecked
import GoSem.Claim
import GoSem.ClaimJoined
import GoSem.ClaimMapViews
import Derived.JoinedTies
import Derived.KernelRfl
namespace Go.Proofs.Ytmijdmchhlcblaa
/- THE CELL 'sum', in the pinned program and in every row, IS THE sha256 OF THE DUMP (.gsa) THAT YtmijdmchhlcblaaProg.lean LOADS. Nothing in Lean hashes anything: it is a label: what it is worth is what the hold of that sum in a sandbox is worth. -/
noncomputable def Try.pinned : Pinned := { name := "ytmijdmchhlcblaa", sum := "bc166327594798bcd5b937678d9472c4db5371945d52b19e7be14ec0ba289e27", checked := Try.checked }
namespace Rows
def none {H : Type} : Left H := { results := [], args := [] }

/-- 'billinglaw29.LadderPrices': WHATEVER THE INPUT: true; the input reads as it did. -/
def ladderPricesSpec : ChangeSpec := { name := "ladderPrices", fn := fun _ => fun
  | [d1, d2] => { results := [.lit (.bool true)], args := [d1, d2] }
  | _ => none }
def ladderPricesRow : OpenClaim := { program := "ytmijdmchhlcblaa", sum := "bc166327594798bcd5b937678d9472c4db5371945d52b19e7be14ec0ba289e27", func := "billing/billinglaw29.LadderPrices", spec := "ladderPrices", unfollowed := true, recurses := true, apart := false }
def LadderPricesSaid : Prop := ladderPricesRow.holds Try.pinned (OpenSpec.ofChange ladderPricesSpec)

/-- ITS FALSE NEIGHBOUR: 'it returns false'. Refute it at one input. -/
def ladderPricesWrong : ChangeSpec := { name := "ladderPrices", fn := fun _ => fun
  | [d1, d2] => { results := [.lit (.bool false)], args := [d1, d2] }
  | _ => none }
def LadderPricesWrongFalsely : Prop := ladderPricesRow.holds Try.pinned (OpenSpec.ofChange ladderPricesWrong)

/-- 'billinglaw19.ProductChecks': WHATEVER THE INPUT: true; the input reads as it did. -/
def productChecksSpec : ChangeSpec := { name := "productChecks", fn := fun _ => fun
  | [d] => { results := [.lit (.bool true)], args := [d] }
  | _ => none }
def productChecksRow : OpenClaim := { program := "ytmijdmchhlcblaa", sum := "bc166327594798bcd5b937678d9472c4db5371945d52b19e7be14ec0ba289e27", func := "billing/billinglaw19.ProductChecks", spec := "productChecks", unfollowed := true, recurses := true, apart := false }
def ProductChecksSaid : Prop := productChecksRow.holds Try.pinned (OpenSpec.ofChange productChecksSpec)

/-- ITS FALSE NEIGHBOUR: 'it returns false'. Refute it at one input. -/
def productChecksWrong : ChangeSpec := { name := "productChecks", fn := fun _ => fun
  | [d] => { results := [.lit (.bool false)], args := [d] }
  | _ => none }
def ProductChecksWrongFalsely : Prop := productChecksRow.holds Try.pinned (OpenSpec.ofChange productChecksWrong)

/-- 'billinglaw19.ProductAt': WHATEVER THE INPUT: true; the input reads as it did. -/
def productAtSpec : ChangeSpec := { name := "productAt", fn := fun _ => fun
  | [d1, d2, d3] => { results := [.lit (.bool true)], args := [d1, d2, d3] }
  | _ => none }
def productAtRow : OpenClaim := { program := "ytmijdmchhlcblaa", sum := "bc166327594798bcd5b937678d9472c4db5371945d52b19e7be14ec0ba289e27", func := "billing/billinglaw19.ProductAt", spec := "productAt", unfollowed := true, recurses := true, apart := false }
def ProductAtSaid : Prop := productAtRow.holds Try.pinned (OpenSpec.ofChange productAtSpec)

/-- ITS FALSE NEIGHBOUR: 'it returns false'. Refute it at one input. -/
def productAtWrong : ChangeSpec := { name := "productAt", fn := fun _ => fun
  | [d1, d2, d3] => { results := [.lit (.bool false)], args := [d1, d2, d3] }
  | _ => none }
def ProductAtWrongFalsely : Prop := productAtRow.holds Try.pinned (OpenSpec.ofChange productAtWrong)

/-- 'billinglaw19.ProductFees': WHATEVER THE INPUT: true; the input reads as it did. -/
def productFeesSpec : ChangeSpec := { name := "productFees", fn := fun _ => fun
  | [d1, d2, d3] => { results := [.lit (.bool true)], args := [d1, d2, d3] }
  | _ => none }
def productFeesRow : OpenClaim := { program := "ytmijdmchhlcblaa", sum := "bc166327594798bcd5b937678d9472c4db5371945d52b19e7be14ec0ba289e27", func := "billing/billinglaw19.ProductFees", spec := "productFees", unfollowed := true, recurses := true, apart := false }
def ProductFeesSaid : Prop := productFeesRow.holds Try.pinned (OpenSpec.ofChange productFeesSpec)

/-- ITS FALSE NEIGHBOUR: 'it returns false'. Refute it at one input. -/
def productFeesWrong : ChangeSpec := { name := "productFees", fn := fun _ => fun
  | [d1, d2, d3] => { results := [.lit (.bool false)], args := [d1, d2, d3] }
  | _ => none }
def ProductFeesWrongFalsely : Prop := productFeesRow.holds Try.pinned (OpenSpec.ofChange productFeesWrong)

/-- 'billinglaw19.ProductCovers': WHATEVER THE INPUT: true; the input reads as it did. -/
def productCoversSpec : ChangeSpec := { name := "productCovers", fn := fun _ => fun
  | [d1, d2, d3] => { results := [.lit (.bool true)], args := [d1, d2, d3] }
  | _ => none }
def productCoversRow : OpenClaim := { program := "ytmijdmchhlcblaa", sum := "bc166327594798bcd5b937678d9472c4db5371945d52b19e7be14ec0ba289e27", func := "billing/billinglaw19.ProductCovers", spec := "productCovers", unfollowed := true, recurses := true, apart := false }
def ProductCoversSaid : Prop := productCoversRow.holds Try.pinned (OpenSpec.ofChange productCoversSpec)

/-- ITS FALSE NEIGHBOUR: 'it returns false'. Refute it at one input. -/
def productCoversWrong : ChangeSpec := { name := "productCovers", fn := fun _ => fun
  | [d1, d2, d3] => { results := [.lit (.bool false)], args := [d1, d2, d3] }
  | _ => none }
def ProductCoversWrongFalsely : Prop := productCoversRow.holds Try.pinned (OpenSpec.ofChange productCoversWrong)

/-- 'billinglaw19.ProductNames': WHATEVER THE INPUT: true; the input reads as it did. -/
def productNamesSpec : ChangeSpec := { name := "productNames", fn := fun _ => fun
  | [d1, d2] => { results := [.lit (.bool true)], args := [d1, d2] }
  | _ => none }
def productNamesRow : OpenClaim := { program := "ytmijdmchhlcblaa", sum := "bc166327594798bcd5b937678d9472c4db5371945d52b19e7be14ec0ba289e27", func := "billing/billinglaw19.ProductNames", spec := "productNames", unfollowed := true, recurses := true, apart := false }
def ProductNamesSaid : Prop := productNamesRow.holds Try.pinned (OpenSpec.ofChange productNamesSpec)

/-- ITS FALSE NEIGHBOUR: 'it returns false'. Refute it at one input. -/
def productNamesWrong : ChangeSpec := { name := "productNames", fn := fun _ => fun
  | [d1, d2] => { results := [.lit (.bool false)], args := [d1, d2] }
  | _ => none }
def ProductNamesWrongFalsely : Prop := productNamesRow.holds Try.pinned (OpenSpec.ofChange productNamesWrong)

/-- 'billinglaw50.AgreementChecks': WHATEVER THE INPUT: true; the input reads as it did. -/
def agreementChecksSpec : ChangeSpec := { name := "agreementChecks", fn := fun _ => fun
  | [d] => { results := [.lit (.bool true)], args := [d] }
  | _ => none }
def agreementChecksRow : OpenClaim := { program := "ytmijdmchhlcblaa", sum := "bc166327594798bcd5b937678d9472c4db5371945d52b19e7be14ec0ba289e27", func := "billing/billinglaw50.AgreementChecks", spec := "agreementChecks", apart := false }
def AgreementChecksSaid : Prop := agreementChecksRow.holds Try.pinned (OpenSpec.ofChange agreementChecksSpec)

/-- ITS FALSE NEIGHBOUR: 'it returns false'. Refute it at one input. -/
def agreementChecksWrong : ChangeSpec := { name := "agreementChecks", fn := fun _ => fun
  | [d] => { results := [.lit (.bool false)], args := [d] }
  | _ => none }
def AgreementChecksWrongFalsely : Prop := agreementChecksRow.holds Try.pinned (OpenSpec.ofChange agreementChecksWrong)

/-- 'billinglaw50.AgreementPrices': WHATEVER THE INPUT: true; the input reads as it did. -/
def agreementPricesSpec : ChangeSpec := { name := "agreementPrices", fn := fun _ => fun
  | [d1, d2, d3] => { results := [.lit (.bool true)], args := [d1, d2, d3] }
  | _ => none }
def agreementPricesRow : OpenClaim := { program := "ytmijdmchhlcblaa", sum := "bc166327594798bcd5b937678d9472c4db5371945d52b19e7be14ec0ba289e27", func := "billing/billinglaw50.AgreementPrices", spec := "agreementPrices", apart := false }
def AgreementPricesSaid : Prop := agreementPricesRow.holds Try.pinned (OpenSpec.ofChange agreementPricesSpec)

/-- ITS FALSE NEIGHBOUR: 'it returns false'. Refute it at one input. -/
def agreementPricesWrong : ChangeSpec := { name := "agreementPrices", fn := fun _ => fun
  | [d1, d2, d3] => { results := [.lit (.bool false)], args := [d1, d2, d3] }
  | _ => none }
def AgreementPricesWrongFalsely : Prop := agreementPricesRow.holds Try.pinned (OpenSpec.ofChange agreementPricesWrong)

/-- 'billinglaw50.AgreementParts': WHATEVER THE INPUT: true; the input reads as it did. -/
def agreementPartsSpec : ChangeSpec := { name := "agreementParts", fn := fun _ => fun
  | [d1, d2] => { results := [.lit (.bool true)], args := [d1, d2] }
  | _ => none }
def agreementPartsRow : OpenClaim := { program := "ytmijdmchhlcblaa", sum := "bc166327594798bcd5b937678d9472c4db5371945d52b19e7be14ec0ba289e27", func := "billing/billinglaw50.AgreementParts", spec := "agreementParts", apart := false }
def AgreementPartsSaid : Prop := agreementPartsRow.holds Try.pinned (OpenSpec.ofChange agreementPartsSpec)

/-- ITS FALSE NEIGHBOUR: 'it returns false'. Refute it at one input. -/
def agreementPartsWrong : ChangeSpec := { name := "agreementParts", fn := fun _ => fun
  | [d1, d2] => { results := [.lit (.bool false)], args := [d1, d2] }
  | _ => none }
def AgreementPartsWrongFalsely : Prop := agreementPartsRow.holds Try.pinned (OpenSpec.ofChange agreementPartsWrong)

/-- 'billinglaw50.AgreementOne': WHATEVER THE INPUT: true; the input reads as it did. -/
def agreementOneSpec : ChangeSpec := { name := "agreementOne", fn := fun _ => fun
  | [d1, d2] => { results := [.lit (.bool true)], args := [d1, d2] }
  | _ => none }
def agreementOneRow : OpenClaim := { program := "ytmijdmchhlcblaa", sum := "bc166327594798bcd5b937678d9472c4db5371945d52b19e7be14ec0ba289e27", func := "billing/billinglaw50.AgreementOne", spec := "agreementOne", apart := false }
def AgreementOneSaid : Prop := agreementOneRow.holds Try.pinned (OpenSpec.ofChange agreementOneSpec)

/-- ITS FALSE NEIGHBOUR: 'it returns false'. Refute it at one input. -/
def agreementOneWrong : ChangeSpec := { name := "agreementOne", fn := fun _ => fun
  | [d1, d2] => { results := [.lit (.bool false)], args := [d1, d2] }
  | _ => none }
def AgreementOneWrongFalsely : Prop := agreementOneRow.holds Try.pinned (OpenSpec.ofChange agreementOneWrong)

/- THE SECOND FORM. 'bulk': how many values and letters a reading holds, each counted each time it is reached (what is shared counts as often as it is met; a slice's spare places count too). A statement '..UptoSaid' is the law's where the arguments, and the package variables that the reading takes, are together of bulk at most 1048576: NARROWER than '..Said'. Prove '..Said' where nothing that the law and all that it calls make is longer than what came in: it says more and counts as full. Else prove '..UptoSaid'. A law counts once. -/
mutual
def uptoBulk {H : Type} : DataW H → Nat
  | .lit (.string bytes) => bytes.length + 1
  | .lit _ => 1
  | .nil => 1
  | .ptr d => uptoBulk d + 1
  | .slice elems spare => uptoBulkAll elems + uptoBulkAll spare + 1
  | .agg parts => uptoBulkAll parts + 1
  | .iface _ d => uptoBulk d + 1
  | .map entries => uptoBulkEntries entries + 1
  | .held _ => 1
def uptoBulkAll {H : Type} : List (DataW H) → Nat
  | [] => 0
  | d :: r => uptoBulk d + uptoBulkAll r
def uptoBulkEntries {H : Type} : List (Lit × DataW H) → Nat
  | [] => 0
  | x :: r => uptoBulkEntry x + uptoBulkEntries r
def uptoBulkEntry {H : Type} : Lit × DataW H → Nat
  | (.string bytes, d) => bytes.length + uptoBulk d + 1
  | (_, d) => uptoBulk d + 1
 end
def uptoSmall : (H : Type) → List (DataW H) → Bool := fun _ ds => decide (uptoBulkAll ds ≤ 1048576)
def OpenSpec.upto (s : _root_.Go.ChangeSpec) : _root_.Go.OpenSpec := { _root_.Go.OpenSpec.ofChange s with cond := some uptoSmall }

/-- 'billinglaw29.LadderPrices', WHERE WHAT IT READS IS OF BULK AT MOST 1048576: true; the input reads as it did. -/
def ladderPricesUptoRow : OpenClaim := { program := "ytmijdmchhlcblaa", sum := "bc166327594798bcd5b937678d9472c4db5371945d52b19e7be14ec0ba289e27", func := "billing/billinglaw29.LadderPrices", spec := "ladderPrices", unfollowed := true, recurses := true, apart := false, narrowed := true }
def LadderPricesUptoSaid : Prop := ladderPricesUptoRow.holds Try.pinned (OpenSpec.upto ladderPricesSpec)

/-- 'billinglaw19.ProductChecks', WHERE WHAT IT READS IS OF BULK AT MOST 1048576: true; the input reads as it did. -/
def productChecksUptoRow : OpenClaim := { program := "ytmijdmchhlcblaa", sum := "bc166327594798bcd5b937678d9472c4db5371945d52b19e7be14ec0ba289e27", func := "billing/billinglaw19.ProductChecks", spec := "productChecks", unfollowed := true, recurses := true, apart := false, narrowed := true }
def ProductChecksUptoSaid : Prop := productChecksUptoRow.holds Try.pinned (OpenSpec.upto productChecksSpec)

/-- 'billinglaw19.ProductAt', WHERE WHAT IT READS IS OF BULK AT MOST 1048576: true; the input reads as it did. -/
def productAtUptoRow : OpenClaim := { program := "ytmijdmchhlcblaa", sum := "bc166327594798bcd5b937678d9472c4db5371945d52b19e7be14ec0ba289e27", func := "billing/billinglaw19.ProductAt", spec := "productAt", unfollowed := true, recurses := true, apart := false, narrowed := true }
def ProductAtUptoSaid : Prop := productAtUptoRow.holds Try.pinned (OpenSpec.upto productAtSpec)

/-- 'billinglaw19.ProductFees', WHERE WHAT IT READS IS OF BULK AT MOST 1048576: true; the input reads as it did. -/
def productFeesUptoRow : OpenClaim := { program := "ytmijdmchhlcblaa", sum := "bc166327594798bcd5b937678d9472c4db5371945d52b19e7be14ec0ba289e27", func := "billing/billinglaw19.ProductFees", spec := "productFees", unfollowed := true, recurses := true, apart := false, narrowed := true }
def ProductFeesUptoSaid : Prop := productFeesUptoRow.holds Try.pinned (OpenSpec.upto productFeesSpec)

/-- 'billinglaw19.ProductCovers', WHERE WHAT IT READS IS OF BULK AT MOST 1048576: true; the input reads as it did. -/
def productCoversUptoRow : OpenClaim := { program := "ytmijdmchhlcblaa", sum := "bc166327594798bcd5b937678d9472c4db5371945d52b19e7be14ec0ba289e27", func := "billing/billinglaw19.ProductCovers", spec := "productCovers", unfollowed := true, recurses := true, apart := false, narrowed := true }
def ProductCoversUptoSaid : Prop := productCoversUptoRow.holds Try.pinned (OpenSpec.upto productCoversSpec)

/-- 'billinglaw19.ProductNames', WHERE WHAT IT READS IS OF BULK AT MOST 1048576: true; the input reads as it did. -/
def productNamesUptoRow : OpenClaim := { program := "ytmijdmchhlcblaa", sum := "bc166327594798bcd5b937678d9472c4db5371945d52b19e7be14ec0ba289e27", func := "billing/billinglaw19.ProductNames", spec := "productNames", unfollowed := true, recurses := true, apart := false, narrowed := true }
def ProductNamesUptoSaid : Prop := productNamesUptoRow.holds Try.pinned (OpenSpec.upto productNamesSpec)

/-- 'billinglaw50.AgreementChecks', WHERE WHAT IT READS IS OF BULK AT MOST 1048576: true; the input reads as it did. -/
def agreementChecksUptoRow : OpenClaim := { program := "ytmijdmchhlcblaa", sum := "bc166327594798bcd5b937678d9472c4db5371945d52b19e7be14ec0ba289e27", func := "billing/billinglaw50.AgreementChecks", spec := "agreementChecks", apart := false, narrowed := true }
def AgreementChecksUptoSaid : Prop := agreementChecksUptoRow.holds Try.pinned (OpenSpec.upto agreementChecksSpec)

/-- 'billinglaw50.AgreementPrices', WHERE WHAT IT READS IS OF BULK AT MOST 1048576: true; the input reads as it did. -/
def agreementPricesUptoRow : OpenClaim := { program := "ytmijdmchhlcblaa", sum := "bc166327594798bcd5b937678d9472c4db5371945d52b19e7be14ec0ba289e27", func := "billing/billinglaw50.AgreementPrices", spec := "agreementPrices", apart := false, narrowed := true }
def AgreementPricesUptoSaid : Prop := agreementPricesUptoRow.holds Try.pinned (OpenSpec.upto agreementPricesSpec)

/-- 'billinglaw50.AgreementParts', WHERE WHAT IT READS IS OF BULK AT MOST 1048576: true; the input reads as it did. -/
def agreementPartsUptoRow : OpenClaim := { program := "ytmijdmchhlcblaa", sum := "bc166327594798bcd5b937678d9472c4db5371945d52b19e7be14ec0ba289e27", func := "billing/billinglaw50.AgreementParts", spec := "agreementParts", apart := false, narrowed := true }
def AgreementPartsUptoSaid : Prop := agreementPartsUptoRow.holds Try.pinned (OpenSpec.upto agreementPartsSpec)

/-- 'billinglaw50.AgreementOne', WHERE WHAT IT READS IS OF BULK AT MOST 1048576: true; the input reads as it did. -/
def agreementOneUptoRow : OpenClaim := { program := "ytmijdmchhlcblaa", sum := "bc166327594798bcd5b937678d9472c4db5371945d52b19e7be14ec0ba289e27", func := "billing/billinglaw50.AgreementOne", spec := "agreementOne", apart := false, narrowed := true }
def AgreementOneUptoSaid : Prop := agreementOneUptoRow.holds Try.pinned (OpenSpec.upto agreementOneSpec)

end Rows
end Go.Proofs.Ytmijdmchhlcblaa
