/-
  NARROWER THAN 'FOR EVERY INPUT', by the rows' own cells (each row's printed sentence says how): SegmentRates: loops · SegmentCuts: loops · SegmentPrices: loops · SegmentUnits: loops · SegmentFree: loops · SegmentSums: loops.
  DERIVED. THE GIVEN ROWS OF THIS SEAT. 12 by the template 'for every input the law returns true; each argument reads behind the call as it read before'; 0 by the template 'total and deterministic' (their statements: YtnekgkmlodeckaaTotals.lean).
  GIVEN WITH THE SEED: the statements are not yours to turn. If you find one false, say at which input.
  Laid BY PROGRAM, IN A SANDBOX (cutbox-rows.mjs): the forced cells as the released guide's own fill.sh prints them over the translation 93dee92f39836c47… (all of the seat's roots in one cut). By AI agents, Wed Nov 11 2026. No macro, syntax, notation, axiom, sorry.
-/
import Derived.Test.YtnekgkmlodeckaaChecked
import GoSem.Claim
import GoSem.ClaimJoined
import GoSem.ClaimMapViews
import Derived.JoinedTies
import Derived.KernelRfl
namespace Go.Proofs.Ytnekgkmlodeckaa
/- THE CELL 'sum', in the pinned program and in every row, IS THE sha256 OF THE DUMP (.gsa) THAT YtnekgkmlodeckaaProg.lean LOADS. Nothing in Lean hashes anything: it is a label: what it is worth is what the hold of that sum in a sandbox is worth. -/
noncomputable def Try.pinned : Pinned := { name := "ytnekgkmlodeckaa", sum := "93dee92f39836c47d47e4a41709d7fa8663e1bd3cbf1be7f7abd7428d7d7b03e", checked := Try.checked }
namespace Rows
def none {H : Type} : Left H := { results := [], args := [] }

/-- 'billinglaw30.SegmentRates': WHATEVER THE INPUT: true; the input reads as it did. -/
def segmentRatesSpec : ChangeSpec := { name := "segmentRates", fn := fun _ => fun
  | [d1, d2, d3] => { results := [.lit (.bool true)], args := [d1, d2, d3] }
  | _ => none }
def segmentRatesRow : OpenClaim := { program := "ytnekgkmlodeckaa", sum := "93dee92f39836c47d47e4a41709d7fa8663e1bd3cbf1be7f7abd7428d7d7b03e", func := "billing/billinglaw30.SegmentRates", spec := "segmentRates", unfollowed := true, recurses := true, loops := true, apart := false }
def SegmentRatesSaid : Prop := segmentRatesRow.holds Try.pinned (OpenSpec.ofChange segmentRatesSpec)

/-- ITS FALSE NEIGHBOUR: 'it returns false'. Refute it at one input. -/
def segmentRatesWrong : ChangeSpec := { name := "segmentRates", fn := fun _ => fun
  | [d1, d2, d3] => { results := [.lit (.bool false)], args := [d1, d2, d3] }
  | _ => none }
def SegmentRatesWrongFalsely : Prop := segmentRatesRow.holds Try.pinned (OpenSpec.ofChange segmentRatesWrong)

/-- 'billinglaw30.SegmentCuts': WHATEVER THE INPUT: true; the input reads as it did. -/
def segmentCutsSpec : ChangeSpec := { name := "segmentCuts", fn := fun _ => fun
  | [d1, d2] => { results := [.lit (.bool true)], args := [d1, d2] }
  | _ => none }
def segmentCutsRow : OpenClaim := { program := "ytnekgkmlodeckaa", sum := "93dee92f39836c47d47e4a41709d7fa8663e1bd3cbf1be7f7abd7428d7d7b03e", func := "billing/billinglaw30.SegmentCuts", spec := "segmentCuts", unfollowed := true, recurses := true, loops := true, apart := false }
def SegmentCutsSaid : Prop := segmentCutsRow.holds Try.pinned (OpenSpec.ofChange segmentCutsSpec)

/-- ITS FALSE NEIGHBOUR: 'it returns false'. Refute it at one input. -/
def segmentCutsWrong : ChangeSpec := { name := "segmentCuts", fn := fun _ => fun
  | [d1, d2] => { results := [.lit (.bool false)], args := [d1, d2] }
  | _ => none }
def SegmentCutsWrongFalsely : Prop := segmentCutsRow.holds Try.pinned (OpenSpec.ofChange segmentCutsWrong)

/-- 'billinglaw30.SegmentPrices': WHATEVER THE INPUT: true; the input reads as it did. -/
def segmentPricesSpec : ChangeSpec := { name := "segmentPrices", fn := fun _ => fun
  | [d1, d2] => { results := [.lit (.bool true)], args := [d1, d2] }
  | _ => none }
def segmentPricesRow : OpenClaim := { program := "ytnekgkmlodeckaa", sum := "93dee92f39836c47d47e4a41709d7fa8663e1bd3cbf1be7f7abd7428d7d7b03e", func := "billing/billinglaw30.SegmentPrices", spec := "segmentPrices", unfollowed := true, recurses := true, loops := true, apart := false }
def SegmentPricesSaid : Prop := segmentPricesRow.holds Try.pinned (OpenSpec.ofChange segmentPricesSpec)

/-- ITS FALSE NEIGHBOUR: 'it returns false'. Refute it at one input. -/
def segmentPricesWrong : ChangeSpec := { name := "segmentPrices", fn := fun _ => fun
  | [d1, d2] => { results := [.lit (.bool false)], args := [d1, d2] }
  | _ => none }
def SegmentPricesWrongFalsely : Prop := segmentPricesRow.holds Try.pinned (OpenSpec.ofChange segmentPricesWrong)

/-- 'billinglaw30.SegmentUnits': WHATEVER THE INPUT: true; the input reads as it did. -/
def segmentUnitsSpec : ChangeSpec := { name := "segmentUnits", fn := fun _ => fun
  | [d1, d2] => { results := [.lit (.bool true)], args := [d1, d2] }
  | _ => none }
def segmentUnitsRow : OpenClaim := { program := "ytnekgkmlodeckaa", sum := "93dee92f39836c47d47e4a41709d7fa8663e1bd3cbf1be7f7abd7428d7d7b03e", func := "billing/billinglaw30.SegmentUnits", spec := "segmentUnits", unfollowed := true, recurses := true, loops := true, apart := false }
def SegmentUnitsSaid : Prop := segmentUnitsRow.holds Try.pinned (OpenSpec.ofChange segmentUnitsSpec)

/-- ITS FALSE NEIGHBOUR: 'it returns false'. Refute it at one input. -/
def segmentUnitsWrong : ChangeSpec := { name := "segmentUnits", fn := fun _ => fun
  | [d1, d2] => { results := [.lit (.bool false)], args := [d1, d2] }
  | _ => none }
def SegmentUnitsWrongFalsely : Prop := segmentUnitsRow.holds Try.pinned (OpenSpec.ofChange segmentUnitsWrong)

/-- 'billinglaw30.SegmentFree': WHATEVER THE INPUT: true; the input reads as it did. -/
def segmentFreeSpec : ChangeSpec := { name := "segmentFree", fn := fun _ => fun
  | [d1, d2] => { results := [.lit (.bool true)], args := [d1, d2] }
  | _ => none }
def segmentFreeRow : OpenClaim := { program := "ytnekgkmlodeckaa", sum := "93dee92f39836c47d47e4a41709d7fa8663e1bd3cbf1be7f7abd7428d7d7b03e", func := "billing/billinglaw30.SegmentFree", spec := "segmentFree", unfollowed := true, recurses := true, loops := true, apart := false }
def SegmentFreeSaid : Prop := segmentFreeRow.holds Try.pinned (OpenSpec.ofChange segmentFreeSpec)

/-- ITS FALSE NEIGHBOUR: 'it returns false'. Refute it at one input. -/
def segmentFreeWrong : ChangeSpec := { name := "segmentFree", fn := fun _ => fun
  | [d1, d2] => { results := [.lit (.bool false)], args := [d1, d2] }
  | _ => none }
def SegmentFreeWrongFalsely : Prop := segmentFreeRow.holds Try.pinned (OpenSpec.ofChange segmentFreeWrong)

/-- 'billinglaw30.SegmentSums': WHATEVER THE INPUT: true; the input reads as it did. -/
def segmentSumsSpec : ChangeSpec := { name := "segmentSums", fn := fun _ => fun
  | [d1, d2] => { results := [.lit (.bool true)], args := [d1, d2] }
  | _ => none }
def segmentSumsRow : OpenClaim := { program := "ytnekgkmlodeckaa", sum := "93dee92f39836c47d47e4a41709d7fa8663e1bd3cbf1be7f7abd7428d7d7b03e", func := "billing/billinglaw30.SegmentSums", spec := "segmentSums", unfollowed := true, recurses := true, loops := true, apart := false }
def SegmentSumsSaid : Prop := segmentSumsRow.holds Try.pinned (OpenSpec.ofChange segmentSumsSpec)

/-- ITS FALSE NEIGHBOUR: 'it returns false'. Refute it at one input. -/
def segmentSumsWrong : ChangeSpec := { name := "segmentSums", fn := fun _ => fun
  | [d1, d2] => { results := [.lit (.bool false)], args := [d1, d2] }
  | _ => none }
def SegmentSumsWrongFalsely : Prop := segmentSumsRow.holds Try.pinned (OpenSpec.ofChange segmentSumsWrong)

/-- 'billinglaw05.BandsCut': WHATEVER THE INPUT: true; the input reads as it did. -/
def bandsCutSpec : ChangeSpec := { name := "bandsCut", fn := fun _ => fun
  | [d1, d2, d3] => { results := [.lit (.bool true)], args := [d1, d2, d3] }
  | _ => none }
def bandsCutRow : OpenClaim := { program := "ytnekgkmlodeckaa", sum := "93dee92f39836c47d47e4a41709d7fa8663e1bd3cbf1be7f7abd7428d7d7b03e", func := "billing/billinglaw05.BandsCut", spec := "bandsCut", unfollowed := true, recurses := true, apart := false }
def BandsCutSaid : Prop := bandsCutRow.holds Try.pinned (OpenSpec.ofChange bandsCutSpec)

/-- ITS FALSE NEIGHBOUR: 'it returns false'. Refute it at one input. -/
def bandsCutWrong : ChangeSpec := { name := "bandsCut", fn := fun _ => fun
  | [d1, d2, d3] => { results := [.lit (.bool false)], args := [d1, d2, d3] }
  | _ => none }
def BandsCutWrongFalsely : Prop := bandsCutRow.holds Try.pinned (OpenSpec.ofChange bandsCutWrong)

/-- 'billinglaw05.BandsAt': WHATEVER THE INPUT: true; the input reads as it did. -/
def bandsAtSpec : ChangeSpec := { name := "bandsAt", fn := fun _ => fun
  | [d1, d2] => { results := [.lit (.bool true)], args := [d1, d2] }
  | _ => none }
def bandsAtRow : OpenClaim := { program := "ytnekgkmlodeckaa", sum := "93dee92f39836c47d47e4a41709d7fa8663e1bd3cbf1be7f7abd7428d7d7b03e", func := "billing/billinglaw05.BandsAt", spec := "bandsAt", unfollowed := true, recurses := true, apart := false }
def BandsAtSaid : Prop := bandsAtRow.holds Try.pinned (OpenSpec.ofChange bandsAtSpec)

/-- ITS FALSE NEIGHBOUR: 'it returns false'. Refute it at one input. -/
def bandsAtWrong : ChangeSpec := { name := "bandsAt", fn := fun _ => fun
  | [d1, d2] => { results := [.lit (.bool false)], args := [d1, d2] }
  | _ => none }
def BandsAtWrongFalsely : Prop := bandsAtRow.holds Try.pinned (OpenSpec.ofChange bandsAtWrong)

/-- 'billinglaw04.IntervalPoints': WHATEVER THE INPUT: true; the input reads as it did. -/
def intervalPointsSpec : ChangeSpec := { name := "intervalPoints", fn := fun _ => fun
  | [d1, d2, d3] => { results := [.lit (.bool true)], args := [d1, d2, d3] }
  | _ => none }
def intervalPointsRow : OpenClaim := { program := "ytnekgkmlodeckaa", sum := "93dee92f39836c47d47e4a41709d7fa8663e1bd3cbf1be7f7abd7428d7d7b03e", func := "billing/billinglaw04.IntervalPoints", spec := "intervalPoints", unfollowed := true, recurses := true, apart := false }
def IntervalPointsSaid : Prop := intervalPointsRow.holds Try.pinned (OpenSpec.ofChange intervalPointsSpec)

/-- ITS FALSE NEIGHBOUR: 'it returns false'. Refute it at one input. -/
def intervalPointsWrong : ChangeSpec := { name := "intervalPoints", fn := fun _ => fun
  | [d1, d2, d3] => { results := [.lit (.bool false)], args := [d1, d2, d3] }
  | _ => none }
def IntervalPointsWrongFalsely : Prop := intervalPointsRow.holds Try.pinned (OpenSpec.ofChange intervalPointsWrong)

/-- 'billinglaw29.LadderBetween': WHATEVER THE INPUT: true; the input reads as it did. -/
def ladderBetweenSpec : ChangeSpec := { name := "ladderBetween", fn := fun _ => fun
  | [d1, d2, d3] => { results := [.lit (.bool true)], args := [d1, d2, d3] }
  | _ => none }
def ladderBetweenRow : OpenClaim := { program := "ytnekgkmlodeckaa", sum := "93dee92f39836c47d47e4a41709d7fa8663e1bd3cbf1be7f7abd7428d7d7b03e", func := "billing/billinglaw29.LadderBetween", spec := "ladderBetween", unfollowed := true, recurses := true, apart := false }
def LadderBetweenSaid : Prop := ladderBetweenRow.holds Try.pinned (OpenSpec.ofChange ladderBetweenSpec)

/-- ITS FALSE NEIGHBOUR: 'it returns false'. Refute it at one input. -/
def ladderBetweenWrong : ChangeSpec := { name := "ladderBetween", fn := fun _ => fun
  | [d1, d2, d3] => { results := [.lit (.bool false)], args := [d1, d2, d3] }
  | _ => none }
def LadderBetweenWrongFalsely : Prop := ladderBetweenRow.holds Try.pinned (OpenSpec.ofChange ladderBetweenWrong)

/-- 'billinglaw29.LadderPrices': WHATEVER THE INPUT: true; the input reads as it did. -/
def ladderPricesSpec : ChangeSpec := { name := "ladderPrices", fn := fun _ => fun
  | [d1, d2] => { results := [.lit (.bool true)], args := [d1, d2] }
  | _ => none }
def ladderPricesRow : OpenClaim := { program := "ytnekgkmlodeckaa", sum := "93dee92f39836c47d47e4a41709d7fa8663e1bd3cbf1be7f7abd7428d7d7b03e", func := "billing/billinglaw29.LadderPrices", spec := "ladderPrices", unfollowed := true, recurses := true, apart := false }
def LadderPricesSaid : Prop := ladderPricesRow.holds Try.pinned (OpenSpec.ofChange ladderPricesSpec)

/-- ITS FALSE NEIGHBOUR: 'it returns false'. Refute it at one input. -/
def ladderPricesWrong : ChangeSpec := { name := "ladderPrices", fn := fun _ => fun
  | [d1, d2] => { results := [.lit (.bool false)], args := [d1, d2] }
  | _ => none }
def LadderPricesWrongFalsely : Prop := ladderPricesRow.holds Try.pinned (OpenSpec.ofChange ladderPricesWrong)

/-- 'billinglaw06.ZonesFinds': WHATEVER THE INPUT: true; the input reads as it did. -/
def zonesFindsSpec : ChangeSpec := { name := "zonesFinds", fn := fun _ => fun
  | [d1, d2] => { results := [.lit (.bool true)], args := [d1, d2] }
  | _ => none }
def zonesFindsRow : OpenClaim := { program := "ytnekgkmlodeckaa", sum := "93dee92f39836c47d47e4a41709d7fa8663e1bd3cbf1be7f7abd7428d7d7b03e", func := "billing/billinglaw06.ZonesFinds", spec := "zonesFinds", inPlace := ["internal/bytealg.abigen_runtime_cmpstring"], unfollowed := true, recurses := true, apart := false }
def ZonesFindsSaid : Prop := zonesFindsRow.holds Try.pinned (OpenSpec.ofChange zonesFindsSpec)

/-- ITS FALSE NEIGHBOUR: 'it returns false'. Refute it at one input. -/
def zonesFindsWrong : ChangeSpec := { name := "zonesFinds", fn := fun _ => fun
  | [d1, d2] => { results := [.lit (.bool false)], args := [d1, d2] }
  | _ => none }
def ZonesFindsWrongFalsely : Prop := zonesFindsRow.holds Try.pinned (OpenSpec.ofChange zonesFindsWrong)

/- THE SECOND FORM. 'bulk': how many values and letters a reading holds, each counted each time it is reached (what is shared counts as often as it is met; a slice's spare places count too). A statement '..UptoSaid' is the law's where the arguments, and the package variables that the reading takes, are together of bulk at most 1048576: NARROWER than '..Said'. Prove '..Said' where nothing that the law and all that it calls make is longer than what came in: it says more and counts as full. Else prove '..UptoSaid'. A law counts once. -/
mutual
def uptoBulk {H : Type} : DataW H → Nat
  | .lit (.string bytes) => bytes.length + 1
  | .lit _ => 1
  | .nil => 1
  | .ptr d => uptoBulk d + 1
  | .slice elems spare => uptoBulkAll elems + uptoBulkAll spare + 1
  | .agg parts => uptoBulkAll parts + 1
  | .iface _ d => uptoBulk d + 1
  | .map entries => uptoBulkEntries entries + 1
  | .held _ => 1
def uptoBulkAll {H : Type} : List (DataW H) → Nat
  | [] => 0
  | d :: r => uptoBulk d + uptoBulkAll r
def uptoBulkEntries {H : Type} : List (Lit × DataW H) → Nat
  | [] => 0
  | x :: r => uptoBulkEntry x + uptoBulkEntries r
def uptoBulkEntry {H : Type} : Lit × DataW H → Nat
  | (.string bytes, d) => bytes.length + uptoBulk d + 1
  | (_, d) => uptoBulk d + 1
 end
def uptoSmall : (H : Type) → List (DataW H) → Bool := fun _ ds => decide (uptoBulkAll ds ≤ 1048576)
def OpenSpec.upto (s : _root_.Go.ChangeSpec) : _root_.Go.OpenSpec := { _root_.Go.OpenSpec.ofChange s with cond := some uptoSmall }

/-- 'billinglaw30.SegmentRates', WHERE WHAT IT READS IS OF BULK AT MOST 1048576: true; the input reads as it did. -/
def segmentRatesUptoRow : OpenClaim := { program := "ytnekgkmlodeckaa", sum := "93dee92f39836c47d47e4a41709d7fa8663e1bd3cbf1be7f7abd7428d7d7b03e", func := "billing/billinglaw30.SegmentRates", spec := "segmentRates", unfollowed := true, recurses := true, loops := true, apart := false, narrowed := true }
def SegmentRatesUptoSaid : Prop := segmentRatesUptoRow.holds Try.pinned (OpenSpec.upto segmentRatesSpec)

/-- 'billinglaw30.SegmentCuts', WHERE WHAT IT READS IS OF BULK AT MOST 1048576: true; the input reads as it did. -/
def segmentCutsUptoRow : OpenClaim := { program := "ytnekgkmlodeckaa", sum := "93dee92f39836c47d47e4a41709d7fa8663e1bd3cbf1be7f7abd7428d7d7b03e", func := "billing/billinglaw30.SegmentCuts", spec := "segmentCuts", unfollowed := true, recurses := true, loops := true, apart := false, narrowed := true }
def SegmentCutsUptoSaid : Prop := segmentCutsUptoRow.holds Try.pinned (OpenSpec.upto segmentCutsSpec)

/-- 'billinglaw30.SegmentPrices', WHERE WHAT IT READS IS OF BULK AT MOST 1048576: true; the input reads as it did. -/
def segmentPricesUptoRow : OpenClaim := { program := "ytnekgkmlodeckaa", sum := "93dee92f39836c47d47e4a41709d7fa8663e1bd3cbf1be7f7abd7428d7d7b03e", func := "billing/billinglaw30.SegmentPrices", spec := "segmentPrices", unfollowed := true, recurses := true, loops := true, apart := false, narrowed := true }
def SegmentPricesUptoSaid : Prop := segmentPricesUptoRow.holds Try.pinned (OpenSpec.upto segmentPricesSpec)

/-- 'billinglaw30.SegmentUnits', WHERE WHAT IT READS IS OF BULK AT MOST 1048576: true; the input reads as it did. -/
def segmentUnitsUptoRow : OpenClaim := { program := "ytnekgkmlodeckaa", sum := "93dee92f39836c47d47e4a41709d7fa8663e1bd3cbf1be7f7abd7428d7d7b03e", func := "billing/billinglaw30.SegmentUnits", spec := "segmentUnits", unfollowed := true, recurses := true, loops := true, apart := false, narrowed := true }
def SegmentUnitsUptoSaid : Prop := segmentUnitsUptoRow.holds Try.pinned (OpenSpec.upto segmentUnitsSpec)

/-- 'billinglaw30.SegmentFree', WHERE WHAT IT READS IS OF BULK AT MOST 1048576: true; the input reads as it did. -/
def segmentFreeUptoRow : OpenClaim := { program := "ytnekgkmlodeckaa", sum := "93dee92f39836c47d47e4a41709d7fa8663e1bd3cbf1be7f7abd7428d7d7b03e", func := "billing/billinglaw30.SegmentFree", spec := "segmentFree", unfollowed := true, recurses := true, loops := true, apart := false, narrowed := true }
def SegmentFreeUptoSaid : Prop := segmentFreeUptoRow.holds Try.pinned (OpenSpec.upto segmentFreeSpec)

/-- 'billinglaw30.SegmentSums', WHERE WHAT IT READS IS OF BULK AT MOST 1048576: true; the input reads as it did. -/
def segmentSumsUptoRow : OpenClaim := { program := "ytnekgkmlodeckaa", sum := "93dee92f39836c47d47e4a41709d7fa8663e1bd3cbf1be7f7abd7428d7d7b03e", func := "billing/billinglaw30.SegmentSums", spec := "segmentSums", unfollowed := true, recurses := true, loops := true, apart := false, narrowed := true }
def SegmentSumsUptoSaid : Prop := segmentSumsUptoRow.holds Try.pinned (OpenSpec.upto segmentSumsSpec)

/-- 'billinglaw05.BandsCut', WHERE WHAT IT READS IS OF BULK AT MOST 1048576: true; the input reads as it did. -/
def bandsCutUptoRow : OpenClaim := { program := "ytnekgkmlodeckaa", sum := "93dee92f39836c47d47e4a41709d7fa8663e1bd3cbf1be7f7abd7428d7d7b03e", func := "billing/billinglaw05.BandsCut", spec := "bandsCut", unfollowed := true, recurses := true, apart := false, narrowed := true }
def BandsCutUptoSaid : Prop := bandsCutUptoRow.holds Try.pinned (OpenSpec.upto bandsCutSpec)

/-- 'billinglaw05.BandsAt', WHERE WHAT IT READS IS OF BULK AT MOST 1048576: true; the input reads as it did. -/
def bandsAtUptoRow : OpenClaim := { program := "ytnekgkmlodeckaa", sum := "93dee92f39836c47d47e4a41709d7fa8663e1bd3cbf1be7f7abd7428d7d7b03e", func := "billing/billinglaw05.BandsAt", spec := "bandsAt", unfollowed := true, recurses := true, apart := false, narrowed := true }
def BandsAtUptoSaid : Prop := bandsAtUptoRow.holds Try.pinned (OpenSpec.upto bandsAtSpec)

/-- 'billinglaw04.IntervalPoints', WHERE WHAT IT READS IS OF BULK AT MOST 1048576: true; the input reads as it did. -/
def intervalPointsUptoRow : OpenClaim := { program := "ytnekgkmlodeckaa", sum := "93dee92f39836c47d47e4a41709d7fa8663e1bd3cbf1be7f7abd7428d7d7b03e", func := "billing/billinglaw04.IntervalPoints", spec := "intervalPoints", unfollowed := true, recurses := true, apart := false, narrowed := true }
def IntervalPointsUptoSaid : Prop := intervalPointsUptoRow.holds Try.pinned (OpenSpec.upto intervalPointsSpec)

/-- 'billinglaw29.LadderBetween', WHERE WHAT IT READS IS OF BULK AT MOST 1048576: true; the input reads as it did. -/
def ladderBetweenUptoRow : OpenClaim := { program := "ytnekgkmlodeckaa", sum := "93dee92f39836c47d47e4a41709d7fa8663e1bd3cbf1be7f7abd7428d7d7b03e", func := "billing/billinglaw29.LadderBetween", spec := "ladderBetween", unfollowed := true, recurses := true, apart := false, narrowed := true }
def LadderBetweenUptoSaid : Prop := ladderBetweenUptoRow.holds Try.pinned (OpenSpec.upto ladderBetweenSpec)

/-- 'billinglaw29.LadderPrices', WHERE WHAT IT READS IS OF BULK AT MOST 1048576: true; the input reads as it did. -/
def ladderPricesUptoRow : OpenClaim := { program := "ytnekgkmlodeckaa", sum := "93dee92f39836c47d47e4a41709d7fa8663e1bd3cbf1be7f7abd7428d7d7b03e", func := "billing/billinglaw29.LadderPrices", spec := "ladderPrices", unfollowed := true, recurses := true, apart := false, narrowed := true }
def LadderPricesUptoSaid : Prop := ladderPricesUptoRow.holds Try.pinned (OpenSpec.upto ladderPricesSpec)

/-- 'billinglaw06.ZonesFinds', WHERE WHAT IT READS IS OF BULK AT MOST 1048576: true; the input reads as it did. -/
def zonesFindsUptoRow : OpenClaim := { program := "ytnekgkmlodeckaa", sum := "93dee92f39836c47d47e4a41709d7fa8663e1bd3cbf1be7f7abd7428d7d7b03e", func := "billing/billinglaw06.ZonesFinds", spec := "zonesFinds", inPlace := ["internal/bytealg.abigen_runtime_cmpstring"], unfollowed := true, recurses := true, apart := false, narrowed := true }
def ZonesFindsUptoSaid : Prop := zonesFindsUptoRow.holds Try.pinned (OpenSpec.upto zonesFindsSpec)

end Rows
end Go.Proofs.Ytnekgkmlodeckaa
