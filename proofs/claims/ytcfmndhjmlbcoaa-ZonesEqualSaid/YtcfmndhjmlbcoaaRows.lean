/-
  No cell of these rows narrows 'for every input' (looked for: loops, veiled, ifaces, maps, wideKeys, modest, calm, conditions, laid).
  DERIVED. THE GIVEN ROWS OF THIS SEAT. 12 by the template 'for every input the law returns true; each argument reads behind the call as it read before'; 0 by the template 'total and deterministic' (their statements: YtcfmndhjmlbcoaaTotals.lean).
  GIVEN WITH THE SEED: the statements are not yours to turn. If you find one false, say at which input.
  Laid BY PROGRAM, IN A SANDBOX (cutbox-rows.mjs): the forced cells as the released guide's own fill.sh prints them over the translation 59fe60129132f826… (all of the seat's roots in one cut). By AI agents, Wed Nov 11 2026. No macro, syntax, notation, axiom, sorry.
-/
import Derived.Test.YtcfmndhjmlbcoaaChecked
import GoSem.Claim
import GoSem.ClaimJoined
import GoSem.ClaimMapViews
import Derived.JoinedTies
import Derived.KernelRfl
namespace Go.Proofs.Ytcfmndhjmlbcoaa
/- THE CELL 'sum', in the pinned program and in every row, IS THE sha256 OF THE DUMP (.gsa) THAT YtcfmndhjmlbcoaaProg.lean LOADS. Nothing in Lean hashes anything: it is a label: what it is worth is what the hold of that sum in a sandbox is worth. -/
noncomputable def Try.pinned : Pinned := { name := "ytcfmndhjmlbcoaa", sum := "59fe60129132f82660cb19d57a66e09337ac403bd0aa072a38470004ac15ac94", checked := Try.checked }
namespace Rows
def none {H : Type} : Left H := { results := [], args := [] }

/-- 'billinglaw05.BandsChecks': WHATEVER THE INPUT: true; the input reads as it did. -/
def bandsChecksSpec : ChangeSpec := { name := "bandsChecks", fn := fun _ => fun
  | [d] => { results := [.lit (.bool true)], args := [d] }
  | _ => none }
def bandsChecksRow : OpenClaim := { program := "ytcfmndhjmlbcoaa", sum := "59fe60129132f82660cb19d57a66e09337ac403bd0aa072a38470004ac15ac94", func := "billing/billinglaw05.BandsChecks", spec := "bandsChecks", unfollowed := true, recurses := true, apart := false }
def BandsChecksSaid : Prop := bandsChecksRow.holds Try.pinned (OpenSpec.ofChange bandsChecksSpec)

/-- ITS FALSE NEIGHBOUR: 'it returns false'. Refute it at one input. -/
def bandsChecksWrong : ChangeSpec := { name := "bandsChecks", fn := fun _ => fun
  | [d] => { results := [.lit (.bool false)], args := [d] }
  | _ => none }
def BandsChecksWrongFalsely : Prop := bandsChecksRow.holds Try.pinned (OpenSpec.ofChange bandsChecksWrong)

/-- 'billinglaw05.BandsAt': WHATEVER THE INPUT: true; the input reads as it did. -/
def bandsAtSpec : ChangeSpec := { name := "bandsAt", fn := fun _ => fun
  | [d1, d2] => { results := [.lit (.bool true)], args := [d1, d2] }
  | _ => none }
def bandsAtRow : OpenClaim := { program := "ytcfmndhjmlbcoaa", sum := "59fe60129132f82660cb19d57a66e09337ac403bd0aa072a38470004ac15ac94", func := "billing/billinglaw05.BandsAt", spec := "bandsAt", unfollowed := true, recurses := true, apart := false }
def BandsAtSaid : Prop := bandsAtRow.holds Try.pinned (OpenSpec.ofChange bandsAtSpec)

/-- ITS FALSE NEIGHBOUR: 'it returns false'. Refute it at one input. -/
def bandsAtWrong : ChangeSpec := { name := "bandsAt", fn := fun _ => fun
  | [d1, d2] => { results := [.lit (.bool false)], args := [d1, d2] }
  | _ => none }
def BandsAtWrongFalsely : Prop := bandsAtRow.holds Try.pinned (OpenSpec.ofChange bandsAtWrong)

/-- 'billinglaw05.BandsPieces': WHATEVER THE INPUT: true; the input reads as it did. -/
def bandsPiecesSpec : ChangeSpec := { name := "bandsPieces", fn := fun _ => fun
  | [d1, d2, d3] => { results := [.lit (.bool true)], args := [d1, d2, d3] }
  | _ => none }
def bandsPiecesRow : OpenClaim := { program := "ytcfmndhjmlbcoaa", sum := "59fe60129132f82660cb19d57a66e09337ac403bd0aa072a38470004ac15ac94", func := "billing/billinglaw05.BandsPieces", spec := "bandsPieces", unfollowed := true, recurses := true, apart := false }
def BandsPiecesSaid : Prop := bandsPiecesRow.holds Try.pinned (OpenSpec.ofChange bandsPiecesSpec)

/-- ITS FALSE NEIGHBOUR: 'it returns false'. Refute it at one input. -/
def bandsPiecesWrong : ChangeSpec := { name := "bandsPieces", fn := fun _ => fun
  | [d1, d2, d3] => { results := [.lit (.bool false)], args := [d1, d2, d3] }
  | _ => none }
def BandsPiecesWrongFalsely : Prop := bandsPiecesRow.holds Try.pinned (OpenSpec.ofChange bandsPiecesWrong)

/-- 'billinglaw05.BandsCut': WHATEVER THE INPUT: true; the input reads as it did. -/
def bandsCutSpec : ChangeSpec := { name := "bandsCut", fn := fun _ => fun
  | [d1, d2, d3] => { results := [.lit (.bool true)], args := [d1, d2, d3] }
  | _ => none }
def bandsCutRow : OpenClaim := { program := "ytcfmndhjmlbcoaa", sum := "59fe60129132f82660cb19d57a66e09337ac403bd0aa072a38470004ac15ac94", func := "billing/billinglaw05.BandsCut", spec := "bandsCut", unfollowed := true, recurses := true, apart := false }
def BandsCutSaid : Prop := bandsCutRow.holds Try.pinned (OpenSpec.ofChange bandsCutSpec)

/-- ITS FALSE NEIGHBOUR: 'it returns false'. Refute it at one input. -/
def bandsCutWrong : ChangeSpec := { name := "bandsCut", fn := fun _ => fun
  | [d1, d2, d3] => { results := [.lit (.bool false)], args := [d1, d2, d3] }
  | _ => none }
def BandsCutWrongFalsely : Prop := bandsCutRow.holds Try.pinned (OpenSpec.ofChange bandsCutWrong)

/-- 'billinglaw05.BandsSeconds': WHATEVER THE INPUT: true; the input reads as it did. -/
def bandsSecondsSpec : ChangeSpec := { name := "bandsSeconds", fn := fun _ => fun
  | [d1, d2] => { results := [.lit (.bool true)], args := [d1, d2] }
  | _ => none }
def bandsSecondsRow : OpenClaim := { program := "ytcfmndhjmlbcoaa", sum := "59fe60129132f82660cb19d57a66e09337ac403bd0aa072a38470004ac15ac94", func := "billing/billinglaw05.BandsSeconds", spec := "bandsSeconds", unfollowed := true, recurses := true, apart := false }
def BandsSecondsSaid : Prop := bandsSecondsRow.holds Try.pinned (OpenSpec.ofChange bandsSecondsSpec)

/-- ITS FALSE NEIGHBOUR: 'it returns false'. Refute it at one input. -/
def bandsSecondsWrong : ChangeSpec := { name := "bandsSeconds", fn := fun _ => fun
  | [d1, d2] => { results := [.lit (.bool false)], args := [d1, d2] }
  | _ => none }
def BandsSecondsWrongFalsely : Prop := bandsSecondsRow.holds Try.pinned (OpenSpec.ofChange bandsSecondsWrong)

/-- 'billinglaw06.ZonesChecks': WHATEVER THE INPUT: true; the input reads as it did. -/
def zonesChecksSpec : ChangeSpec := { name := "zonesChecks", fn := fun _ => fun
  | [d] => { results := [.lit (.bool true)], args := [d] }
  | _ => none }
def zonesChecksRow : OpenClaim := { program := "ytcfmndhjmlbcoaa", sum := "59fe60129132f82660cb19d57a66e09337ac403bd0aa072a38470004ac15ac94", func := "billing/billinglaw06.ZonesChecks", spec := "zonesChecks", inPlace := ["internal/bytealg.abigen_runtime_cmpstring"], unfollowed := true, recurses := true, apart := false }
def ZonesChecksSaid : Prop := zonesChecksRow.holds Try.pinned (OpenSpec.ofChange zonesChecksSpec)

/-- ITS FALSE NEIGHBOUR: 'it returns false'. Refute it at one input. -/
def zonesChecksWrong : ChangeSpec := { name := "zonesChecks", fn := fun _ => fun
  | [d] => { results := [.lit (.bool false)], args := [d] }
  | _ => none }
def ZonesChecksWrongFalsely : Prop := zonesChecksRow.holds Try.pinned (OpenSpec.ofChange zonesChecksWrong)

/-- 'billinglaw06.ZonesFinds': WHATEVER THE INPUT: true; the input reads as it did. -/
def zonesFindsSpec : ChangeSpec := { name := "zonesFinds", fn := fun _ => fun
  | [d1, d2] => { results := [.lit (.bool true)], args := [d1, d2] }
  | _ => none }
def zonesFindsRow : OpenClaim := { program := "ytcfmndhjmlbcoaa", sum := "59fe60129132f82660cb19d57a66e09337ac403bd0aa072a38470004ac15ac94", func := "billing/billinglaw06.ZonesFinds", spec := "zonesFinds", inPlace := ["internal/bytealg.abigen_runtime_cmpstring"], unfollowed := true, recurses := true, apart := false }
def ZonesFindsSaid : Prop := zonesFindsRow.holds Try.pinned (OpenSpec.ofChange zonesFindsSpec)

/-- ITS FALSE NEIGHBOUR: 'it returns false'. Refute it at one input. -/
def zonesFindsWrong : ChangeSpec := { name := "zonesFinds", fn := fun _ => fun
  | [d1, d2] => { results := [.lit (.bool false)], args := [d1, d2] }
  | _ => none }
def ZonesFindsWrongFalsely : Prop := zonesFindsRow.holds Try.pinned (OpenSpec.ofChange zonesFindsWrong)

/-- 'billinglaw06.ZonesEqual': WHATEVER THE INPUT: true; the input reads as it did. -/
def zonesEqualSpec : ChangeSpec := { name := "zonesEqual", fn := fun _ => fun
  | [d1, d2, d3] => { results := [.lit (.bool true)], args := [d1, d2, d3] }
  | _ => none }
def zonesEqualRow : OpenClaim := { program := "ytcfmndhjmlbcoaa", sum := "59fe60129132f82660cb19d57a66e09337ac403bd0aa072a38470004ac15ac94", func := "billing/billinglaw06.ZonesEqual", spec := "zonesEqual", inPlace := ["internal/bytealg.abigen_runtime_cmpstring"], unfollowed := true, recurses := true, apart := false }
def ZonesEqualSaid : Prop := zonesEqualRow.holds Try.pinned (OpenSpec.ofChange zonesEqualSpec)

/-- ITS FALSE NEIGHBOUR: 'it returns false'. Refute it at one input. -/
def zonesEqualWrong : ChangeSpec := { name := "zonesEqual", fn := fun _ => fun
  | [d1, d2, d3] => { results := [.lit (.bool false)], args := [d1, d2, d3] }
  | _ => none }
def ZonesEqualWrongFalsely : Prop := zonesEqualRow.holds Try.pinned (OpenSpec.ofChange zonesEqualWrong)

/-- 'billinglaw06.ZonesMinimals': WHATEVER THE INPUT: true; the input reads as it did. -/
def zonesMinimalsSpec : ChangeSpec := { name := "zonesMinimals", fn := fun _ => fun
  | [d] => { results := [.lit (.bool true)], args := [d] }
  | _ => none }
def zonesMinimalsRow : OpenClaim := { program := "ytcfmndhjmlbcoaa", sum := "59fe60129132f82660cb19d57a66e09337ac403bd0aa072a38470004ac15ac94", func := "billing/billinglaw06.ZonesMinimals", spec := "zonesMinimals", inPlace := ["internal/bytealg.abigen_runtime_cmpstring"], unfollowed := true, recurses := true, apart := false }
def ZonesMinimalsSaid : Prop := zonesMinimalsRow.holds Try.pinned (OpenSpec.ofChange zonesMinimalsSpec)

/-- ITS FALSE NEIGHBOUR: 'it returns false'. Refute it at one input. -/
def zonesMinimalsWrong : ChangeSpec := { name := "zonesMinimals", fn := fun _ => fun
  | [d] => { results := [.lit (.bool false)], args := [d] }
  | _ => none }
def ZonesMinimalsWrongFalsely : Prop := zonesMinimalsRow.holds Try.pinned (OpenSpec.ofChange zonesMinimalsWrong)

/-- 'billinglaw06.ZonesCanon': WHATEVER THE INPUT: true; the input reads as it did. -/
def zonesCanonSpec : ChangeSpec := { name := "zonesCanon", fn := fun _ => fun
  | [d1, d2, d3] => { results := [.lit (.bool true)], args := [d1, d2, d3] }
  | _ => none }
def zonesCanonRow : OpenClaim := { program := "ytcfmndhjmlbcoaa", sum := "59fe60129132f82660cb19d57a66e09337ac403bd0aa072a38470004ac15ac94", func := "billing/billinglaw06.ZonesCanon", spec := "zonesCanon", inPlace := ["internal/bytealg.abigen_runtime_cmpstring"], unfollowed := true, recurses := true, apart := false }
def ZonesCanonSaid : Prop := zonesCanonRow.holds Try.pinned (OpenSpec.ofChange zonesCanonSpec)

/-- ITS FALSE NEIGHBOUR: 'it returns false'. Refute it at one input. -/
def zonesCanonWrong : ChangeSpec := { name := "zonesCanon", fn := fun _ => fun
  | [d1, d2, d3] => { results := [.lit (.bool false)], args := [d1, d2, d3] }
  | _ => none }
def ZonesCanonWrongFalsely : Prop := zonesCanonRow.holds Try.pinned (OpenSpec.ofChange zonesCanonWrong)

/-- 'billinglaw06.ZonesShorter': WHATEVER THE INPUT: true; the input reads as it did. -/
def zonesShorterSpec : ChangeSpec := { name := "zonesShorter", fn := fun _ => fun
  | [d1, d2] => { results := [.lit (.bool true)], args := [d1, d2] }
  | _ => none }
def zonesShorterRow : OpenClaim := { program := "ytcfmndhjmlbcoaa", sum := "59fe60129132f82660cb19d57a66e09337ac403bd0aa072a38470004ac15ac94", func := "billing/billinglaw06.ZonesShorter", spec := "zonesShorter", inPlace := ["internal/bytealg.abigen_runtime_cmpstring"], unfollowed := true, recurses := true, apart := false }
def ZonesShorterSaid : Prop := zonesShorterRow.holds Try.pinned (OpenSpec.ofChange zonesShorterSpec)

/-- ITS FALSE NEIGHBOUR: 'it returns false'. Refute it at one input. -/
def zonesShorterWrong : ChangeSpec := { name := "zonesShorter", fn := fun _ => fun
  | [d1, d2] => { results := [.lit (.bool false)], args := [d1, d2] }
  | _ => none }
def ZonesShorterWrongFalsely : Prop := zonesShorterRow.holds Try.pinned (OpenSpec.ofChange zonesShorterWrong)

/-- 'billinglaw04.IntervalPoints': WHATEVER THE INPUT: true; the input reads as it did. -/
def intervalPointsSpec : ChangeSpec := { name := "intervalPoints", fn := fun _ => fun
  | [d1, d2, d3] => { results := [.lit (.bool true)], args := [d1, d2, d3] }
  | _ => none }
def intervalPointsRow : OpenClaim := { program := "ytcfmndhjmlbcoaa", sum := "59fe60129132f82660cb19d57a66e09337ac403bd0aa072a38470004ac15ac94", func := "billing/billinglaw04.IntervalPoints", spec := "intervalPoints", unfollowed := true, recurses := true, apart := false }
def IntervalPointsSaid : Prop := intervalPointsRow.holds Try.pinned (OpenSpec.ofChange intervalPointsSpec)

/-- ITS FALSE NEIGHBOUR: 'it returns false'. Refute it at one input. -/
def intervalPointsWrong : ChangeSpec := { name := "intervalPoints", fn := fun _ => fun
  | [d1, d2, d3] => { results := [.lit (.bool false)], args := [d1, d2, d3] }
  | _ => none }
def IntervalPointsWrongFalsely : Prop := intervalPointsRow.holds Try.pinned (OpenSpec.ofChange intervalPointsWrong)

/- THE SECOND FORM. 'bulk': how many values and letters a reading holds, each counted each time it is reached (what is shared counts as often as it is met; a slice's spare places count too). A statement '..UptoSaid' is the law's where the arguments, and the package variables that the reading takes, are together of bulk at most 1048576: NARROWER than '..Said'. Prove '..Said' where nothing that the law and all that it calls make is longer than what came in: it says more and counts as full. Else prove '..UptoSaid'. A law counts once. -/
mutual
def uptoBulk {H : Type} : DataW H → Nat
  | .lit (.string bytes) => bytes.length + 1
  | .lit _ => 1
  | .nil => 1
  | .ptr d => uptoBulk d + 1
  | .slice elems spare => uptoBulkAll elems + uptoBulkAll spare + 1
  | .agg parts => uptoBulkAll parts + 1
  | .iface _ d => uptoBulk d + 1
  | .map entries => uptoBulkEntries entries + 1
  | .held _ => 1
def uptoBulkAll {H : Type} : List (DataW H) → Nat
  | [] => 0
  | d :: r => uptoBulk d + uptoBulkAll r
def uptoBulkEntries {H : Type} : List (Lit × DataW H) → Nat
  | [] => 0
  | x :: r => uptoBulkEntry x + uptoBulkEntries r
def uptoBulkEntry {H : Type} : Lit × DataW H → Nat
  | (.string bytes, d) => bytes.length + uptoBulk d + 1
  | (_, d) => uptoBulk d + 1
 end
def uptoSmall : (H : Type) → List (DataW H) → Bool := fun _ ds => decide (uptoBulkAll ds ≤ 1048576)
def OpenSpec.upto (s : _root_.Go.ChangeSpec) : _root_.Go.OpenSpec := { _root_.Go.OpenSpec.ofChange s with cond := some uptoSmall }

/-- 'billinglaw05.BandsChecks', WHERE WHAT IT READS IS OF BULK AT MOST 1048576: true; the input reads as it did. -/
def bandsChecksUptoRow : OpenClaim := { program := "ytcfmndhjmlbcoaa", sum := "59fe60129132f82660cb19d57a66e09337ac403bd0aa072a38470004ac15ac94", func := "billing/billinglaw05.BandsChecks", spec := "bandsChecks", unfollowed := true, recurses := true, apart := false, narrowed := true }
def BandsChecksUptoSaid : Prop := bandsChecksUptoRow.holds Try.pinned (OpenSpec.upto bandsChecksSpec)

/-- 'billinglaw05.BandsAt', WHERE WHAT IT READS IS OF BULK AT MOST 1048576: true; the input reads as it did. -/
def bandsAtUptoRow : OpenClaim := { program := "ytcfmndhjmlbcoaa", sum := "59fe60129132f82660cb19d57a66e09337ac403bd0aa072a38470004ac15ac94", func := "billing/billinglaw05.BandsAt", spec := "bandsAt", unfollowed := true, recurses := true, apart := false, narrowed := true }
def BandsAtUptoSaid : Prop := bandsAtUptoRow.holds Try.pinned (OpenSpec.upto bandsAtSpec)

/-- 'billinglaw05.BandsPieces', WHERE WHAT IT READS IS OF BULK AT MOST 1048576: true; the input reads as it did. -/
def bandsPiecesUptoRow : OpenClaim := { program := "ytcfmndhjmlbcoaa", sum := "59fe60129132f82660cb19d57a66e09337ac403bd0aa072a38470004ac15ac94", func := "billing/billinglaw05.BandsPieces", spec := "bandsPieces", unfollowed := true, recurses := true, apart := false, narrowed := true }
def BandsPiecesUptoSaid : Prop := bandsPiecesUptoRow.holds Try.pinned (OpenSpec.upto bandsPiecesSpec)

/-- 'billinglaw05.BandsCut', WHERE WHAT IT READS IS OF BULK AT MOST 1048576: true; the input reads as it did. -/
def bandsCutUptoRow : OpenClaim := { program := "ytcfmndhjmlbcoaa", sum := "59fe60129132f82660cb19d57a66e09337ac403bd0aa072a38470004ac15ac94", func := "billing/billinglaw05.BandsCut", spec := "bandsCut", unfollowed := true, recurses := true, apart := false, narrowed := true }
def BandsCutUptoSaid : Prop := bandsCutUptoRow.holds Try.pinned (OpenSpec.upto bandsCutSpec)

/-- 'billinglaw05.BandsSeconds', WHERE WHAT IT READS IS OF BULK AT MOST 1048576: true; the input reads as it did. -/
def bandsSecondsUptoRow : OpenClaim := { program := "ytcfmndhjmlbcoaa", sum := "59fe60129132f82660cb19d57a66e09337ac403bd0aa072a38470004ac15ac94", func := "billing/billinglaw05.BandsSeconds", spec := "bandsSeconds", unfollowed := true, recurses := true, apart := false, narrowed := true }
def BandsSecondsUptoSaid : Prop := bandsSecondsUptoRow.holds Try.pinned (OpenSpec.upto bandsSecondsSpec)

/-- 'billinglaw06.ZonesChecks', WHERE WHAT IT READS IS OF BULK AT MOST 1048576: true; the input reads as it did. -/
def zonesChecksUptoRow : OpenClaim := { program := "ytcfmndhjmlbcoaa", sum := "59fe60129132f82660cb19d57a66e09337ac403bd0aa072a38470004ac15ac94", func := "billing/billinglaw06.ZonesChecks", spec := "zonesChecks", inPlace := ["internal/bytealg.abigen_runtime_cmpstring"], unfollowed := true, recurses := true, apart := false, narrowed := true }
def ZonesChecksUptoSaid : Prop := zonesChecksUptoRow.holds Try.pinned (OpenSpec.upto zonesChecksSpec)

/-- 'billinglaw06.ZonesFinds', WHERE WHAT IT READS IS OF BULK AT MOST 1048576: true; the input reads as it did. -/
def zonesFindsUptoRow : OpenClaim := { program := "ytcfmndhjmlbcoaa", sum := "59fe60129132f82660cb19d57a66e09337ac403bd0aa072a38470004ac15ac94", func := "billing/billinglaw06.ZonesFinds", spec := "zonesFinds", inPlace := ["internal/bytealg.abigen_runtime_cmpstring"], unfollowed := true, recurses := true, apart := false, narrowed := true }
def ZonesFindsUptoSaid : Prop := zonesFindsUptoRow.holds Try.pinned (OpenSpec.upto zonesFindsSpec)

/-- 'billinglaw06.ZonesEqual', WHERE WHAT IT READS IS OF BULK AT MOST 1048576: true; the input reads as it did. -/
def zonesEqualUptoRow : OpenClaim := { program := "ytcfmndhjmlbcoaa", sum := "59fe60129132f82660cb19d57a66e09337ac403bd0aa072a38470004ac15ac94", func := "billing/billinglaw06.ZonesEqual", spec := "zonesEqual", inPlace := ["internal/bytealg.abigen_runtime_cmpstring"], unfollowed := true, recurses := true, apart := false, narrowed := true }
def ZonesEqualUptoSaid : Prop := zonesEqualUptoRow.holds Try.pinned (OpenSpec.upto zonesEqualSpec)

/-- 'billinglaw06.ZonesMinimals', WHERE WHAT IT READS IS OF BULK AT MOST 1048576: true; the input reads as it did. -/
def zonesMinimalsUptoRow : OpenClaim := { program := "ytcfmndhjmlbcoaa", sum := "59fe60129132f82660cb19d57a66e09337ac403bd0aa072a38470004ac15ac94", func := "billing/billinglaw06.ZonesMinimals", spec := "zonesMinimals", inPlace := ["internal/bytealg.abigen_runtime_cmpstring"], unfollowed := true, recurses := true, apart := false, narrowed := true }
def ZonesMinimalsUptoSaid : Prop := zonesMinimalsUptoRow.holds Try.pinned (OpenSpec.upto zonesMinimalsSpec)

/-- 'billinglaw06.ZonesCanon', WHERE WHAT IT READS IS OF BULK AT MOST 1048576: true; the input reads as it did. -/
def zonesCanonUptoRow : OpenClaim := { program := "ytcfmndhjmlbcoaa", sum := "59fe60129132f82660cb19d57a66e09337ac403bd0aa072a38470004ac15ac94", func := "billing/billinglaw06.ZonesCanon", spec := "zonesCanon", inPlace := ["internal/bytealg.abigen_runtime_cmpstring"], unfollowed := true, recurses := true, apart := false, narrowed := true }
def ZonesCanonUptoSaid : Prop := zonesCanonUptoRow.holds Try.pinned (OpenSpec.upto zonesCanonSpec)

/-- 'billinglaw06.ZonesShorter', WHERE WHAT IT READS IS OF BULK AT MOST 1048576: true; the input reads as it did. -/
def zonesShorterUptoRow : OpenClaim := { program := "ytcfmndhjmlbcoaa", sum := "59fe60129132f82660cb19d57a66e09337ac403bd0aa072a38470004ac15ac94", func := "billing/billinglaw06.ZonesShorter", spec := "zonesShorter", inPlace := ["internal/bytealg.abigen_runtime_cmpstring"], unfollowed := true, recurses := true, apart := false, narrowed := true }
def ZonesShorterUptoSaid : Prop := zonesShorterUptoRow.holds Try.pinned (OpenSpec.upto zonesShorterSpec)

/-- 'billinglaw04.IntervalPoints', WHERE WHAT IT READS IS OF BULK AT MOST 1048576: true; the input reads as it did. -/
def intervalPointsUptoRow : OpenClaim := { program := "ytcfmndhjmlbcoaa", sum := "59fe60129132f82660cb19d57a66e09337ac403bd0aa072a38470004ac15ac94", func := "billing/billinglaw04.IntervalPoints", spec := "intervalPoints", unfollowed := true, recurses := true, apart := false, narrowed := true }
def IntervalPointsUptoSaid : Prop := intervalPointsUptoRow.holds Try.pinned (OpenSpec.upto intervalPointsSpec)

end Rows
end Go.Proofs.Ytcfmndhjmlbcoaa
