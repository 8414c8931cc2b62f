/-
  DERIVED. GIVEN WITH THE SEED: THE CARDS: each row of YtohmdohbmmbbkaaDoorRows.lean that lists a variable, with what it lists TIED to the program's text (the seventh form; the later family's looks); each row that meets fmt, with fmt's text TOLD by the authors' own Lean function (tested against real Go, not proved from fmt's source: count such statements apart). THE CARD IS WHAT COUNTS. Prove the row's statement (the work); the ties are given (YtohmdohbmmbbkaaDoorTie.lean); close each card by the builder's one call (the guide's Derived/Test/ToyasCard.lean, 'card_holds'). Laid BY PROGRAM, IN A SANDBOX (cutbox-door.mjs). By AI agents, Wed Nov 11 2026. No macro, syntax, notation, axiom, sorry.
-/
import Derived.Test.YtohmdohbmmbbkaaDoorRows
import GoSem.ClaimSeven
namespace Go.Proofs.YtohmdohbmmbbkaaDoor
namespace Rows

/-- THE TIED CARD OF 'billinglaw51.SettleStatements'. -/
def settleStatementsCard : Claim7 := { stood := { row := settleStatementsRow, standIns := [], harness := (true, "4f5e7ecba5a79a638c490b24133384a06dcecdb53ec69b74dfecf06f7a57a9f8"), looks := false }, kinds := [], alts := [], laidByText := true, laidKinds := [.data, .data, .data], laidTests := true, laidLooks := .later }
def SettleStatementsCardSaid : Prop := Claim7.holds Tryd.pinned (.plain (OpenSpec.ofChange settleStatementsSpec)) settleStatementsCard

/-- THE TIED CARD OF 'billinglaw51.SettleEntries'. -/
def settleEntriesCard : Claim7 := { stood := { row := settleEntriesRow, standIns := [], harness := (true, "4f5e7ecba5a79a638c490b24133384a06dcecdb53ec69b74dfecf06f7a57a9f8"), looks := false }, kinds := [], alts := [], laidByText := true, laidKinds := [.data, .data, .data], laidTests := true, laidLooks := .later }
def SettleEntriesCardSaid : Prop := Claim7.holds Tryd.pinned (.plain (OpenSpec.ofChange settleEntriesSpec)) settleEntriesCard

/-- THE TIED CARD OF 'billinglaw51.SettleDivides'. -/
def settleDividesCard : Claim7 := { stood := { row := settleDividesRow, standIns := [], harness := (true, "4f5e7ecba5a79a638c490b24133384a06dcecdb53ec69b74dfecf06f7a57a9f8"), looks := false }, kinds := [], alts := [], laidByText := true, laidKinds := [.data, .data, .data], laidTests := true, laidLooks := .later }
def SettleDividesCardSaid : Prop := Claim7.holds Tryd.pinned (.plain (OpenSpec.ofChange settleDividesSpec)) settleDividesCard

/-- THE TIED CARD OF 'billinglaw51.SettleCaps'. -/
def settleCapsCard : Claim7 := { stood := { row := settleCapsRow, standIns := [], harness := (true, "4f5e7ecba5a79a638c490b24133384a06dcecdb53ec69b74dfecf06f7a57a9f8"), looks := false }, kinds := [], alts := [], laidByText := true, laidKinds := [.data, .data, .data], laidTests := true, laidLooks := .later }
def SettleCapsCardSaid : Prop := Claim7.holds Tryd.pinned (.plain (OpenSpec.ofChange settleCapsSpec)) settleCapsCard

/-- THE SECOND FORM's CARD OF 'billinglaw51.SettleStatements'. -/
def settleStatementsUptoCard : Claim7 := { stood := { row := settleStatementsUptoRow, standIns := [], harness := (true, "4f5e7ecba5a79a638c490b24133384a06dcecdb53ec69b74dfecf06f7a57a9f8"), looks := false }, kinds := [], alts := [], laidByText := true, laidKinds := [.data, .data, .data], laidTests := true, laidLooks := .later }
def SettleStatementsUptoCardSaid : Prop := Claim7.holds Tryd.pinned (.plain (OpenSpec.upto settleStatementsSpec)) settleStatementsUptoCard

/-- THE SECOND FORM's CARD OF 'billinglaw51.SettleEntries'. -/
def settleEntriesUptoCard : Claim7 := { stood := { row := settleEntriesUptoRow, standIns := [], harness := (true, "4f5e7ecba5a79a638c490b24133384a06dcecdb53ec69b74dfecf06f7a57a9f8"), looks := false }, kinds := [], alts := [], laidByText := true, laidKinds := [.data, .data, .data], laidTests := true, laidLooks := .later }
def SettleEntriesUptoCardSaid : Prop := Claim7.holds Tryd.pinned (.plain (OpenSpec.upto settleEntriesSpec)) settleEntriesUptoCard

/-- THE SECOND FORM's CARD OF 'billinglaw51.SettleDivides'. -/
def settleDividesUptoCard : Claim7 := { stood := { row := settleDividesUptoRow, standIns := [], harness := (true, "4f5e7ecba5a79a638c490b24133384a06dcecdb53ec69b74dfecf06f7a57a9f8"), looks := false }, kinds := [], alts := [], laidByText := true, laidKinds := [.data, .data, .data], laidTests := true, laidLooks := .later }
def SettleDividesUptoCardSaid : Prop := Claim7.holds Tryd.pinned (.plain (OpenSpec.upto settleDividesSpec)) settleDividesUptoCard

/-- THE SECOND FORM's CARD OF 'billinglaw51.SettleCaps'. -/
def settleCapsUptoCard : Claim7 := { stood := { row := settleCapsUptoRow, standIns := [], harness := (true, "4f5e7ecba5a79a638c490b24133384a06dcecdb53ec69b74dfecf06f7a57a9f8"), looks := false }, kinds := [], alts := [], laidByText := true, laidKinds := [.data, .data, .data], laidTests := true, laidLooks := .later }
def SettleCapsUptoCardSaid : Prop := Claim7.holds Tryd.pinned (.plain (OpenSpec.upto settleCapsSpec)) settleCapsUptoCard
end Rows
end Go.Proofs.YtohmdohbmmbbkaaDoor
