/-
  DERIVED. GIVEN WITH THE SEED: THE CARDS: each row of YtjibjoapbjojlaaDoorRows.lean that lists a variable, with what it lists TIED to the program's text (the seventh form; the later family's looks); each row that meets fmt, with fmt's text TOLD by the authors' own Lean function (tested against real Go, not proved from fmt's source: count such statements apart). THE CARD IS WHAT COUNTS. Prove the row's statement (the work); the ties are given (YtjibjoapbjojlaaDoorTie.lean); close each card by the builder's one call (the guide's Derived/Test/ToyasCard.lean, 'card_holds'). Laid BY PROGRAM, IN A SANDBOX (cutbox-door.mjs). By AI agents, Wed Nov 11 2026. No macro, syntax, notation, axiom, sorry.
-/
import Derived.Test.YtjibjoapbjojlaaDoorRows
import GoSem.ClaimSeven
namespace Go.Proofs.YtjibjoapbjojlaaDoor
namespace Rows

/-- THE TIED CARD OF 'laws.FnExactParseBatch'. -/
def fnExactParseBatchCard : Claim7 := { stood := { row := fnExactParseBatchRow, standIns := [], harness := (true, "62808f8ef7f29c6dd621caf4339863ec16c784b8c0c74f412def0724fb8abdab"), looks := false }, kinds := [], alts := [], laidByText := true, laidKinds := [.data, .data, .data, .data, .pinned], laidTests := true, laidLooks := .later }
def FnExactParseBatchCardSaid : Prop := Claim7.holds Tryd.pinned (.plain (OpenSpec.ofChange fnExactParseBatchSpec)) fnExactParseBatchCard

/-- THE TIED CARD OF 'laws.FnBatchText'. -/
def fnBatchTextCard : Claim7 := { stood := { row := fnBatchTextRow, standIns := [], harness := (true, "62808f8ef7f29c6dd621caf4339863ec16c784b8c0c74f412def0724fb8abdab"), looks := false }, kinds := [], alts := [], laidByText := true, laidKinds := [.data, .data, .data, .data, .pinned], laidTests := true, laidLooks := .later }
def FnBatchTextCardSaid : Prop := Claim7.holds Tryd.pinned (.plain (OpenSpec.ofChange fnBatchTextSpec)) fnBatchTextCard

/-- THE TIED CARD OF 'laws.FnPlanText'. -/
def fnPlanTextCard : Claim7 := { stood := { row := fnPlanTextRow, standIns := [], harness := (true, "62808f8ef7f29c6dd621caf4339863ec16c784b8c0c74f412def0724fb8abdab"), looks := false }, kinds := [], alts := [], laidByText := true, laidKinds := [.data, .data, .data, .data, .pinned], laidTests := true, laidLooks := .later }
def FnPlanTextCardSaid : Prop := Claim7.holds Tryd.pinned (.plain (OpenSpec.ofChange fnPlanTextSpec)) fnPlanTextCard

/-- THE TIED CARD OF 'laws.FnForwardsText'. -/
def fnForwardsTextCard : Claim7 := { stood := { row := fnForwardsTextRow, standIns := [], harness := (true, "62808f8ef7f29c6dd621caf4339863ec16c784b8c0c74f412def0724fb8abdab"), looks := false }, kinds := [], alts := [], laidByText := true, laidKinds := [.data, .pinned], laidTests := true, laidLooks := .later }
def FnForwardsTextCardSaid : Prop := Claim7.holds Tryd.pinned (.plain (OpenSpec.ofChange fnForwardsTextSpec)) fnForwardsTextCard

/-- THE SECOND FORM's CARD OF 'laws.FnExactParseBatch'. -/
def fnExactParseBatchUptoCard : Claim7 := { stood := { row := fnExactParseBatchUptoRow, standIns := [], harness := (true, "62808f8ef7f29c6dd621caf4339863ec16c784b8c0c74f412def0724fb8abdab"), looks := false }, kinds := [], alts := [], laidByText := true, laidKinds := [.data, .data, .data, .data, .pinned], laidTests := true, laidLooks := .later }
def FnExactParseBatchUptoCardSaid : Prop := Claim7.holds Tryd.pinned (.plain (OpenSpec.upto fnExactParseBatchSpec)) fnExactParseBatchUptoCard

/-- THE SECOND FORM's CARD OF 'laws.FnBatchText'. -/
def fnBatchTextUptoCard : Claim7 := { stood := { row := fnBatchTextUptoRow, standIns := [], harness := (true, "62808f8ef7f29c6dd621caf4339863ec16c784b8c0c74f412def0724fb8abdab"), looks := false }, kinds := [], alts := [], laidByText := true, laidKinds := [.data, .data, .data, .data, .pinned], laidTests := true, laidLooks := .later }
def FnBatchTextUptoCardSaid : Prop := Claim7.holds Tryd.pinned (.plain (OpenSpec.upto fnBatchTextSpec)) fnBatchTextUptoCard

/-- THE SECOND FORM's CARD OF 'laws.FnPlanText'. -/
def fnPlanTextUptoCard : Claim7 := { stood := { row := fnPlanTextUptoRow, standIns := [], harness := (true, "62808f8ef7f29c6dd621caf4339863ec16c784b8c0c74f412def0724fb8abdab"), looks := false }, kinds := [], alts := [], laidByText := true, laidKinds := [.data, .data, .data, .data, .pinned], laidTests := true, laidLooks := .later }
def FnPlanTextUptoCardSaid : Prop := Claim7.holds Tryd.pinned (.plain (OpenSpec.upto fnPlanTextSpec)) fnPlanTextUptoCard

/-- THE SECOND FORM's CARD OF 'laws.FnForwardsText'. -/
def fnForwardsTextUptoCard : Claim7 := { stood := { row := fnForwardsTextUptoRow, standIns := [], harness := (true, "62808f8ef7f29c6dd621caf4339863ec16c784b8c0c74f412def0724fb8abdab"), looks := false }, kinds := [], alts := [], laidByText := true, laidKinds := [.data, .pinned], laidTests := true, laidLooks := .later }
def FnForwardsTextUptoCardSaid : Prop := Claim7.holds Tryd.pinned (.plain (OpenSpec.upto fnForwardsTextSpec)) fnForwardsTextUptoCard
end Rows
end Go.Proofs.YtjibjoapbjojlaaDoor
