/-
  DERIVED. GIVEN WITH THE SEED: THE CARDS: each row of YtjafgdefcggjcaaGreatDoorRows.lean that lists a variable, with what it lists TIED to the program's text (the seventh form; the later family's looks); each row that meets fmt, with fmt's text TOLD by the authors' own Lean function (tested against real Go, not proved from fmt's source: count such statements apart). THE CARD IS WHAT COUNTS. Prove the row's statement (the work); the ties are given (YtjafgdefcggjcaaGreatDoorTie.lean); close each card by the builder's one call (the guide's Derived/Test/ToyasCard.lean, 'card_holds'). Laid BY PROGRAM, IN A SANDBOX (cutbox-door.mjs). By AI agents, Wed Nov 11 2026. No macro, syntax, notation, axiom, sorry.
-/
import Derived.Test.YtjafgdefcggjcaaGreatDoorRows
import GoSem.ClaimSeven
namespace Go.Proofs.YtjafgdefcggjcaaGreatDoor
namespace Rows

/-- THE TIED CARD OF 'laws.FnExactJournalAtEnd'. -/
def fnExactJournalAtEndCard : Claim7 := { stood := { row := fnExactJournalAtEndRow, standIns := [], harness := (true, "642d207340eb21665759d4f0558472866dd4390f647b367f0ad284187e9cdf51"), looks := true }, kinds := [], alts := [], laidByText := true, laidKinds := [.data, .data, .data, .data, .sentinel, .sentinel, .pinned], laidTests := true, laidLooks := .later }
def FnExactJournalAtEndCardSaid : Prop := Claim7.holds Tryz.pinned (.plain (OpenSpec.ofChange fnExactJournalAtEndSpec)) fnExactJournalAtEndCard

/-- THE TIED CARD OF 'laws.FnExactRunLines'. -/
def fnExactRunLinesCard : Claim7 := { stood := { row := fnExactRunLinesRow, standIns := [], harness := (true, "642d207340eb21665759d4f0558472866dd4390f647b367f0ad284187e9cdf51"), looks := true }, kinds := [], alts := [], laidByText := true, laidKinds := [.data, .data, .data, .data, .sentinel, .sentinel, .pinned], laidTests := true, laidLooks := .later }
def FnExactRunLinesCardSaid : Prop := Claim7.holds Tryz.pinned (.plain (OpenSpec.ofChange fnExactRunLinesSpec)) fnExactRunLinesCard

/-- THE TIED CARD OF 'laws.FnExactCountReplies'. -/
def fnExactCountRepliesCard : Claim7 := { stood := { row := fnExactCountRepliesRow, standIns := [], harness := (true, "642d207340eb21665759d4f0558472866dd4390f647b367f0ad284187e9cdf51"), looks := true }, kinds := [], alts := [], laidByText := true, laidKinds := [.data, .data, .data, .data, .sentinel, .sentinel, .pinned], laidTests := true, laidLooks := .later }
def FnExactCountRepliesCardSaid : Prop := Claim7.holds Tryz.pinned (.plain (OpenSpec.ofChange fnExactCountRepliesSpec)) fnExactCountRepliesCard

/-- THE TIED CARD OF 'laws.FnExactMeltAtEnd'. -/
def fnExactMeltAtEndCard : Claim7 := { stood := { row := fnExactMeltAtEndRow, standIns := [], harness := (true, "642d207340eb21665759d4f0558472866dd4390f647b367f0ad284187e9cdf51"), looks := true }, kinds := [], alts := [], laidByText := true, laidKinds := [.data, .data, .data, .data, .sentinel, .sentinel, .pinned], laidTests := true, laidLooks := .later }
def FnExactMeltAtEndCardSaid : Prop := Claim7.holds Tryz.pinned (.plain (OpenSpec.ofChange fnExactMeltAtEndSpec)) fnExactMeltAtEndCard

/-- THE TIED CARD OF 'laws.FnExactStockAtEnd'. -/
def fnExactStockAtEndCard : Claim7 := { stood := { row := fnExactStockAtEndRow, standIns := [], harness := (true, "642d207340eb21665759d4f0558472866dd4390f647b367f0ad284187e9cdf51"), looks := true }, kinds := [], alts := [], laidByText := true, laidKinds := [.data, .data, .data, .data, .sentinel, .sentinel, .pinned], laidTests := true, laidLooks := .later }
def FnExactStockAtEndCardSaid : Prop := Claim7.holds Tryz.pinned (.plain (OpenSpec.ofChange fnExactStockAtEndSpec)) fnExactStockAtEndCard

/-- THE TIED CARD OF 'laws.FnExactFailedLines'. -/
def fnExactFailedLinesCard : Claim7 := { stood := { row := fnExactFailedLinesRow, standIns := [], harness := (true, "642d207340eb21665759d4f0558472866dd4390f647b367f0ad284187e9cdf51"), looks := true }, kinds := [], alts := [], laidByText := true, laidKinds := [.data, .data, .data, .data, .sentinel, .sentinel, .pinned], laidTests := true, laidLooks := .later }
def FnExactFailedLinesCardSaid : Prop := Claim7.holds Tryz.pinned (.plain (OpenSpec.ofChange fnExactFailedLinesSpec)) fnExactFailedLinesCard

/-- THE TIED CARD OF 'laws.FnScripts'. -/
def fnScriptsCard : Claim7 := { stood := { row := fnScriptsRow, standIns := [], harness := (true, "642d207340eb21665759d4f0558472866dd4390f647b367f0ad284187e9cdf51"), looks := true }, kinds := [], alts := [], laidByText := true, laidKinds := [.data, .data, .data, .data, .sentinel, .sentinel, .pinned], laidTests := true, laidLooks := .later }
def FnScriptsCardSaid : Prop := Claim7.holds Tryz.pinned (.plain (OpenSpec.ofChange fnScriptsSpec)) fnScriptsCard

/-- THE TIED CARD OF 'laws.FnScriptStates'. -/
def fnScriptStatesCard : Claim7 := { stood := { row := fnScriptStatesRow, standIns := [], harness := (true, "642d207340eb21665759d4f0558472866dd4390f647b367f0ad284187e9cdf51"), looks := true }, kinds := [], alts := [], laidByText := true, laidKinds := [.data, .data, .data, .data, .sentinel, .sentinel, .pinned], laidTests := true, laidLooks := .later }
def FnScriptStatesCardSaid : Prop := Claim7.holds Tryz.pinned (.plain (OpenSpec.ofChange fnScriptStatesSpec)) fnScriptStatesCard

/-- THE SECOND FORM's CARD OF 'laws.FnExactJournalAtEnd'. -/
def fnExactJournalAtEndUptoCard : Claim7 := { stood := { row := fnExactJournalAtEndUptoRow, standIns := [], harness := (true, "642d207340eb21665759d4f0558472866dd4390f647b367f0ad284187e9cdf51"), looks := true }, kinds := [], alts := [], laidByText := true, laidKinds := [.data, .data, .data, .data, .sentinel, .sentinel, .pinned], laidTests := true, laidLooks := .later }
def FnExactJournalAtEndUptoCardSaid : Prop := Claim7.holds Tryz.pinned (.plain (OpenSpec.upto fnExactJournalAtEndSpec)) fnExactJournalAtEndUptoCard

/-- THE SECOND FORM's CARD OF 'laws.FnExactRunLines'. -/
def fnExactRunLinesUptoCard : Claim7 := { stood := { row := fnExactRunLinesUptoRow, standIns := [], harness := (true, "642d207340eb21665759d4f0558472866dd4390f647b367f0ad284187e9cdf51"), looks := true }, kinds := [], alts := [], laidByText := true, laidKinds := [.data, .data, .data, .data, .sentinel, .sentinel, .pinned], laidTests := true, laidLooks := .later }
def FnExactRunLinesUptoCardSaid : Prop := Claim7.holds Tryz.pinned (.plain (OpenSpec.upto fnExactRunLinesSpec)) fnExactRunLinesUptoCard

/-- THE SECOND FORM's CARD OF 'laws.FnExactCountReplies'. -/
def fnExactCountRepliesUptoCard : Claim7 := { stood := { row := fnExactCountRepliesUptoRow, standIns := [], harness := (true, "642d207340eb21665759d4f0558472866dd4390f647b367f0ad284187e9cdf51"), looks := true }, kinds := [], alts := [], laidByText := true, laidKinds := [.data, .data, .data, .data, .sentinel, .sentinel, .pinned], laidTests := true, laidLooks := .later }
def FnExactCountRepliesUptoCardSaid : Prop := Claim7.holds Tryz.pinned (.plain (OpenSpec.upto fnExactCountRepliesSpec)) fnExactCountRepliesUptoCard

/-- THE SECOND FORM's CARD OF 'laws.FnExactMeltAtEnd'. -/
def fnExactMeltAtEndUptoCard : Claim7 := { stood := { row := fnExactMeltAtEndUptoRow, standIns := [], harness := (true, "642d207340eb21665759d4f0558472866dd4390f647b367f0ad284187e9cdf51"), looks := true }, kinds := [], alts := [], laidByText := true, laidKinds := [.data, .data, .data, .data, .sentinel, .sentinel, .pinned], laidTests := true, laidLooks := .later }
def FnExactMeltAtEndUptoCardSaid : Prop := Claim7.holds Tryz.pinned (.plain (OpenSpec.upto fnExactMeltAtEndSpec)) fnExactMeltAtEndUptoCard

/-- THE SECOND FORM's CARD OF 'laws.FnExactStockAtEnd'. -/
def fnExactStockAtEndUptoCard : Claim7 := { stood := { row := fnExactStockAtEndUptoRow, standIns := [], harness := (true, "642d207340eb21665759d4f0558472866dd4390f647b367f0ad284187e9cdf51"), looks := true }, kinds := [], alts := [], laidByText := true, laidKinds := [.data, .data, .data, .data, .sentinel, .sentinel, .pinned], laidTests := true, laidLooks := .later }
def FnExactStockAtEndUptoCardSaid : Prop := Claim7.holds Tryz.pinned (.plain (OpenSpec.upto fnExactStockAtEndSpec)) fnExactStockAtEndUptoCard

/-- THE SECOND FORM's CARD OF 'laws.FnExactFailedLines'. -/
def fnExactFailedLinesUptoCard : Claim7 := { stood := { row := fnExactFailedLinesUptoRow, standIns := [], harness := (true, "642d207340eb21665759d4f0558472866dd4390f647b367f0ad284187e9cdf51"), looks := true }, kinds := [], alts := [], laidByText := true, laidKinds := [.data, .data, .data, .data, .sentinel, .sentinel, .pinned], laidTests := true, laidLooks := .later }
def FnExactFailedLinesUptoCardSaid : Prop := Claim7.holds Tryz.pinned (.plain (OpenSpec.upto fnExactFailedLinesSpec)) fnExactFailedLinesUptoCard

/-- THE SECOND FORM's CARD OF 'laws.FnScripts'. -/
def fnScriptsUptoCard : Claim7 := { stood := { row := fnScriptsUptoRow, standIns := [], harness := (true, "642d207340eb21665759d4f0558472866dd4390f647b367f0ad284187e9cdf51"), looks := true }, kinds := [], alts := [], laidByText := true, laidKinds := [.data, .data, .data, .data, .sentinel, .sentinel, .pinned], laidTests := true, laidLooks := .later }
def FnScriptsUptoCardSaid : Prop := Claim7.holds Tryz.pinned (.plain (OpenSpec.upto fnScriptsSpec)) fnScriptsUptoCard

/-- THE SECOND FORM's CARD OF 'laws.FnScriptStates'. -/
def fnScriptStatesUptoCard : Claim7 := { stood := { row := fnScriptStatesUptoRow, standIns := [], harness := (true, "642d207340eb21665759d4f0558472866dd4390f647b367f0ad284187e9cdf51"), looks := true }, kinds := [], alts := [], laidByText := true, laidKinds := [.data, .data, .data, .data, .sentinel, .sentinel, .pinned], laidTests := true, laidLooks := .later }
def FnScriptStatesUptoCardSaid : Prop := Claim7.holds Tryz.pinned (.plain (OpenSpec.upto fnScriptStatesSpec)) fnScriptStatesUptoCard
end Rows
end Go.Proofs.YtjafgdefcggjcaaGreatDoor
