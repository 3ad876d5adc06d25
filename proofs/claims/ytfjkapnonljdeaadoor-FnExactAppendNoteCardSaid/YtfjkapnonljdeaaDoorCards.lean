/-
  DERIVED. GIVEN WITH THE SEED: THE CARDS: each row of YtfjkapnonljdeaaDoorRows.lean that lists a variable, with what it lists TIED to the program's text (the seventh form; the later family's looks); each row that meets fmt, with fmt's text TOLD by the authors' own Lean function (tested against real Go, not proved from fmt's source: count such statements apart). THE CARD IS WHAT COUNTS. Prove the row's statement (the work); the ties are given (YtfjkapnonljdeaaDoorTie.lean); close each card by the builder's one call (the guide's Derived/Test/ToyasCard.lean, 'card_holds'). Laid BY PROGRAM, IN A SANDBOX (cutbox-door.mjs). By AI agents, Wed Nov 11 2026. No macro, syntax, notation, axiom, sorry.
-/
import Derived.Test.YtfjkapnonljdeaaDoorRows
import GoSem.ClaimSeven
namespace Go.Proofs.YtfjkapnonljdeaaDoor
namespace Rows

/-- THE TIED CARD OF 'laws.FnExactOrderText'. -/
def fnExactOrderTextCard : Claim7 := { stood := { row := fnExactOrderTextRow, standIns := [], harness := (true, "2c3e51246f763ca8fc1a28e5a6780831175dd86d1d6d50456be45d96a6284e90"), looks := true }, kinds := [], alts := [], laidByText := true, laidKinds := [.data, .data, .data], laidTests := true, laidLooks := .later }
def FnExactOrderTextCardSaid : Prop := Claim7.holds Tryd.pinned (.plain (OpenSpec.ofChange fnExactOrderTextSpec)) fnExactOrderTextCard

/-- THE TIED CARD OF 'laws.FnExactJoinScripts'. -/
def fnExactJoinScriptsCard : Claim7 := { stood := { row := fnExactJoinScriptsRow, standIns := [], harness := (true, "2c3e51246f763ca8fc1a28e5a6780831175dd86d1d6d50456be45d96a6284e90"), looks := true }, kinds := [], alts := [], laidByText := true, laidKinds := [.data, .pinned], laidTests := true, laidLooks := .later }
def FnExactJoinScriptsCardSaid : Prop := Claim7.holds Tryd.pinned (.plain (OpenSpec.ofChange fnExactJoinScriptsSpec)) fnExactJoinScriptsCard

/-- THE TIED CARD OF 'laws.FnExactJournalText'. -/
def fnExactJournalTextCard : Claim7 := { stood := { row := fnExactJournalTextRow, standIns := [], harness := (true, "2c3e51246f763ca8fc1a28e5a6780831175dd86d1d6d50456be45d96a6284e90"), looks := true }, kinds := [], alts := [], laidByText := true, laidKinds := [.data, .data, .data], laidTests := true, laidLooks := .later }
def FnExactJournalTextCardSaid : Prop := Claim7.holds Tryd.pinned (.plain (OpenSpec.ofChange fnExactJournalTextSpec)) fnExactJournalTextCard

/-- THE TIED CARD OF 'laws.FnExactShopText'. -/
def fnExactShopTextCard : Claim7 := { stood := { row := fnExactShopTextRow, standIns := [], harness := (true, "2c3e51246f763ca8fc1a28e5a6780831175dd86d1d6d50456be45d96a6284e90"), looks := true }, kinds := [], alts := [], laidByText := true, laidKinds := [.data, .data, .data], laidTests := true, laidLooks := .later }
def FnExactShopTextCardSaid : Prop := Claim7.holds Tryd.pinned (.plain (OpenSpec.ofChange fnExactShopTextSpec)) fnExactShopTextCard

/-- THE TIED CARD OF 'laws.FnExactParseOrder'. -/
def fnExactParseOrderCard : Claim7 := { stood := { row := fnExactParseOrderRow, standIns := [], harness := (true, "2c3e51246f763ca8fc1a28e5a6780831175dd86d1d6d50456be45d96a6284e90"), looks := true }, kinds := [], alts := [], laidByText := true, laidKinds := [.data, .data, .data, .sentinel, .sentinel], laidTests := true, laidLooks := .later }
def FnExactParseOrderCardSaid : Prop := Claim7.holds Tryd.pinned (.plain (OpenSpec.ofChange fnExactParseOrderSpec)) fnExactParseOrderCard

/-- THE TIED CARD OF 'laws.FnExactFirstBadLine'. -/
def fnExactFirstBadLineCard : Claim7 := { stood := { row := fnExactFirstBadLineRow, standIns := [], harness := (true, "2c3e51246f763ca8fc1a28e5a6780831175dd86d1d6d50456be45d96a6284e90"), looks := true }, kinds := [], alts := [], laidByText := true, laidKinds := [.data, .data, .data, .sentinel, .sentinel], laidTests := true, laidLooks := .later }
def FnExactFirstBadLineCardSaid : Prop := Claim7.holds Tryd.pinned (.plain (OpenSpec.ofChange fnExactFirstBadLineSpec)) fnExactFirstBadLineCard

/-- THE TIED CARD OF 'laws.FnExactSameStart'. -/
def fnExactSameStartCard : Claim7 := { stood := { row := fnExactSameStartRow, standIns := [], harness := (true, "2c3e51246f763ca8fc1a28e5a6780831175dd86d1d6d50456be45d96a6284e90"), looks := true }, kinds := [], alts := [], laidByText := true, laidKinds := [.data, .data, .data, .sentinel, .sentinel], laidTests := true, laidLooks := .later }
def FnExactSameStartCardSaid : Prop := Claim7.holds Tryd.pinned (.plain (OpenSpec.ofChange fnExactSameStartSpec)) fnExactSameStartCard

/-- THE TIED CARD OF 'laws.FnExactRecovered'. -/
def fnExactRecoveredCard : Claim7 := { stood := { row := fnExactRecoveredRow, standIns := [], harness := (true, "2c3e51246f763ca8fc1a28e5a6780831175dd86d1d6d50456be45d96a6284e90"), looks := true }, kinds := [], alts := [], laidByText := true, laidKinds := [.data, .data, .data, .sentinel, .sentinel], laidTests := true, laidLooks := .later }
def FnExactRecoveredCardSaid : Prop := Claim7.holds Tryd.pinned (.plain (OpenSpec.ofChange fnExactRecoveredSpec)) fnExactRecoveredCard

/-- THE TIED CARD OF 'laws.FnExactAppendNote'. -/
def fnExactAppendNoteCard : Claim7 := { stood := { row := fnExactAppendNoteRow, standIns := [], harness := (true, "2c3e51246f763ca8fc1a28e5a6780831175dd86d1d6d50456be45d96a6284e90"), looks := true }, kinds := [], alts := [], laidByText := true, laidKinds := [.data, .data, .data, .sentinel, .sentinel], laidTests := true, laidLooks := .later }
def FnExactAppendNoteCardSaid : Prop := Claim7.holds Tryd.pinned (.plain (OpenSpec.ofChange fnExactAppendNoteSpec)) fnExactAppendNoteCard

/-- THE TIED CARD OF 'laws.FnExactReadJournal'. -/
def fnExactReadJournalCard : Claim7 := { stood := { row := fnExactReadJournalRow, standIns := [], harness := (true, "2c3e51246f763ca8fc1a28e5a6780831175dd86d1d6d50456be45d96a6284e90"), looks := true }, kinds := [], alts := [], laidByText := true, laidKinds := [.data, .data, .data, .sentinel, .sentinel], laidTests := true, laidLooks := .later }
def FnExactReadJournalCardSaid : Prop := Claim7.holds Tryd.pinned (.plain (OpenSpec.ofChange fnExactReadJournalSpec)) fnExactReadJournalCard

/-- THE SECOND FORM's CARD OF 'laws.FnExactOrderText'. -/
def fnExactOrderTextUptoCard : Claim7 := { stood := { row := fnExactOrderTextUptoRow, standIns := [], harness := (true, "2c3e51246f763ca8fc1a28e5a6780831175dd86d1d6d50456be45d96a6284e90"), looks := true }, kinds := [], alts := [], laidByText := true, laidKinds := [.data, .data, .data], laidTests := true, laidLooks := .later }
def FnExactOrderTextUptoCardSaid : Prop := Claim7.holds Tryd.pinned (.plain (OpenSpec.upto fnExactOrderTextSpec)) fnExactOrderTextUptoCard

/-- THE SECOND FORM's CARD OF 'laws.FnExactJoinScripts'. -/
def fnExactJoinScriptsUptoCard : Claim7 := { stood := { row := fnExactJoinScriptsUptoRow, standIns := [], harness := (true, "2c3e51246f763ca8fc1a28e5a6780831175dd86d1d6d50456be45d96a6284e90"), looks := true }, kinds := [], alts := [], laidByText := true, laidKinds := [.data, .pinned], laidTests := true, laidLooks := .later }
def FnExactJoinScriptsUptoCardSaid : Prop := Claim7.holds Tryd.pinned (.plain (OpenSpec.upto fnExactJoinScriptsSpec)) fnExactJoinScriptsUptoCard

/-- THE SECOND FORM's CARD OF 'laws.FnExactJournalText'. -/
def fnExactJournalTextUptoCard : Claim7 := { stood := { row := fnExactJournalTextUptoRow, standIns := [], harness := (true, "2c3e51246f763ca8fc1a28e5a6780831175dd86d1d6d50456be45d96a6284e90"), looks := true }, kinds := [], alts := [], laidByText := true, laidKinds := [.data, .data, .data], laidTests := true, laidLooks := .later }
def FnExactJournalTextUptoCardSaid : Prop := Claim7.holds Tryd.pinned (.plain (OpenSpec.upto fnExactJournalTextSpec)) fnExactJournalTextUptoCard

/-- THE SECOND FORM's CARD OF 'laws.FnExactShopText'. -/
def fnExactShopTextUptoCard : Claim7 := { stood := { row := fnExactShopTextUptoRow, standIns := [], harness := (true, "2c3e51246f763ca8fc1a28e5a6780831175dd86d1d6d50456be45d96a6284e90"), looks := true }, kinds := [], alts := [], laidByText := true, laidKinds := [.data, .data, .data], laidTests := true, laidLooks := .later }
def FnExactShopTextUptoCardSaid : Prop := Claim7.holds Tryd.pinned (.plain (OpenSpec.upto fnExactShopTextSpec)) fnExactShopTextUptoCard

/-- THE SECOND FORM's CARD OF 'laws.FnExactParseOrder'. -/
def fnExactParseOrderUptoCard : Claim7 := { stood := { row := fnExactParseOrderUptoRow, standIns := [], harness := (true, "2c3e51246f763ca8fc1a28e5a6780831175dd86d1d6d50456be45d96a6284e90"), looks := true }, kinds := [], alts := [], laidByText := true, laidKinds := [.data, .data, .data, .sentinel, .sentinel], laidTests := true, laidLooks := .later }
def FnExactParseOrderUptoCardSaid : Prop := Claim7.holds Tryd.pinned (.plain (OpenSpec.upto fnExactParseOrderSpec)) fnExactParseOrderUptoCard

/-- THE SECOND FORM's CARD OF 'laws.FnExactFirstBadLine'. -/
def fnExactFirstBadLineUptoCard : Claim7 := { stood := { row := fnExactFirstBadLineUptoRow, standIns := [], harness := (true, "2c3e51246f763ca8fc1a28e5a6780831175dd86d1d6d50456be45d96a6284e90"), looks := true }, kinds := [], alts := [], laidByText := true, laidKinds := [.data, .data, .data, .sentinel, .sentinel], laidTests := true, laidLooks := .later }
def FnExactFirstBadLineUptoCardSaid : Prop := Claim7.holds Tryd.pinned (.plain (OpenSpec.upto fnExactFirstBadLineSpec)) fnExactFirstBadLineUptoCard

/-- THE SECOND FORM's CARD OF 'laws.FnExactSameStart'. -/
def fnExactSameStartUptoCard : Claim7 := { stood := { row := fnExactSameStartUptoRow, standIns := [], harness := (true, "2c3e51246f763ca8fc1a28e5a6780831175dd86d1d6d50456be45d96a6284e90"), looks := true }, kinds := [], alts := [], laidByText := true, laidKinds := [.data, .data, .data, .sentinel, .sentinel], laidTests := true, laidLooks := .later }
def FnExactSameStartUptoCardSaid : Prop := Claim7.holds Tryd.pinned (.plain (OpenSpec.upto fnExactSameStartSpec)) fnExactSameStartUptoCard

/-- THE SECOND FORM's CARD OF 'laws.FnExactRecovered'. -/
def fnExactRecoveredUptoCard : Claim7 := { stood := { row := fnExactRecoveredUptoRow, standIns := [], harness := (true, "2c3e51246f763ca8fc1a28e5a6780831175dd86d1d6d50456be45d96a6284e90"), looks := true }, kinds := [], alts := [], laidByText := true, laidKinds := [.data, .data, .data, .sentinel, .sentinel], laidTests := true, laidLooks := .later }
def FnExactRecoveredUptoCardSaid : Prop := Claim7.holds Tryd.pinned (.plain (OpenSpec.upto fnExactRecoveredSpec)) fnExactRecoveredUptoCard

/-- THE SECOND FORM's CARD OF 'laws.FnExactAppendNote'. -/
def fnExactAppendNoteUptoCard : Claim7 := { stood := { row := fnExactAppendNoteUptoRow, standIns := [], harness := (true, "2c3e51246f763ca8fc1a28e5a6780831175dd86d1d6d50456be45d96a6284e90"), looks := true }, kinds := [], alts := [], laidByText := true, laidKinds := [.data, .data, .data, .sentinel, .sentinel], laidTests := true, laidLooks := .later }
def FnExactAppendNoteUptoCardSaid : Prop := Claim7.holds Tryd.pinned (.plain (OpenSpec.upto fnExactAppendNoteSpec)) fnExactAppendNoteUptoCard

/-- THE SECOND FORM's CARD OF 'laws.FnExactReadJournal'. -/
def fnExactReadJournalUptoCard : Claim7 := { stood := { row := fnExactReadJournalUptoRow, standIns := [], harness := (true, "2c3e51246f763ca8fc1a28e5a6780831175dd86d1d6d50456be45d96a6284e90"), looks := true }, kinds := [], alts := [], laidByText := true, laidKinds := [.data, .data, .data, .sentinel, .sentinel], laidTests := true, laidLooks := .later }
def FnExactReadJournalUptoCardSaid : Prop := Claim7.holds Tryd.pinned (.plain (OpenSpec.upto fnExactReadJournalSpec)) fnExactReadJournalUptoCard
end Rows
end Go.Proofs.YtfjkapnonljdeaaDoor
