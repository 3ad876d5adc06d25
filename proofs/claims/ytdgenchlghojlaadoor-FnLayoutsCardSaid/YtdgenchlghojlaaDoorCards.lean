/-
  DERIVED. GIVEN WITH THE SEED: THE CARDS: each row of YtdgenchlghojlaaDoorRows.lean that lists a variable, with what it lists TIED to the program's text (the seventh form; the later family's looks); each row that meets fmt, with fmt's text TOLD by the authors' own Lean function (tested against real Go, not proved from fmt's source: count such statements apart). THE CARD IS WHAT COUNTS. Prove the row's statement (the work); the ties are given (YtdgenchlghojlaaDoorTie.lean); close each card by the builder's one call (the guide's Derived/Test/ToyasCard.lean, 'card_holds'). Laid BY PROGRAM, IN A SANDBOX (cutbox-door.mjs). By AI agents, Wed Nov 11 2026. No macro, syntax, notation, axiom, sorry.
-/
import Derived.Test.YtdgenchlghojlaaDoorRows
import GoSem.ClaimSeven
namespace Go.Proofs.YtdgenchlghojlaaDoor
namespace Rows

/-- THE TIED CARD OF 'laws.FnLayouts'. -/
def fnLayoutsCard : Claim7 := { stood := { row := fnLayoutsRow, standIns := [], harness := (true, "bc32b6690ce2c9cdf0555f87bdba43aab3e4d3320868fb5db1f7653563099fe4"), looks := true }, kinds := [], alts := [], laidByText := true, laidKinds := [.data, .data, .data, .sentinel, .sentinel], laidTests := true, laidLooks := .later }
def FnLayoutsCardSaid : Prop := Claim7.holds Tryd.pinned (.plain (OpenSpec.ofChange fnLayoutsSpec)) fnLayoutsCard

/-- THE TIED CARD OF 'laws.FnStrikes'. -/
def fnStrikesCard : Claim7 := { stood := { row := fnStrikesRow, standIns := [], harness := (true, "bc32b6690ce2c9cdf0555f87bdba43aab3e4d3320868fb5db1f7653563099fe4"), looks := true }, kinds := [], alts := [], laidByText := true, laidKinds := [.data, .data, .data, .sentinel, .sentinel], laidTests := true, laidLooks := .later }
def FnStrikesCardSaid : Prop := Claim7.holds Tryd.pinned (.plain (OpenSpec.ofChange fnStrikesSpec)) fnStrikesCard

/-- THE TIED CARD OF 'laws.FnMelts'. -/
def fnMeltsCard : Claim7 := { stood := { row := fnMeltsRow, standIns := [], harness := (true, "bc32b6690ce2c9cdf0555f87bdba43aab3e4d3320868fb5db1f7653563099fe4"), looks := true }, kinds := [], alts := [], laidByText := true, laidKinds := [.data, .data, .data, .sentinel, .sentinel], laidTests := true, laidLooks := .later }
def FnMeltsCardSaid : Prop := Claim7.holds Tryd.pinned (.plain (OpenSpec.ofChange fnMeltsSpec)) fnMeltsCard

/-- THE TIED CARD OF 'laws.FnCases'. -/
def fnCasesCard : Claim7 := { stood := { row := fnCasesRow, standIns := [], harness := (true, "bc32b6690ce2c9cdf0555f87bdba43aab3e4d3320868fb5db1f7653563099fe4"), looks := true }, kinds := [], alts := [], laidByText := true, laidKinds := [.data, .data, .data], laidTests := true, laidLooks := .later }
def FnCasesCardSaid : Prop := Claim7.holds Tryd.pinned (.plain (OpenSpec.ofChange fnCasesSpec)) fnCasesCard

/-- THE SECOND FORM's CARD OF 'laws.FnLayouts'. -/
def fnLayoutsUptoCard : Claim7 := { stood := { row := fnLayoutsUptoRow, standIns := [], harness := (true, "bc32b6690ce2c9cdf0555f87bdba43aab3e4d3320868fb5db1f7653563099fe4"), looks := true }, kinds := [], alts := [], laidByText := true, laidKinds := [.data, .data, .data, .sentinel, .sentinel], laidTests := true, laidLooks := .later }
def FnLayoutsUptoCardSaid : Prop := Claim7.holds Tryd.pinned (.plain (OpenSpec.upto fnLayoutsSpec)) fnLayoutsUptoCard

/-- THE SECOND FORM's CARD OF 'laws.FnStrikes'. -/
def fnStrikesUptoCard : Claim7 := { stood := { row := fnStrikesUptoRow, standIns := [], harness := (true, "bc32b6690ce2c9cdf0555f87bdba43aab3e4d3320868fb5db1f7653563099fe4"), looks := true }, kinds := [], alts := [], laidByText := true, laidKinds := [.data, .data, .data, .sentinel, .sentinel], laidTests := true, laidLooks := .later }
def FnStrikesUptoCardSaid : Prop := Claim7.holds Tryd.pinned (.plain (OpenSpec.upto fnStrikesSpec)) fnStrikesUptoCard

/-- THE SECOND FORM's CARD OF 'laws.FnMelts'. -/
def fnMeltsUptoCard : Claim7 := { stood := { row := fnMeltsUptoRow, standIns := [], harness := (true, "bc32b6690ce2c9cdf0555f87bdba43aab3e4d3320868fb5db1f7653563099fe4"), looks := true }, kinds := [], alts := [], laidByText := true, laidKinds := [.data, .data, .data, .sentinel, .sentinel], laidTests := true, laidLooks := .later }
def FnMeltsUptoCardSaid : Prop := Claim7.holds Tryd.pinned (.plain (OpenSpec.upto fnMeltsSpec)) fnMeltsUptoCard

/-- THE SECOND FORM's CARD OF 'laws.FnCases'. -/
def fnCasesUptoCard : Claim7 := { stood := { row := fnCasesUptoRow, standIns := [], harness := (true, "bc32b6690ce2c9cdf0555f87bdba43aab3e4d3320868fb5db1f7653563099fe4"), looks := true }, kinds := [], alts := [], laidByText := true, laidKinds := [.data, .data, .data], laidTests := true, laidLooks := .later }
def FnCasesUptoCardSaid : Prop := Claim7.holds Tryd.pinned (.plain (OpenSpec.upto fnCasesSpec)) fnCasesUptoCard
end Rows
end Go.Proofs.YtdgenchlghojlaaDoor
