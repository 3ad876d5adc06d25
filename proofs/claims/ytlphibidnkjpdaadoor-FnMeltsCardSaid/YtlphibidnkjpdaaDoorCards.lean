/-
  DERIVED. GIVEN WITH THE SEED: THE CARDS: each row of YtlphibidnkjpdaaDoorRows.lean that lists a variable, with what it lists TIED to the program's text (the seventh form; the later family's looks); each row that meets fmt, with fmt's text TOLD by the authors' own Lean function (tested against real Go, not proved from fmt's source: count such statements apart). THE CARD IS WHAT COUNTS. Prove the row's statement (the work); the ties are given (YtlphibidnkjpdaaDoorTie.lean); close each card by the builder's one call (the guide's Derived/Test/ToyasCard.lean, 'card_holds'). Laid BY PROGRAM, IN A SANDBOX (cutbox-door.mjs). By AI agents, Wed Nov 11 2026. No macro, syntax, notation, axiom, sorry.
-/
import Derived.Test.YtlphibidnkjpdaaDoorRows
import GoSem.ClaimSeven
namespace Go.Proofs.YtlphibidnkjpdaaDoor
namespace Rows

/-- THE TIED CARD OF 'laws.FnStrikes'. -/
def fnStrikesCard : Claim7 := { stood := { row := fnStrikesRow, standIns := [], harness := (true, "42f7ff64fc8c9660f7dc045ba5e8f29152e1896274fa8c9783125ba4a9ec5fd8"), looks := true }, kinds := [], alts := [], laidByText := true, laidKinds := [.data, .data, .data, .sentinel, .sentinel], laidTests := true, laidLooks := .later }
def FnStrikesCardSaid : Prop := Claim7.holds Tryd.pinned (.plain (OpenSpec.ofChange fnStrikesSpec)) fnStrikesCard

/-- THE TIED CARD OF 'laws.FnMelts'. -/
def fnMeltsCard : Claim7 := { stood := { row := fnMeltsRow, standIns := [], harness := (true, "42f7ff64fc8c9660f7dc045ba5e8f29152e1896274fa8c9783125ba4a9ec5fd8"), looks := true }, kinds := [], alts := [], laidByText := true, laidKinds := [.data, .data, .data, .sentinel, .sentinel], laidTests := true, laidLooks := .later }
def FnMeltsCardSaid : Prop := Claim7.holds Tryd.pinned (.plain (OpenSpec.ofChange fnMeltsSpec)) fnMeltsCard

/-- THE TIED CARD OF 'laws.FnStocks'. -/
def fnStocksCard : Claim7 := { stood := { row := fnStocksRow, standIns := [], harness := (true, "42f7ff64fc8c9660f7dc045ba5e8f29152e1896274fa8c9783125ba4a9ec5fd8"), looks := true }, kinds := [], alts := [], laidByText := true, laidKinds := [.data, .data, .data, .sentinel, .sentinel], laidTests := true, laidLooks := .later }
def FnStocksCardSaid : Prop := Claim7.holds Tryd.pinned (.plain (OpenSpec.ofChange fnStocksSpec)) fnStocksCard

/-- THE TIED CARD OF 'laws.FnHyphens'. -/
def fnHyphensCard : Claim7 := { stood := { row := fnHyphensRow, standIns := [], harness := (true, "42f7ff64fc8c9660f7dc045ba5e8f29152e1896274fa8c9783125ba4a9ec5fd8"), looks := true }, kinds := [], alts := [], laidByText := true, laidKinds := [.data, .pinned], laidTests := true, laidLooks := .later }
def FnHyphensCardSaid : Prop := Claim7.holds Tryd.pinned (.plain (OpenSpec.ofChange fnHyphensSpec)) fnHyphensCard

/-- THE SECOND FORM's CARD OF 'laws.FnStrikes'. -/
def fnStrikesUptoCard : Claim7 := { stood := { row := fnStrikesUptoRow, standIns := [], harness := (true, "42f7ff64fc8c9660f7dc045ba5e8f29152e1896274fa8c9783125ba4a9ec5fd8"), looks := true }, kinds := [], alts := [], laidByText := true, laidKinds := [.data, .data, .data, .sentinel, .sentinel], laidTests := true, laidLooks := .later }
def FnStrikesUptoCardSaid : Prop := Claim7.holds Tryd.pinned (.plain (OpenSpec.upto fnStrikesSpec)) fnStrikesUptoCard

/-- THE SECOND FORM's CARD OF 'laws.FnMelts'. -/
def fnMeltsUptoCard : Claim7 := { stood := { row := fnMeltsUptoRow, standIns := [], harness := (true, "42f7ff64fc8c9660f7dc045ba5e8f29152e1896274fa8c9783125ba4a9ec5fd8"), looks := true }, kinds := [], alts := [], laidByText := true, laidKinds := [.data, .data, .data, .sentinel, .sentinel], laidTests := true, laidLooks := .later }
def FnMeltsUptoCardSaid : Prop := Claim7.holds Tryd.pinned (.plain (OpenSpec.upto fnMeltsSpec)) fnMeltsUptoCard

/-- THE SECOND FORM's CARD OF 'laws.FnStocks'. -/
def fnStocksUptoCard : Claim7 := { stood := { row := fnStocksUptoRow, standIns := [], harness := (true, "42f7ff64fc8c9660f7dc045ba5e8f29152e1896274fa8c9783125ba4a9ec5fd8"), looks := true }, kinds := [], alts := [], laidByText := true, laidKinds := [.data, .data, .data, .sentinel, .sentinel], laidTests := true, laidLooks := .later }
def FnStocksUptoCardSaid : Prop := Claim7.holds Tryd.pinned (.plain (OpenSpec.upto fnStocksSpec)) fnStocksUptoCard

/-- THE SECOND FORM's CARD OF 'laws.FnHyphens'. -/
def fnHyphensUptoCard : Claim7 := { stood := { row := fnHyphensUptoRow, standIns := [], harness := (true, "42f7ff64fc8c9660f7dc045ba5e8f29152e1896274fa8c9783125ba4a9ec5fd8"), looks := true }, kinds := [], alts := [], laidByText := true, laidKinds := [.data, .pinned], laidTests := true, laidLooks := .later }
def FnHyphensUptoCardSaid : Prop := Claim7.holds Tryd.pinned (.plain (OpenSpec.upto fnHyphensSpec)) fnHyphensUptoCard
end Rows
end Go.Proofs.YtlphibidnkjpdaaDoor
