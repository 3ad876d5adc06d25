/-
  DERIVED. GIVEN WITH THE SEED: THE CARDS: each row of YtoocdnbkiejihaaDoorRows.lean that lists a variable, with what it lists TIED to the program's text (the seventh form; the later family's looks); each row that meets fmt, with fmt's text TOLD by the authors' own Lean function (tested against real Go, not proved from fmt's source: count such statements apart). THE CARD IS WHAT COUNTS. Prove the row's statement (the work); the ties are given (YtoocdnbkiejihaaDoorTie.lean); close each card by the builder's one call (the guide's Derived/Test/ToyasCard.lean, 'card_holds'). Laid BY PROGRAM, IN A SANDBOX (cutbox-door.mjs). By AI agents, Wed Nov 11 2026. No macro, syntax, notation, axiom, sorry.
-/
import Derived.Test.YtoocdnbkiejihaaDoorRows
import GoSem.ClaimSeven
namespace Go.Proofs.YtoocdnbkiejihaaDoor
namespace Rows

/-- THE TIED CARD OF 'laws.FnStocks'. -/
def fnStocksCard : Claim7 := { stood := { row := fnStocksRow, standIns := [], harness := (true, "919dda067c8d393d5ba8014d952898f3e8a42bbe1bf920c2937944e9bd12938d"), looks := true }, kinds := [], alts := [], laidByText := true, laidKinds := [.data, .data, .data, .sentinel, .sentinel], laidTests := true, laidLooks := .later }
def FnStocksCardSaid : Prop := Claim7.holds Tryd.pinned (.plain (OpenSpec.ofChange fnStocksSpec)) fnStocksCard

/-- THE TIED CARD OF 'laws.FnHyphens'. -/
def fnHyphensCard : Claim7 := { stood := { row := fnHyphensRow, standIns := [], harness := (true, "919dda067c8d393d5ba8014d952898f3e8a42bbe1bf920c2937944e9bd12938d"), looks := true }, kinds := [], alts := [], laidByText := true, laidKinds := [.data, .pinned], laidTests := true, laidLooks := .later }
def FnHyphensCardSaid : Prop := Claim7.holds Tryd.pinned (.plain (OpenSpec.ofChange fnHyphensSpec)) fnHyphensCard

/-- THE SECOND FORM's CARD OF 'laws.FnStocks'. -/
def fnStocksUptoCard : Claim7 := { stood := { row := fnStocksUptoRow, standIns := [], harness := (true, "919dda067c8d393d5ba8014d952898f3e8a42bbe1bf920c2937944e9bd12938d"), looks := true }, kinds := [], alts := [], laidByText := true, laidKinds := [.data, .data, .data, .sentinel, .sentinel], laidTests := true, laidLooks := .later }
def FnStocksUptoCardSaid : Prop := Claim7.holds Tryd.pinned (.plain (OpenSpec.upto fnStocksSpec)) fnStocksUptoCard

/-- THE SECOND FORM's CARD OF 'laws.FnHyphens'. -/
def fnHyphensUptoCard : Claim7 := { stood := { row := fnHyphensUptoRow, standIns := [], harness := (true, "919dda067c8d393d5ba8014d952898f3e8a42bbe1bf920c2937944e9bd12938d"), looks := true }, kinds := [], alts := [], laidByText := true, laidKinds := [.data, .pinned], laidTests := true, laidLooks := .later }
def FnHyphensUptoCardSaid : Prop := Claim7.holds Tryd.pinned (.plain (OpenSpec.upto fnHyphensSpec)) fnHyphensUptoCard
end Rows
end Go.Proofs.YtoocdnbkiejihaaDoor
