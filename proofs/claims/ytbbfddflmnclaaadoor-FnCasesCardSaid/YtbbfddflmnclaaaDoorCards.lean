/-
  DERIVED. GIVEN WITH THE SEED: THE CARDS: each row of YtbbfddflmnclaaaDoorRows.lean that lists a variable, with what it lists TIED to the program's text (the seventh form; the later family's looks); each row that meets fmt, with fmt's text TOLD by the authors' own Lean function (tested against real Go, not proved from fmt's source: count such statements apart). THE CARD IS WHAT COUNTS. Prove the row's statement (the work); the ties are given (YtbbfddflmnclaaaDoorTie.lean); close each card by the builder's one call (the guide's Derived/Test/ToyasCard.lean, 'card_holds'). Laid BY PROGRAM, IN A SANDBOX (cutbox-door.mjs). By AI agents, Wed Nov 11 2026. No macro, syntax, notation, axiom, sorry.
-/
import Derived.Test.YtbbfddflmnclaaaDoorRows
import GoSem.ClaimSeven
namespace Go.Proofs.YtbbfddflmnclaaaDoor
namespace Rows

/-- THE TIED CARD OF 'laws.FnReturns'. -/
def fnReturnsCard : Claim7 := { stood := { row := fnReturnsRow, standIns := [], harness := (true, "8d958fc4fadb663220a82e8f3db48564f9028658286672708111630b736b39e6"), looks := false }, kinds := [], alts := [], laidByText := true, laidKinds := [.data, .data, .data], laidTests := true, laidLooks := .later }
def FnReturnsCardSaid : Prop := Claim7.holds Tryd.pinned (.plain (OpenSpec.ofChange fnReturnsSpec)) fnReturnsCard

/-- THE TIED CARD OF 'laws.FnCases'. -/
def fnCasesCard : Claim7 := { stood := { row := fnCasesRow, standIns := [], harness := (true, "8d958fc4fadb663220a82e8f3db48564f9028658286672708111630b736b39e6"), looks := false }, kinds := [], alts := [], laidByText := true, laidKinds := [.data, .data, .data], laidTests := true, laidLooks := .later }
def FnCasesCardSaid : Prop := Claim7.holds Tryd.pinned (.plain (OpenSpec.ofChange fnCasesSpec)) fnCasesCard

/-- THE SECOND FORM's CARD OF 'laws.FnReturns'. -/
def fnReturnsUptoCard : Claim7 := { stood := { row := fnReturnsUptoRow, standIns := [], harness := (true, "8d958fc4fadb663220a82e8f3db48564f9028658286672708111630b736b39e6"), looks := false }, kinds := [], alts := [], laidByText := true, laidKinds := [.data, .data, .data], laidTests := true, laidLooks := .later }
def FnReturnsUptoCardSaid : Prop := Claim7.holds Tryd.pinned (.plain (OpenSpec.upto fnReturnsSpec)) fnReturnsUptoCard

/-- THE SECOND FORM's CARD OF 'laws.FnCases'. -/
def fnCasesUptoCard : Claim7 := { stood := { row := fnCasesUptoRow, standIns := [], harness := (true, "8d958fc4fadb663220a82e8f3db48564f9028658286672708111630b736b39e6"), looks := false }, kinds := [], alts := [], laidByText := true, laidKinds := [.data, .data, .data], laidTests := true, laidLooks := .later }
def FnCasesUptoCardSaid : Prop := Claim7.holds Tryd.pinned (.plain (OpenSpec.upto fnCasesSpec)) fnCasesUptoCard
end Rows
end Go.Proofs.YtbbfddflmnclaaaDoor
