/-
  DERIVED. GIVEN WITH THE SEED: THE CARDS: each row of YtkcojipciiakdaaDoorRows.lean that lists a variable, with what it lists TIED to the program's text (the seventh form; the later family's looks); each row that meets fmt, with fmt's text TOLD by the authors' own Lean function (tested against real Go, not proved from fmt's source: count such statements apart). THE CARD IS WHAT COUNTS. Prove the row's statement (the work); the ties are given (YtkcojipciiakdaaDoorTie.lean); close each card by the builder's one call (the guide's Derived/Test/ToyasCard.lean, 'card_holds'). Laid BY PROGRAM, IN A SANDBOX (cutbox-door.mjs). By AI agents, Wed Nov 11 2026. No macro, syntax, notation, axiom, sorry.
-/
import Derived.Test.YtkcojipciiakdaaDoorRows
import GoSem.ClaimSeven
namespace Go.Proofs.YtkcojipciiakdaaDoor
namespace Rows

/-- THE TIED CARD OF 'laws.FnReturns'. -/
def fnReturnsCard : Claim7 := { stood := { row := fnReturnsRow, standIns := [], harness := (true, "ff4b2cada85323d2667f4255f08f9fb41dcb28943be6db794782f3a886052fcf"), looks := false }, kinds := [], alts := [], laidByText := true, laidKinds := [.data, .data, .data], laidTests := true, laidLooks := .later }
def FnReturnsCardSaid : Prop := Claim7.holds Tryd.pinned (.plain (OpenSpec.ofChange fnReturnsSpec)) fnReturnsCard

/-- THE SECOND FORM's CARD OF 'laws.FnReturns'. -/
def fnReturnsUptoCard : Claim7 := { stood := { row := fnReturnsUptoRow, standIns := [], harness := (true, "ff4b2cada85323d2667f4255f08f9fb41dcb28943be6db794782f3a886052fcf"), looks := false }, kinds := [], alts := [], laidByText := true, laidKinds := [.data, .data, .data], laidTests := true, laidLooks := .later }
def FnReturnsUptoCardSaid : Prop := Claim7.holds Tryd.pinned (.plain (OpenSpec.upto fnReturnsSpec)) fnReturnsUptoCard
end Rows
end Go.Proofs.YtkcojipciiakdaaDoor
