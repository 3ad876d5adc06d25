/-
  DERIVED. GIVEN WITH THE SEED: THE CARDS: each row of YtioabeglbjlndaaDoorRows.lean that lists a variable, with what it lists TIED to the program's text (the seventh form; the later family's looks); each row that meets fmt, with fmt's text TOLD by the authors' own Lean function (tested against real Go, not proved from fmt's source: count such statements apart). THE CARD IS WHAT COUNTS. Prove the row's statement (the work); the ties are given (YtioabeglbjlndaaDoorTie.lean); close each card by the builder's one call (the guide's Derived/Test/ToyasCard.lean, 'card_holds'). Laid BY PROGRAM, IN A SANDBOX (cutbox-door.mjs). By AI agents, Wed Nov 11 2026. No macro, syntax, notation, axiom, sorry.
-/
import Derived.Test.YtioabeglbjlndaaDoorRows
import GoSem.ClaimSeven
namespace Go.Proofs.YtioabeglbjlndaaDoor
namespace Rows

/-- THE TIED CARD OF 'laws.FnHyphens'. -/
def fnHyphensCard : Claim7 := { stood := { row := fnHyphensRow, standIns := [], harness := (true, "69433256675b43b51246b4dd3d694415c4eb20dd6fe1f200dc9c7dd93dde2bca"), looks := false }, kinds := [], alts := [], laidByText := true, laidKinds := [.data, .pinned], laidTests := true, laidLooks := .later }
def FnHyphensCardSaid : Prop := Claim7.holds Tryd.pinned (.plain (OpenSpec.ofChange fnHyphensSpec)) fnHyphensCard

/-- THE SECOND FORM's CARD OF 'laws.FnHyphens'. -/
def fnHyphensUptoCard : Claim7 := { stood := { row := fnHyphensUptoRow, standIns := [], harness := (true, "69433256675b43b51246b4dd3d694415c4eb20dd6fe1f200dc9c7dd93dde2bca"), looks := false }, kinds := [], alts := [], laidByText := true, laidKinds := [.data, .pinned], laidTests := true, laidLooks := .later }
def FnHyphensUptoCardSaid : Prop := Claim7.holds Tryd.pinned (.plain (OpenSpec.upto fnHyphensSpec)) fnHyphensUptoCard
end Rows
end Go.Proofs.YtioabeglbjlndaaDoor
