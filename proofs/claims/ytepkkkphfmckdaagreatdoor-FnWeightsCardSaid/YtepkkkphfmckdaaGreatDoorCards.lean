/-
  DERIVED. GIVEN WITH THE SEED: THE CARDS: each row of YtepkkkphfmckdaaGreatDoorRows.lean that lists a variable, with what it lists TIED to the program's text (the seventh form; the later family's looks); each row that meets fmt, with fmt's text TOLD by the authors' own Lean function (tested against real Go, not proved from fmt's source: count such statements apart). THE CARD IS WHAT COUNTS. Prove the row's statement (the work); the ties are given (YtepkkkphfmckdaaGreatDoorTie.lean); close each card by the builder's one call (the guide's Derived/Test/ToyasCard.lean, 'card_holds'). Laid BY PROGRAM, IN A SANDBOX (cutbox-door.mjs). By AI agents, Wed Nov 11 2026. No macro, syntax, notation, axiom, sorry.
-/
import Derived.Test.YtepkkkphfmckdaaGreatDoorRows
import GoSem.ClaimSeven
namespace Go.Proofs.YtepkkkphfmckdaaGreatDoor
namespace Rows

/-- THE TIED CARD OF 'laws.FnWeights'. -/
def fnWeightsCard : Claim7 := { stood := { row := fnWeightsRow, standIns := [], harness := (true, "95992fc896b140d544b42ce05d57e27adf69219c03557d238ada1a80f762e181"), looks := true }, kinds := [], alts := [], laidByText := true, laidKinds := [.data, .data, .data], laidTests := true, laidLooks := .later }
def FnWeightsCardSaid : Prop := Claim7.holds Tryz.pinned (.plain (OpenSpec.ofChange fnWeightsSpec)) fnWeightsCard

/-- THE TIED CARD OF 'laws.FnMarks'. -/
def fnMarksCard : Claim7 := { stood := { row := fnMarksRow, standIns := [], harness := (true, "95992fc896b140d544b42ce05d57e27adf69219c03557d238ada1a80f762e181"), looks := true }, kinds := [], alts := [], laidByText := true, laidKinds := [.data, .data, .data, .sentinel, .sentinel], laidTests := true, laidLooks := .later }
def FnMarksCardSaid : Prop := Claim7.holds Tryz.pinned (.plain (OpenSpec.ofChange fnMarksSpec)) fnMarksCard

/-- THE SECOND FORM's CARD OF 'laws.FnWeights'. -/
def fnWeightsUptoCard : Claim7 := { stood := { row := fnWeightsUptoRow, standIns := [], harness := (true, "95992fc896b140d544b42ce05d57e27adf69219c03557d238ada1a80f762e181"), looks := true }, kinds := [], alts := [], laidByText := true, laidKinds := [.data, .data, .data], laidTests := true, laidLooks := .later }
def FnWeightsUptoCardSaid : Prop := Claim7.holds Tryz.pinned (.plain (OpenSpec.upto fnWeightsSpec)) fnWeightsUptoCard

/-- THE SECOND FORM's CARD OF 'laws.FnMarks'. -/
def fnMarksUptoCard : Claim7 := { stood := { row := fnMarksUptoRow, standIns := [], harness := (true, "95992fc896b140d544b42ce05d57e27adf69219c03557d238ada1a80f762e181"), looks := true }, kinds := [], alts := [], laidByText := true, laidKinds := [.data, .data, .data, .sentinel, .sentinel], laidTests := true, laidLooks := .later }
def FnMarksUptoCardSaid : Prop := Claim7.holds Tryz.pinned (.plain (OpenSpec.upto fnMarksSpec)) fnMarksUptoCard
end Rows
end Go.Proofs.YtepkkkphfmckdaaGreatDoor
