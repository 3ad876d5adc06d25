/-
  DERIVED. GIVEN WITH THE SEED: THE CARDS: each row of YtidhhpakdogiaaaGreatDoorRows.lean that lists a variable, with what it lists TIED to the program's text (the seventh form; the later family's looks); each row that meets fmt, with fmt's text TOLD by the authors' own Lean function (tested against real Go, not proved from fmt's source: count such statements apart). THE CARD IS WHAT COUNTS. Prove the row's statement (the work); the ties are given (YtidhhpakdogiaaaGreatDoorTie.lean); close each card by the builder's one call (the guide's Derived/Test/ToyasCard.lean, 'card_holds'). Laid BY PROGRAM, IN A SANDBOX (cutbox-door.mjs). By AI agents, Wed Nov 11 2026. No macro, syntax, notation, axiom, sorry.
-/
import Derived.Test.YtidhhpakdogiaaaGreatDoorRows
import GoSem.ClaimSeven
namespace Go.Proofs.YtidhhpakdogiaaaGreatDoor
namespace Rows

/-- THE TIED CARD OF 'laws.FnMarks'. -/
def fnMarksCard : Claim7 := { stood := { row := fnMarksRow, standIns := [], harness := (true, "9423f1d2456b15321cea7dfbbe7ce262758a2f9373ba04217c0f40a9271776c8"), looks := true }, kinds := [], alts := [], laidByText := true, laidKinds := [.data, .data, .data, .sentinel, .sentinel], laidTests := true, laidLooks := .later }
def FnMarksCardSaid : Prop := Claim7.holds Tryz.pinned (.plain (OpenSpec.ofChange fnMarksSpec)) fnMarksCard

/-- THE TIED CARD OF 'laws.FnWeights'. -/
def fnWeightsCard : Claim7 := { stood := { row := fnWeightsRow, standIns := [], harness := (true, "9423f1d2456b15321cea7dfbbe7ce262758a2f9373ba04217c0f40a9271776c8"), looks := true }, kinds := [], alts := [], laidByText := true, laidKinds := [.data, .data, .data], laidTests := true, laidLooks := .later }
def FnWeightsCardSaid : Prop := Claim7.holds Tryz.pinned (.plain (OpenSpec.ofChange fnWeightsSpec)) fnWeightsCard

/-- THE SECOND FORM's CARD OF 'laws.FnMarks'. -/
def fnMarksUptoCard : Claim7 := { stood := { row := fnMarksUptoRow, standIns := [], harness := (true, "9423f1d2456b15321cea7dfbbe7ce262758a2f9373ba04217c0f40a9271776c8"), looks := true }, kinds := [], alts := [], laidByText := true, laidKinds := [.data, .data, .data, .sentinel, .sentinel], laidTests := true, laidLooks := .later }
def FnMarksUptoCardSaid : Prop := Claim7.holds Tryz.pinned (.plain (OpenSpec.upto fnMarksSpec)) fnMarksUptoCard

/-- THE SECOND FORM's CARD OF 'laws.FnWeights'. -/
def fnWeightsUptoCard : Claim7 := { stood := { row := fnWeightsUptoRow, standIns := [], harness := (true, "9423f1d2456b15321cea7dfbbe7ce262758a2f9373ba04217c0f40a9271776c8"), looks := true }, kinds := [], alts := [], laidByText := true, laidKinds := [.data, .data, .data], laidTests := true, laidLooks := .later }
def FnWeightsUptoCardSaid : Prop := Claim7.holds Tryz.pinned (.plain (OpenSpec.upto fnWeightsSpec)) fnWeightsUptoCard
end Rows
end Go.Proofs.YtidhhpakdogiaaaGreatDoor
