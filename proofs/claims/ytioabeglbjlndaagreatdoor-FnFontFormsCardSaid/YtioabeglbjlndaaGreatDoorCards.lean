/-
  DERIVED. GIVEN WITH THE SEED: THE CARDS: each row of YtioabeglbjlndaaGreatDoorRows.lean that lists a variable, with what it lists TIED to the program's text (the seventh form; the later family's looks); each row that meets fmt, with fmt's text TOLD by the authors' own Lean function (tested against real Go, not proved from fmt's source: count such statements apart). THE CARD IS WHAT COUNTS. Prove the row's statement (the work); the ties are given (YtioabeglbjlndaaGreatDoorTie.lean); close each card by the builder's one call (the guide's Derived/Test/ToyasCard.lean, 'card_holds'). Laid BY PROGRAM, IN A SANDBOX (cutbox-door.mjs). By AI agents, Wed Nov 11 2026. No macro, syntax, notation, axiom, sorry.
-/
import Derived.Test.YtioabeglbjlndaaGreatDoorRows
import GoSem.ClaimSeven
namespace Go.Proofs.YtioabeglbjlndaaGreatDoor
namespace Rows

/-- THE TIED CARD OF 'laws.FnFontForms'. -/
def fnFontFormsCard : Claim7 := { stood := { row := fnFontFormsRow, standIns := [], harness := (true, "6c5c7de28716a5313ed92c5b22cd1c6085130df427d5ee735ff6b4c563db6900"), looks := true }, kinds := [], alts := [], laidByText := true, laidKinds := [.data, .data, .data, .data, .sentinel, .sentinel, .pinned], laidTests := true, laidLooks := .later }
def FnFontFormsCardSaid : Prop := Claim7.holds Tryz.pinned (.plain (OpenSpec.ofChange fnFontFormsSpec)) fnFontFormsCard

/-- THE SECOND FORM's CARD OF 'laws.FnFontForms'. -/
def fnFontFormsUptoCard : Claim7 := { stood := { row := fnFontFormsUptoRow, standIns := [], harness := (true, "6c5c7de28716a5313ed92c5b22cd1c6085130df427d5ee735ff6b4c563db6900"), looks := true }, kinds := [], alts := [], laidByText := true, laidKinds := [.data, .data, .data, .data, .sentinel, .sentinel, .pinned], laidTests := true, laidLooks := .later }
def FnFontFormsUptoCardSaid : Prop := Claim7.holds Tryz.pinned (.plain (OpenSpec.upto fnFontFormsSpec)) fnFontFormsUptoCard
end Rows
end Go.Proofs.YtioabeglbjlndaaGreatDoor
