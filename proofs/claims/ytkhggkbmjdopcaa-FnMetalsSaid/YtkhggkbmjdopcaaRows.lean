/-
  No cell of these rows narrows 'for every input' (looked for: loops, veiled, ifaces, maps, wideKeys, modest, calm, conditions, laid).
  DERIVED. THE GIVEN ROWS OF THIS SEAT. 7 by the template 'for every input the law returns true; each argument reads behind the call as it read before'; 0 by the template 'total and deterministic' (their statements: YtkhggkbmjdopcaaTotals.lean).
  GIVEN WITH THE SEED: the statements are not yours to turn. If you find one false, say at which input.
  Laid BY PROGRAM, IN A SANDBOX (cutbox-rows.mjs): the forced cells as the released guide's own fill.sh prints them over the translation b6285813ec36d927… (all of the seat's roots in one cut). By AI agents, Wed Nov 11 2026. No macro, syntax, notation, axiom, sorry.
-/
import Derived.Test.YtkhggkbmjdopcaaChecked
import GoSem.Claim
import GoSem.ClaimJoined
import GoSem.ClaimMapViews
import Derived.JoinedTies
import Derived.KernelRfl
namespace Go.Proofs.Ytkhggkbmjdopcaa
/- THE CELL 'sum', in the pinned program and in every row, IS THE sha256 OF THE DUMP (.gsa) THAT YtkhggkbmjdopcaaProg.lean LOADS. Nothing in Lean hashes anything: it is a label: what it is worth is what the hold of that sum in a sandbox is worth. -/
noncomputable def Try.pinned : Pinned := { name := "ytkhggkbmjdopcaa", sum := "b6285813ec36d927feca84f59ad25ce77c573587c286be4ade6e4b904c095dcd", checked := Try.checked }
namespace Rows
def none {H : Type} : Left H := { results := [], args := [] }

/-- 'laws.FnExactNoteCheck': WHATEVER THE INPUT: true; the input reads as it did. -/
def fnExactNoteCheckSpec : ChangeSpec := { name := "fnExactNoteCheck", fn := fun _ => fun
  | [d1, d2] => { results := [.lit (.bool true)], args := [d1, d2] }
  | _ => none }
def fnExactNoteCheckRow : OpenClaim := { program := "ytkhggkbmjdopcaa", sum := "b6285813ec36d927feca84f59ad25ce77c573587c286be4ade6e4b904c095dcd", func := "loop.example/g01054/laws.FnExactNoteCheck", spec := "fnExactNoteCheck", apart := false }
def FnExactNoteCheckSaid : Prop := fnExactNoteCheckRow.holds Try.pinned (OpenSpec.ofChange fnExactNoteCheckSpec)

/-- ITS FALSE NEIGHBOUR: 'it returns false'. Refute it at one input. -/
def fnExactNoteCheckWrong : ChangeSpec := { name := "fnExactNoteCheck", fn := fun _ => fun
  | [d1, d2] => { results := [.lit (.bool false)], args := [d1, d2] }
  | _ => none }
def FnExactNoteCheckWrongFalsely : Prop := fnExactNoteCheckRow.holds Try.pinned (OpenSpec.ofChange fnExactNoteCheckWrong)

/-- 'laws.FnExactAreNotes': WHATEVER THE INPUT: true; the input reads as it did. -/
def fnExactAreNotesSpec : ChangeSpec := { name := "fnExactAreNotes", fn := fun _ => fun
  | [d] => { results := [.lit (.bool true)], args := [d] }
  | _ => none }
def fnExactAreNotesRow : OpenClaim := { program := "ytkhggkbmjdopcaa", sum := "b6285813ec36d927feca84f59ad25ce77c573587c286be4ade6e4b904c095dcd", func := "loop.example/g01054/laws.FnExactAreNotes", spec := "fnExactAreNotes", apart := false }
def FnExactAreNotesSaid : Prop := fnExactAreNotesRow.holds Try.pinned (OpenSpec.ofChange fnExactAreNotesSpec)

/-- ITS FALSE NEIGHBOUR: 'it returns false'. Refute it at one input. -/
def fnExactAreNotesWrong : ChangeSpec := { name := "fnExactAreNotes", fn := fun _ => fun
  | [d] => { results := [.lit (.bool false)], args := [d] }
  | _ => none }
def FnExactAreNotesWrongFalsely : Prop := fnExactAreNotesRow.holds Try.pinned (OpenSpec.ofChange fnExactAreNotesWrong)

/-- 'laws.FnExactMetalAfter': WHATEVER THE INPUT: true; the input reads as it did. -/
def fnExactMetalAfterSpec : ChangeSpec := { name := "fnExactMetalAfter", fn := fun _ => fun
  | [d1, d2, d3] => { results := [.lit (.bool true)], args := [d1, d2, d3] }
  | _ => none }
def fnExactMetalAfterRow : OpenClaim := { program := "ytkhggkbmjdopcaa", sum := "b6285813ec36d927feca84f59ad25ce77c573587c286be4ade6e4b904c095dcd", func := "loop.example/g01054/laws.FnExactMetalAfter", spec := "fnExactMetalAfter", apart := false }
def FnExactMetalAfterSaid : Prop := fnExactMetalAfterRow.holds Try.pinned (OpenSpec.ofChange fnExactMetalAfterSpec)

/-- ITS FALSE NEIGHBOUR: 'it returns false'. Refute it at one input. -/
def fnExactMetalAfterWrong : ChangeSpec := { name := "fnExactMetalAfter", fn := fun _ => fun
  | [d1, d2, d3] => { results := [.lit (.bool false)], args := [d1, d2, d3] }
  | _ => none }
def FnExactMetalAfterWrongFalsely : Prop := fnExactMetalAfterRow.holds Try.pinned (OpenSpec.ofChange fnExactMetalAfterWrong)

/-- 'laws.FnExactDropNote': WHATEVER THE INPUT: true; the input reads as it did. -/
def fnExactDropNoteSpec : ChangeSpec := { name := "fnExactDropNote", fn := fun _ => fun
  | [d1, d2] => { results := [.lit (.bool true)], args := [d1, d2] }
  | _ => none }
def fnExactDropNoteRow : OpenClaim := { program := "ytkhggkbmjdopcaa", sum := "b6285813ec36d927feca84f59ad25ce77c573587c286be4ade6e4b904c095dcd", func := "loop.example/g01054/laws.FnExactDropNote", spec := "fnExactDropNote", apart := false }
def FnExactDropNoteSaid : Prop := fnExactDropNoteRow.holds Try.pinned (OpenSpec.ofChange fnExactDropNoteSpec)

/-- ITS FALSE NEIGHBOUR: 'it returns false'. Refute it at one input. -/
def fnExactDropNoteWrong : ChangeSpec := { name := "fnExactDropNote", fn := fun _ => fun
  | [d1, d2] => { results := [.lit (.bool false)], args := [d1, d2] }
  | _ => none }
def FnExactDropNoteWrongFalsely : Prop := fnExactDropNoteRow.holds Try.pinned (OpenSpec.ofChange fnExactDropNoteWrong)

/-- 'laws.FnExactLeastMetal': WHATEVER THE INPUT: true; the input reads as it did. -/
def fnExactLeastMetalSpec : ChangeSpec := { name := "fnExactLeastMetal", fn := fun _ => fun
  | [d1, d2] => { results := [.lit (.bool true)], args := [d1, d2] }
  | _ => none }
def fnExactLeastMetalRow : OpenClaim := { program := "ytkhggkbmjdopcaa", sum := "b6285813ec36d927feca84f59ad25ce77c573587c286be4ade6e4b904c095dcd", func := "loop.example/g01054/laws.FnExactLeastMetal", spec := "fnExactLeastMetal", apart := false }
def FnExactLeastMetalSaid : Prop := fnExactLeastMetalRow.holds Try.pinned (OpenSpec.ofChange fnExactLeastMetalSpec)

/-- ITS FALSE NEIGHBOUR: 'it returns false'. Refute it at one input. -/
def fnExactLeastMetalWrong : ChangeSpec := { name := "fnExactLeastMetal", fn := fun _ => fun
  | [d1, d2] => { results := [.lit (.bool false)], args := [d1, d2] }
  | _ => none }
def FnExactLeastMetalWrongFalsely : Prop := fnExactLeastMetalRow.holds Try.pinned (OpenSpec.ofChange fnExactLeastMetalWrong)

/-- 'laws.FnExactNotesOn': WHATEVER THE INPUT: true; the input reads as it did. -/
def fnExactNotesOnSpec : ChangeSpec := { name := "fnExactNotesOn", fn := fun _ => fun
  | [d1, d2, d3] => { results := [.lit (.bool true)], args := [d1, d2, d3] }
  | _ => none }
def fnExactNotesOnRow : OpenClaim := { program := "ytkhggkbmjdopcaa", sum := "b6285813ec36d927feca84f59ad25ce77c573587c286be4ade6e4b904c095dcd", func := "loop.example/g01054/laws.FnExactNotesOn", spec := "fnExactNotesOn", apart := false }
def FnExactNotesOnSaid : Prop := fnExactNotesOnRow.holds Try.pinned (OpenSpec.ofChange fnExactNotesOnSpec)

/-- ITS FALSE NEIGHBOUR: 'it returns false'. Refute it at one input. -/
def fnExactNotesOnWrong : ChangeSpec := { name := "fnExactNotesOn", fn := fun _ => fun
  | [d1, d2, d3] => { results := [.lit (.bool false)], args := [d1, d2, d3] }
  | _ => none }
def FnExactNotesOnWrongFalsely : Prop := fnExactNotesOnRow.holds Try.pinned (OpenSpec.ofChange fnExactNotesOnWrong)

/-- 'laws.FnMetals': WHATEVER THE INPUT: true; the input reads as it did. -/
def fnMetalsSpec : ChangeSpec := { name := "fnMetals", fn := fun _ => fun
  | [d1, d2] => { results := [.lit (.bool true)], args := [d1, d2] }
  | _ => none }
def fnMetalsRow : OpenClaim := { program := "ytkhggkbmjdopcaa", sum := "b6285813ec36d927feca84f59ad25ce77c573587c286be4ade6e4b904c095dcd", func := "loop.example/g01054/laws.FnMetals", spec := "fnMetals", apart := false }
def FnMetalsSaid : Prop := fnMetalsRow.holds Try.pinned (OpenSpec.ofChange fnMetalsSpec)

/-- ITS FALSE NEIGHBOUR: 'it returns false'. Refute it at one input. -/
def fnMetalsWrong : ChangeSpec := { name := "fnMetals", fn := fun _ => fun
  | [d1, d2] => { results := [.lit (.bool false)], args := [d1, d2] }
  | _ => none }
def FnMetalsWrongFalsely : Prop := fnMetalsRow.holds Try.pinned (OpenSpec.ofChange fnMetalsWrong)

/- THE SECOND FORM. 'bulk': how many values and letters a reading holds, each counted each time it is reached (what is shared counts as often as it is met; a slice's spare places count too). A statement '..UptoSaid' is the law's where the arguments, and the package variables that the reading takes, are together of bulk at most 1048576: NARROWER than '..Said'. Prove '..Said' where nothing that the law and all that it calls make is longer than what came in: it says more and counts as full. Else prove '..UptoSaid'. A law counts once. -/
mutual
def uptoBulk {H : Type} : DataW H → Nat
  | .lit (.string bytes) => bytes.length + 1
  | .lit _ => 1
  | .nil => 1
  | .ptr d => uptoBulk d + 1
  | .slice elems spare => uptoBulkAll elems + uptoBulkAll spare + 1
  | .agg parts => uptoBulkAll parts + 1
  | .iface _ d => uptoBulk d + 1
  | .map entries => uptoBulkEntries entries + 1
  | .held _ => 1
def uptoBulkAll {H : Type} : List (DataW H) → Nat
  | [] => 0
  | d :: r => uptoBulk d + uptoBulkAll r
def uptoBulkEntries {H : Type} : List (Lit × DataW H) → Nat
  | [] => 0
  | x :: r => uptoBulkEntry x + uptoBulkEntries r
def uptoBulkEntry {H : Type} : Lit × DataW H → Nat
  | (.string bytes, d) => bytes.length + uptoBulk d + 1
  | (_, d) => uptoBulk d + 1
 end
def uptoSmall : (H : Type) → List (DataW H) → Bool := fun _ ds => decide (uptoBulkAll ds ≤ 1048576)
def OpenSpec.upto (s : _root_.Go.ChangeSpec) : _root_.Go.OpenSpec := { _root_.Go.OpenSpec.ofChange s with cond := some uptoSmall }

/-- 'laws.FnExactNoteCheck', WHERE WHAT IT READS IS OF BULK AT MOST 1048576: true; the input reads as it did. -/
def fnExactNoteCheckUptoRow : OpenClaim := { program := "ytkhggkbmjdopcaa", sum := "b6285813ec36d927feca84f59ad25ce77c573587c286be4ade6e4b904c095dcd", func := "loop.example/g01054/laws.FnExactNoteCheck", spec := "fnExactNoteCheck", apart := false, narrowed := true }
def FnExactNoteCheckUptoSaid : Prop := fnExactNoteCheckUptoRow.holds Try.pinned (OpenSpec.upto fnExactNoteCheckSpec)

/-- 'laws.FnExactAreNotes', WHERE WHAT IT READS IS OF BULK AT MOST 1048576: true; the input reads as it did. -/
def fnExactAreNotesUptoRow : OpenClaim := { program := "ytkhggkbmjdopcaa", sum := "b6285813ec36d927feca84f59ad25ce77c573587c286be4ade6e4b904c095dcd", func := "loop.example/g01054/laws.FnExactAreNotes", spec := "fnExactAreNotes", apart := false, narrowed := true }
def FnExactAreNotesUptoSaid : Prop := fnExactAreNotesUptoRow.holds Try.pinned (OpenSpec.upto fnExactAreNotesSpec)

/-- 'laws.FnExactMetalAfter', WHERE WHAT IT READS IS OF BULK AT MOST 1048576: true; the input reads as it did. -/
def fnExactMetalAfterUptoRow : OpenClaim := { program := "ytkhggkbmjdopcaa", sum := "b6285813ec36d927feca84f59ad25ce77c573587c286be4ade6e4b904c095dcd", func := "loop.example/g01054/laws.FnExactMetalAfter", spec := "fnExactMetalAfter", apart := false, narrowed := true }
def FnExactMetalAfterUptoSaid : Prop := fnExactMetalAfterUptoRow.holds Try.pinned (OpenSpec.upto fnExactMetalAfterSpec)

/-- 'laws.FnExactDropNote', WHERE WHAT IT READS IS OF BULK AT MOST 1048576: true; the input reads as it did. -/
def fnExactDropNoteUptoRow : OpenClaim := { program := "ytkhggkbmjdopcaa", sum := "b6285813ec36d927feca84f59ad25ce77c573587c286be4ade6e4b904c095dcd", func := "loop.example/g01054/laws.FnExactDropNote", spec := "fnExactDropNote", apart := false, narrowed := true }
def FnExactDropNoteUptoSaid : Prop := fnExactDropNoteUptoRow.holds Try.pinned (OpenSpec.upto fnExactDropNoteSpec)

/-- 'laws.FnExactLeastMetal', WHERE WHAT IT READS IS OF BULK AT MOST 1048576: true; the input reads as it did. -/
def fnExactLeastMetalUptoRow : OpenClaim := { program := "ytkhggkbmjdopcaa", sum := "b6285813ec36d927feca84f59ad25ce77c573587c286be4ade6e4b904c095dcd", func := "loop.example/g01054/laws.FnExactLeastMetal", spec := "fnExactLeastMetal", apart := false, narrowed := true }
def FnExactLeastMetalUptoSaid : Prop := fnExactLeastMetalUptoRow.holds Try.pinned (OpenSpec.upto fnExactLeastMetalSpec)

/-- 'laws.FnExactNotesOn', WHERE WHAT IT READS IS OF BULK AT MOST 1048576: true; the input reads as it did. -/
def fnExactNotesOnUptoRow : OpenClaim := { program := "ytkhggkbmjdopcaa", sum := "b6285813ec36d927feca84f59ad25ce77c573587c286be4ade6e4b904c095dcd", func := "loop.example/g01054/laws.FnExactNotesOn", spec := "fnExactNotesOn", apart := false, narrowed := true }
def FnExactNotesOnUptoSaid : Prop := fnExactNotesOnUptoRow.holds Try.pinned (OpenSpec.upto fnExactNotesOnSpec)

/-- 'laws.FnMetals', WHERE WHAT IT READS IS OF BULK AT MOST 1048576: true; the input reads as it did. -/
def fnMetalsUptoRow : OpenClaim := { program := "ytkhggkbmjdopcaa", sum := "b6285813ec36d927feca84f59ad25ce77c573587c286be4ade6e4b904c095dcd", func := "loop.example/g01054/laws.FnMetals", spec := "fnMetals", apart := false, narrowed := true }
def FnMetalsUptoSaid : Prop := fnMetalsUptoRow.holds Try.pinned (OpenSpec.upto fnMetalsSpec)

end Rows
end Go.Proofs.Ytkhggkbmjdopcaa
