/-
  No cell of these rows narrows 'for every input' (looked for: loops, veiled, ifaces, maps, wideKeys, modest, calm, conditions, laid).
  DERIVED. THE GIVEN ROWS OF THIS SEAT. 10 by the template 'for every input the law returns true; each argument reads behind the call as it read before'; 0 by the template 'total and deterministic' (their statements: YtcnkgmbnmndahaaTotals.lean).
  GIVEN WITH THE SEED: the statements are not yours to turn. If you find one false, say at which input.
  Laid BY PROGRAM, IN A SANDBOX (cutbox-rows.mjs): the forced cells as the released guide's own fill.sh prints them over the translation 3ec9d3f27560c9dd… (all of the seat's roots in one cut). By AI agents, Wed Nov 11 2026. No macro, syntax, notation, axiom, sorry.
-/
import Derived.Test.YtcnkgmbnmndahaaChecked
import GoSem.Claim
import GoSem.ClaimJoined
import GoSem.ClaimMapViews
import Derived.JoinedTies
import Derived.KernelRfl
namespace Go.Proofs.Ytcnkgmbnmndahaa
/- THE CELL 'sum', in the pinned program and in every row, IS THE sha256 OF THE DUMP (.gsa) THAT YtcnkgmbnmndahaaProg.lean LOADS. Nothing in Lean hashes anything: it is a label: what it is worth is what the hold of that sum in a sandbox is worth. -/
noncomputable def Try.pinned : Pinned := { name := "ytcnkgmbnmndahaa", sum := "3ec9d3f27560c9dd06e756604a23a4f102d2c5b64a2ad6934c74a6ce163ee39a", checked := Try.checked }
namespace Rows
def none {H : Type} : Left H := { results := [], args := [] }

/-- 'laws.FnExactAreOrders': WHATEVER THE INPUT: true; the input reads as it did. -/
def fnExactAreOrdersSpec : ChangeSpec := { name := "fnExactAreOrders", fn := fun _ => fun
  | [d] => { results := [.lit (.bool true)], args := [d] }
  | _ => none }
def fnExactAreOrdersRow : OpenClaim := { program := "ytcnkgmbnmndahaa", sum := "3ec9d3f27560c9dd06e756604a23a4f102d2c5b64a2ad6934c74a6ce163ee39a", func := "loop.example/g01054/laws.FnExactAreOrders", spec := "fnExactAreOrders", apart := false }
def FnExactAreOrdersSaid : Prop := fnExactAreOrdersRow.holds Try.pinned (OpenSpec.ofChange fnExactAreOrdersSpec)

/-- ITS FALSE NEIGHBOUR: 'it returns false'. Refute it at one input. -/
def fnExactAreOrdersWrong : ChangeSpec := { name := "fnExactAreOrders", fn := fun _ => fun
  | [d] => { results := [.lit (.bool false)], args := [d] }
  | _ => none }
def FnExactAreOrdersWrongFalsely : Prop := fnExactAreOrdersRow.holds Try.pinned (OpenSpec.ofChange fnExactAreOrdersWrong)

/-- 'laws.FnExactIsShop': WHATEVER THE INPUT: true; the input reads as it did. -/
def fnExactIsShopSpec : ChangeSpec := { name := "fnExactIsShop", fn := fun _ => fun
  | [d] => { results := [.lit (.bool true)], args := [d] }
  | _ => none }
def fnExactIsShopRow : OpenClaim := { program := "ytcnkgmbnmndahaa", sum := "3ec9d3f27560c9dd06e756604a23a4f102d2c5b64a2ad6934c74a6ce163ee39a", func := "loop.example/g01054/laws.FnExactIsShop", spec := "fnExactIsShop", apart := false }
def FnExactIsShopSaid : Prop := fnExactIsShopRow.holds Try.pinned (OpenSpec.ofChange fnExactIsShopSpec)

/-- ITS FALSE NEIGHBOUR: 'it returns false'. Refute it at one input. -/
def fnExactIsShopWrong : ChangeSpec := { name := "fnExactIsShop", fn := fun _ => fun
  | [d] => { results := [.lit (.bool false)], args := [d] }
  | _ => none }
def FnExactIsShopWrongFalsely : Prop := fnExactIsShopRow.holds Try.pinned (OpenSpec.ofChange fnExactIsShopWrong)

/-- 'laws.FnExactTypesInShop': WHATEVER THE INPUT: true; the input reads as it did. -/
def fnExactTypesInShopSpec : ChangeSpec := { name := "fnExactTypesInShop", fn := fun _ => fun
  | [d] => { results := [.lit (.bool true)], args := [d] }
  | _ => none }
def fnExactTypesInShopRow : OpenClaim := { program := "ytcnkgmbnmndahaa", sum := "3ec9d3f27560c9dd06e756604a23a4f102d2c5b64a2ad6934c74a6ce163ee39a", func := "loop.example/g01054/laws.FnExactTypesInShop", spec := "fnExactTypesInShop", apart := false }
def FnExactTypesInShopSaid : Prop := fnExactTypesInShopRow.holds Try.pinned (OpenSpec.ofChange fnExactTypesInShopSpec)

/-- ITS FALSE NEIGHBOUR: 'it returns false'. Refute it at one input. -/
def fnExactTypesInShopWrong : ChangeSpec := { name := "fnExactTypesInShop", fn := fun _ => fun
  | [d] => { results := [.lit (.bool false)], args := [d] }
  | _ => none }
def FnExactTypesInShopWrongFalsely : Prop := fnExactTypesInShopRow.holds Try.pinned (OpenSpec.ofChange fnExactTypesInShopWrong)

/-- 'laws.FnExactLockedFormes': WHATEVER THE INPUT: true; the input reads as it did. -/
def fnExactLockedFormesSpec : ChangeSpec := { name := "fnExactLockedFormes", fn := fun _ => fun
  | [d] => { results := [.lit (.bool true)], args := [d] }
  | _ => none }
def fnExactLockedFormesRow : OpenClaim := { program := "ytcnkgmbnmndahaa", sum := "3ec9d3f27560c9dd06e756604a23a4f102d2c5b64a2ad6934c74a6ce163ee39a", func := "loop.example/g01054/laws.FnExactLockedFormes", spec := "fnExactLockedFormes", apart := false }
def FnExactLockedFormesSaid : Prop := fnExactLockedFormesRow.holds Try.pinned (OpenSpec.ofChange fnExactLockedFormesSpec)

/-- ITS FALSE NEIGHBOUR: 'it returns false'. Refute it at one input. -/
def fnExactLockedFormesWrong : ChangeSpec := { name := "fnExactLockedFormes", fn := fun _ => fun
  | [d] => { results := [.lit (.bool false)], args := [d] }
  | _ => none }
def FnExactLockedFormesWrongFalsely : Prop := fnExactLockedFormesRow.holds Try.pinned (OpenSpec.ofChange fnExactLockedFormesWrong)

/-- 'laws.FnExactFormeText': WHATEVER THE INPUT: true; the input reads as it did. -/
def fnExactFormeTextSpec : ChangeSpec := { name := "fnExactFormeText", fn := fun _ => fun
  | [d1, d2] => { results := [.lit (.bool true)], args := [d1, d2] }
  | _ => none }
def fnExactFormeTextRow : OpenClaim := { program := "ytcnkgmbnmndahaa", sum := "3ec9d3f27560c9dd06e756604a23a4f102d2c5b64a2ad6934c74a6ce163ee39a", func := "loop.example/g01054/laws.FnExactFormeText", spec := "fnExactFormeText", inPlace := ["internal/abi.NoEscape", "internal/bytealg.MakeNoZero"], apart := false }
def FnExactFormeTextSaid : Prop := fnExactFormeTextRow.holds Try.pinned (OpenSpec.ofChange fnExactFormeTextSpec)

/-- ITS FALSE NEIGHBOUR: 'it returns false'. Refute it at one input. -/
def fnExactFormeTextWrong : ChangeSpec := { name := "fnExactFormeText", fn := fun _ => fun
  | [d1, d2] => { results := [.lit (.bool false)], args := [d1, d2] }
  | _ => none }
def FnExactFormeTextWrongFalsely : Prop := fnExactFormeTextRow.holds Try.pinned (OpenSpec.ofChange fnExactFormeTextWrong)

/-- 'laws.FnExactMayBeSet': WHATEVER THE INPUT: true; the input reads as it did. -/
def fnExactMayBeSetSpec : ChangeSpec := { name := "fnExactMayBeSet", fn := fun _ => fun
  | [d1, d2] => { results := [.lit (.bool true)], args := [d1, d2] }
  | _ => none }
def fnExactMayBeSetRow : OpenClaim := { program := "ytcnkgmbnmndahaa", sum := "3ec9d3f27560c9dd06e756604a23a4f102d2c5b64a2ad6934c74a6ce163ee39a", func := "loop.example/g01054/laws.FnExactMayBeSet", spec := "fnExactMayBeSet", apart := false }
def FnExactMayBeSetSaid : Prop := fnExactMayBeSetRow.holds Try.pinned (OpenSpec.ofChange fnExactMayBeSetSpec)

/-- ITS FALSE NEIGHBOUR: 'it returns false'. Refute it at one input. -/
def fnExactMayBeSetWrong : ChangeSpec := { name := "fnExactMayBeSet", fn := fun _ => fun
  | [d1, d2] => { results := [.lit (.bool false)], args := [d1, d2] }
  | _ => none }
def FnExactMayBeSetWrongFalsely : Prop := fnExactMayBeSetRow.holds Try.pinned (OpenSpec.ofChange fnExactMayBeSetWrong)

/-- 'laws.FnExactReturnedShop': WHATEVER THE INPUT: true; the input reads as it did. -/
def fnExactReturnedShopSpec : ChangeSpec := { name := "fnExactReturnedShop", fn := fun _ => fun
  | [d] => { results := [.lit (.bool true)], args := [d] }
  | _ => none }
def fnExactReturnedShopRow : OpenClaim := { program := "ytcnkgmbnmndahaa", sum := "3ec9d3f27560c9dd06e756604a23a4f102d2c5b64a2ad6934c74a6ce163ee39a", func := "loop.example/g01054/laws.FnExactReturnedShop", spec := "fnExactReturnedShop", apart := false }
def FnExactReturnedShopSaid : Prop := fnExactReturnedShopRow.holds Try.pinned (OpenSpec.ofChange fnExactReturnedShopSpec)

/-- ITS FALSE NEIGHBOUR: 'it returns false'. Refute it at one input. -/
def fnExactReturnedShopWrong : ChangeSpec := { name := "fnExactReturnedShop", fn := fun _ => fun
  | [d] => { results := [.lit (.bool false)], args := [d] }
  | _ => none }
def FnExactReturnedShopWrongFalsely : Prop := fnExactReturnedShopRow.holds Try.pinned (OpenSpec.ofChange fnExactReturnedShopWrong)

/-- 'laws.FnExactStepShop': WHATEVER THE INPUT: true; the input reads as it did. -/
def fnExactStepShopSpec : ChangeSpec := { name := "fnExactStepShop", fn := fun _ => fun
  | [d1, d2] => { results := [.lit (.bool true)], args := [d1, d2] }
  | _ => none }
def fnExactStepShopRow : OpenClaim := { program := "ytcnkgmbnmndahaa", sum := "3ec9d3f27560c9dd06e756604a23a4f102d2c5b64a2ad6934c74a6ce163ee39a", func := "loop.example/g01054/laws.FnExactStepShop", spec := "fnExactStepShop", apart := false }
def FnExactStepShopSaid : Prop := fnExactStepShopRow.holds Try.pinned (OpenSpec.ofChange fnExactStepShopSpec)

/-- ITS FALSE NEIGHBOUR: 'it returns false'. Refute it at one input. -/
def fnExactStepShopWrong : ChangeSpec := { name := "fnExactStepShop", fn := fun _ => fun
  | [d1, d2] => { results := [.lit (.bool false)], args := [d1, d2] }
  | _ => none }
def FnExactStepShopWrongFalsely : Prop := fnExactStepShopRow.holds Try.pinned (OpenSpec.ofChange fnExactStepShopWrong)

/-- 'laws.FnExactRunShop': WHATEVER THE INPUT: true; the input reads as it did. -/
def fnExactRunShopSpec : ChangeSpec := { name := "fnExactRunShop", fn := fun _ => fun
  | [d1, d2] => { results := [.lit (.bool true)], args := [d1, d2] }
  | _ => none }
def fnExactRunShopRow : OpenClaim := { program := "ytcnkgmbnmndahaa", sum := "3ec9d3f27560c9dd06e756604a23a4f102d2c5b64a2ad6934c74a6ce163ee39a", func := "loop.example/g01054/laws.FnExactRunShop", spec := "fnExactRunShop", apart := false }
def FnExactRunShopSaid : Prop := fnExactRunShopRow.holds Try.pinned (OpenSpec.ofChange fnExactRunShopSpec)

/-- ITS FALSE NEIGHBOUR: 'it returns false'. Refute it at one input. -/
def fnExactRunShopWrong : ChangeSpec := { name := "fnExactRunShop", fn := fun _ => fun
  | [d1, d2] => { results := [.lit (.bool false)], args := [d1, d2] }
  | _ => none }
def FnExactRunShopWrongFalsely : Prop := fnExactRunShopRow.holds Try.pinned (OpenSpec.ofChange fnExactRunShopWrong)

/-- 'laws.FnHandWays': WHATEVER THE INPUT: true; the input reads as it did. -/
def fnHandWaysSpec : ChangeSpec := { name := "fnHandWays", fn := fun _ => fun
  | [d1, d2] => { results := [.lit (.bool true)], args := [d1, d2] }
  | _ => none }
def fnHandWaysRow : OpenClaim := { program := "ytcnkgmbnmndahaa", sum := "3ec9d3f27560c9dd06e756604a23a4f102d2c5b64a2ad6934c74a6ce163ee39a", func := "loop.example/g01054/laws.FnHandWays", spec := "fnHandWays", apart := false }
def FnHandWaysSaid : Prop := fnHandWaysRow.holds Try.pinned (OpenSpec.ofChange fnHandWaysSpec)

/-- ITS FALSE NEIGHBOUR: 'it returns false'. Refute it at one input. -/
def fnHandWaysWrong : ChangeSpec := { name := "fnHandWays", fn := fun _ => fun
  | [d1, d2] => { results := [.lit (.bool false)], args := [d1, d2] }
  | _ => none }
def FnHandWaysWrongFalsely : Prop := fnHandWaysRow.holds Try.pinned (OpenSpec.ofChange fnHandWaysWrong)

/- THE SECOND FORM. 'bulk': how many values and letters a reading holds, each counted each time it is reached (what is shared counts as often as it is met; a slice's spare places count too). A statement '..UptoSaid' is the law's where the arguments, and the package variables that the reading takes, are together of bulk at most 1048576: NARROWER than '..Said'. Prove '..Said' where nothing that the law and all that it calls make is longer than what came in: it says more and counts as full. Else prove '..UptoSaid'. A law counts once. -/
mutual
def uptoBulk {H : Type} : DataW H → Nat
  | .lit (.string bytes) => bytes.length + 1
  | .lit _ => 1
  | .nil => 1
  | .ptr d => uptoBulk d + 1
  | .slice elems spare => uptoBulkAll elems + uptoBulkAll spare + 1
  | .agg parts => uptoBulkAll parts + 1
  | .iface _ d => uptoBulk d + 1
  | .map entries => uptoBulkEntries entries + 1
  | .held _ => 1
def uptoBulkAll {H : Type} : List (DataW H) → Nat
  | [] => 0
  | d :: r => uptoBulk d + uptoBulkAll r
def uptoBulkEntries {H : Type} : List (Lit × DataW H) → Nat
  | [] => 0
  | x :: r => uptoBulkEntry x + uptoBulkEntries r
def uptoBulkEntry {H : Type} : Lit × DataW H → Nat
  | (.string bytes, d) => bytes.length + uptoBulk d + 1
  | (_, d) => uptoBulk d + 1
 end
def uptoSmall : (H : Type) → List (DataW H) → Bool := fun _ ds => decide (uptoBulkAll ds ≤ 1048576)
def OpenSpec.upto (s : _root_.Go.ChangeSpec) : _root_.Go.OpenSpec := { _root_.Go.OpenSpec.ofChange s with cond := some uptoSmall }

/-- 'laws.FnExactAreOrders', WHERE WHAT IT READS IS OF BULK AT MOST 1048576: true; the input reads as it did. -/
def fnExactAreOrdersUptoRow : OpenClaim := { program := "ytcnkgmbnmndahaa", sum := "3ec9d3f27560c9dd06e756604a23a4f102d2c5b64a2ad6934c74a6ce163ee39a", func := "loop.example/g01054/laws.FnExactAreOrders", spec := "fnExactAreOrders", apart := false, narrowed := true }
def FnExactAreOrdersUptoSaid : Prop := fnExactAreOrdersUptoRow.holds Try.pinned (OpenSpec.upto fnExactAreOrdersSpec)

/-- 'laws.FnExactIsShop', WHERE WHAT IT READS IS OF BULK AT MOST 1048576: true; the input reads as it did. -/
def fnExactIsShopUptoRow : OpenClaim := { program := "ytcnkgmbnmndahaa", sum := "3ec9d3f27560c9dd06e756604a23a4f102d2c5b64a2ad6934c74a6ce163ee39a", func := "loop.example/g01054/laws.FnExactIsShop", spec := "fnExactIsShop", apart := false, narrowed := true }
def FnExactIsShopUptoSaid : Prop := fnExactIsShopUptoRow.holds Try.pinned (OpenSpec.upto fnExactIsShopSpec)

/-- 'laws.FnExactTypesInShop', WHERE WHAT IT READS IS OF BULK AT MOST 1048576: true; the input reads as it did. -/
def fnExactTypesInShopUptoRow : OpenClaim := { program := "ytcnkgmbnmndahaa", sum := "3ec9d3f27560c9dd06e756604a23a4f102d2c5b64a2ad6934c74a6ce163ee39a", func := "loop.example/g01054/laws.FnExactTypesInShop", spec := "fnExactTypesInShop", apart := false, narrowed := true }
def FnExactTypesInShopUptoSaid : Prop := fnExactTypesInShopUptoRow.holds Try.pinned (OpenSpec.upto fnExactTypesInShopSpec)

/-- 'laws.FnExactLockedFormes', WHERE WHAT IT READS IS OF BULK AT MOST 1048576: true; the input reads as it did. -/
def fnExactLockedFormesUptoRow : OpenClaim := { program := "ytcnkgmbnmndahaa", sum := "3ec9d3f27560c9dd06e756604a23a4f102d2c5b64a2ad6934c74a6ce163ee39a", func := "loop.example/g01054/laws.FnExactLockedFormes", spec := "fnExactLockedFormes", apart := false, narrowed := true }
def FnExactLockedFormesUptoSaid : Prop := fnExactLockedFormesUptoRow.holds Try.pinned (OpenSpec.upto fnExactLockedFormesSpec)

/-- 'laws.FnExactFormeText', WHERE WHAT IT READS IS OF BULK AT MOST 1048576: true; the input reads as it did. -/
def fnExactFormeTextUptoRow : OpenClaim := { program := "ytcnkgmbnmndahaa", sum := "3ec9d3f27560c9dd06e756604a23a4f102d2c5b64a2ad6934c74a6ce163ee39a", func := "loop.example/g01054/laws.FnExactFormeText", spec := "fnExactFormeText", inPlace := ["internal/abi.NoEscape", "internal/bytealg.MakeNoZero"], apart := false, narrowed := true }
def FnExactFormeTextUptoSaid : Prop := fnExactFormeTextUptoRow.holds Try.pinned (OpenSpec.upto fnExactFormeTextSpec)

/-- 'laws.FnExactMayBeSet', WHERE WHAT IT READS IS OF BULK AT MOST 1048576: true; the input reads as it did. -/
def fnExactMayBeSetUptoRow : OpenClaim := { program := "ytcnkgmbnmndahaa", sum := "3ec9d3f27560c9dd06e756604a23a4f102d2c5b64a2ad6934c74a6ce163ee39a", func := "loop.example/g01054/laws.FnExactMayBeSet", spec := "fnExactMayBeSet", apart := false, narrowed := true }
def FnExactMayBeSetUptoSaid : Prop := fnExactMayBeSetUptoRow.holds Try.pinned (OpenSpec.upto fnExactMayBeSetSpec)

/-- 'laws.FnExactReturnedShop', WHERE WHAT IT READS IS OF BULK AT MOST 1048576: true; the input reads as it did. -/
def fnExactReturnedShopUptoRow : OpenClaim := { program := "ytcnkgmbnmndahaa", sum := "3ec9d3f27560c9dd06e756604a23a4f102d2c5b64a2ad6934c74a6ce163ee39a", func := "loop.example/g01054/laws.FnExactReturnedShop", spec := "fnExactReturnedShop", apart := false, narrowed := true }
def FnExactReturnedShopUptoSaid : Prop := fnExactReturnedShopUptoRow.holds Try.pinned (OpenSpec.upto fnExactReturnedShopSpec)

/-- 'laws.FnExactStepShop', WHERE WHAT IT READS IS OF BULK AT MOST 1048576: true; the input reads as it did. -/
def fnExactStepShopUptoRow : OpenClaim := { program := "ytcnkgmbnmndahaa", sum := "3ec9d3f27560c9dd06e756604a23a4f102d2c5b64a2ad6934c74a6ce163ee39a", func := "loop.example/g01054/laws.FnExactStepShop", spec := "fnExactStepShop", apart := false, narrowed := true }
def FnExactStepShopUptoSaid : Prop := fnExactStepShopUptoRow.holds Try.pinned (OpenSpec.upto fnExactStepShopSpec)

/-- 'laws.FnExactRunShop', WHERE WHAT IT READS IS OF BULK AT MOST 1048576: true; the input reads as it did. -/
def fnExactRunShopUptoRow : OpenClaim := { program := "ytcnkgmbnmndahaa", sum := "3ec9d3f27560c9dd06e756604a23a4f102d2c5b64a2ad6934c74a6ce163ee39a", func := "loop.example/g01054/laws.FnExactRunShop", spec := "fnExactRunShop", apart := false, narrowed := true }
def FnExactRunShopUptoSaid : Prop := fnExactRunShopUptoRow.holds Try.pinned (OpenSpec.upto fnExactRunShopSpec)

/-- 'laws.FnHandWays', WHERE WHAT IT READS IS OF BULK AT MOST 1048576: true; the input reads as it did. -/
def fnHandWaysUptoRow : OpenClaim := { program := "ytcnkgmbnmndahaa", sum := "3ec9d3f27560c9dd06e756604a23a4f102d2c5b64a2ad6934c74a6ce163ee39a", func := "loop.example/g01054/laws.FnHandWays", spec := "fnHandWays", apart := false, narrowed := true }
def FnHandWaysUptoSaid : Prop := fnHandWaysUptoRow.holds Try.pinned (OpenSpec.upto fnHandWaysSpec)

end Rows
end Go.Proofs.Ytcnkgmbnmndahaa
