/-
  No cell of these rows narrows 'for every input' (looked for: loops, veiled, ifaces, maps, wideKeys, modest, calm, conditions, laid).
  DERIVED. THE GIVEN ROWS OF THIS SEAT. 5 by the template 'for every input the law returns true; each argument reads behind the call as it read before'; 0 by the template 'total and deterministic' (their statements: YtkcojipciiakdaaTotals.lean).
  GIVEN WITH THE SEED: the statements are not yours to turn. If you find one false, say at which input.
  Laid BY PROGRAM, IN A SANDBOX (cutbox-rows.mjs): the forced cells as the released guide's own fill.sh prints them over the translation 2051991a5a831765… (all of the seat's roots in one cut). By AI agents, Wed Nov 11 2026. No macro, syntax, notation, axiom, sorry.
-/
import Derived.Test.YtkcojipciiakdaaChecked
import GoSem.Claim
import GoSem.ClaimJoined
import GoSem.ClaimMapViews
import Derived.JoinedTies
import Derived.KernelRfl
namespace Go.Proofs.Ytkcojipciiakdaa
/- THE CELL 'sum', in the pinned program and in every row, IS THE sha256 OF THE DUMP (.gsa) THAT YtkcojipciiakdaaProg.lean LOADS. Nothing in Lean hashes anything: it is a label: what it is worth is what the hold of that sum in a sandbox is worth. -/
noncomputable def Try.pinned : Pinned := { name := "ytkcojipciiakdaa", sum := "2051991a5a831765aa9276426fa50cbcd9e9b8eefc42bb9fd1bed1d82f65148c", checked := Try.checked }
namespace Rows
def none {H : Type} : Left H := { results := [], args := [] }

/-- 'laws.FnExactLockedFormes': WHATEVER THE INPUT: true; the input reads as it did. -/
def fnExactLockedFormesSpec : ChangeSpec := { name := "fnExactLockedFormes", fn := fun _ => fun
  | [d] => { results := [.lit (.bool true)], args := [d] }
  | _ => none }
def fnExactLockedFormesRow : OpenClaim := { program := "ytkcojipciiakdaa", sum := "2051991a5a831765aa9276426fa50cbcd9e9b8eefc42bb9fd1bed1d82f65148c", func := "loop.example/g01054/laws.FnExactLockedFormes", spec := "fnExactLockedFormes", apart := false }
def FnExactLockedFormesSaid : Prop := fnExactLockedFormesRow.holds Try.pinned (OpenSpec.ofChange fnExactLockedFormesSpec)

/-- ITS FALSE NEIGHBOUR: 'it returns false'. Refute it at one input. -/
def fnExactLockedFormesWrong : ChangeSpec := { name := "fnExactLockedFormes", fn := fun _ => fun
  | [d] => { results := [.lit (.bool false)], args := [d] }
  | _ => none }
def FnExactLockedFormesWrongFalsely : Prop := fnExactLockedFormesRow.holds Try.pinned (OpenSpec.ofChange fnExactLockedFormesWrong)

/-- 'laws.FnExactReturnedShop': WHATEVER THE INPUT: true; the input reads as it did. -/
def fnExactReturnedShopSpec : ChangeSpec := { name := "fnExactReturnedShop", fn := fun _ => fun
  | [d] => { results := [.lit (.bool true)], args := [d] }
  | _ => none }
def fnExactReturnedShopRow : OpenClaim := { program := "ytkcojipciiakdaa", sum := "2051991a5a831765aa9276426fa50cbcd9e9b8eefc42bb9fd1bed1d82f65148c", func := "loop.example/g01054/laws.FnExactReturnedShop", spec := "fnExactReturnedShop", apart := false }
def FnExactReturnedShopSaid : Prop := fnExactReturnedShopRow.holds Try.pinned (OpenSpec.ofChange fnExactReturnedShopSpec)

/-- ITS FALSE NEIGHBOUR: 'it returns false'. Refute it at one input. -/
def fnExactReturnedShopWrong : ChangeSpec := { name := "fnExactReturnedShop", fn := fun _ => fun
  | [d] => { results := [.lit (.bool false)], args := [d] }
  | _ => none }
def FnExactReturnedShopWrongFalsely : Prop := fnExactReturnedShopRow.holds Try.pinned (OpenSpec.ofChange fnExactReturnedShopWrong)

/-- 'laws.FnExactStepShop': WHATEVER THE INPUT: true; the input reads as it did. -/
def fnExactStepShopSpec : ChangeSpec := { name := "fnExactStepShop", fn := fun _ => fun
  | [d1, d2] => { results := [.lit (.bool true)], args := [d1, d2] }
  | _ => none }
def fnExactStepShopRow : OpenClaim := { program := "ytkcojipciiakdaa", sum := "2051991a5a831765aa9276426fa50cbcd9e9b8eefc42bb9fd1bed1d82f65148c", func := "loop.example/g01054/laws.FnExactStepShop", spec := "fnExactStepShop", apart := false }
def FnExactStepShopSaid : Prop := fnExactStepShopRow.holds Try.pinned (OpenSpec.ofChange fnExactStepShopSpec)

/-- ITS FALSE NEIGHBOUR: 'it returns false'. Refute it at one input. -/
def fnExactStepShopWrong : ChangeSpec := { name := "fnExactStepShop", fn := fun _ => fun
  | [d1, d2] => { results := [.lit (.bool false)], args := [d1, d2] }
  | _ => none }
def FnExactStepShopWrongFalsely : Prop := fnExactStepShopRow.holds Try.pinned (OpenSpec.ofChange fnExactStepShopWrong)

/-- 'laws.FnExactRunShop': WHATEVER THE INPUT: true; the input reads as it did. -/
def fnExactRunShopSpec : ChangeSpec := { name := "fnExactRunShop", fn := fun _ => fun
  | [d1, d2] => { results := [.lit (.bool true)], args := [d1, d2] }
  | _ => none }
def fnExactRunShopRow : OpenClaim := { program := "ytkcojipciiakdaa", sum := "2051991a5a831765aa9276426fa50cbcd9e9b8eefc42bb9fd1bed1d82f65148c", func := "loop.example/g01054/laws.FnExactRunShop", spec := "fnExactRunShop", apart := false }
def FnExactRunShopSaid : Prop := fnExactRunShopRow.holds Try.pinned (OpenSpec.ofChange fnExactRunShopSpec)

/-- ITS FALSE NEIGHBOUR: 'it returns false'. Refute it at one input. -/
def fnExactRunShopWrong : ChangeSpec := { name := "fnExactRunShop", fn := fun _ => fun
  | [d1, d2] => { results := [.lit (.bool false)], args := [d1, d2] }
  | _ => none }
def FnExactRunShopWrongFalsely : Prop := fnExactRunShopRow.holds Try.pinned (OpenSpec.ofChange fnExactRunShopWrong)

/-- 'laws.FnShops': WHATEVER THE INPUT: true; the input reads as it did. -/
def fnShopsSpec : ChangeSpec := { name := "fnShops", fn := fun _ => fun
  | [d1, d2] => { results := [.lit (.bool true)], args := [d1, d2] }
  | _ => none }
def fnShopsRow : OpenClaim := { program := "ytkcojipciiakdaa", sum := "2051991a5a831765aa9276426fa50cbcd9e9b8eefc42bb9fd1bed1d82f65148c", func := "loop.example/g01054/laws.FnShops", spec := "fnShops", apart := false }
def FnShopsSaid : Prop := fnShopsRow.holds Try.pinned (OpenSpec.ofChange fnShopsSpec)

/-- ITS FALSE NEIGHBOUR: 'it returns false'. Refute it at one input. -/
def fnShopsWrong : ChangeSpec := { name := "fnShops", fn := fun _ => fun
  | [d1, d2] => { results := [.lit (.bool false)], args := [d1, d2] }
  | _ => none }
def FnShopsWrongFalsely : Prop := fnShopsRow.holds Try.pinned (OpenSpec.ofChange fnShopsWrong)

/- THE SECOND FORM. 'bulk': how many values and letters a reading holds, each counted each time it is reached (what is shared counts as often as it is met; a slice's spare places count too). A statement '..UptoSaid' is the law's where the arguments, and the package variables that the reading takes, are together of bulk at most 1048576: NARROWER than '..Said'. Prove '..Said' where nothing that the law and all that it calls make is longer than what came in: it says more and counts as full. Else prove '..UptoSaid'. A law counts once. -/
mutual
def uptoBulk {H : Type} : DataW H → Nat
  | .lit (.string bytes) => bytes.length + 1
  | .lit _ => 1
  | .nil => 1
  | .ptr d => uptoBulk d + 1
  | .slice elems spare => uptoBulkAll elems + uptoBulkAll spare + 1
  | .agg parts => uptoBulkAll parts + 1
  | .iface _ d => uptoBulk d + 1
  | .map entries => uptoBulkEntries entries + 1
  | .held _ => 1
def uptoBulkAll {H : Type} : List (DataW H) → Nat
  | [] => 0
  | d :: r => uptoBulk d + uptoBulkAll r
def uptoBulkEntries {H : Type} : List (Lit × DataW H) → Nat
  | [] => 0
  | x :: r => uptoBulkEntry x + uptoBulkEntries r
def uptoBulkEntry {H : Type} : Lit × DataW H → Nat
  | (.string bytes, d) => bytes.length + uptoBulk d + 1
  | (_, d) => uptoBulk d + 1
 end
def uptoSmall : (H : Type) → List (DataW H) → Bool := fun _ ds => decide (uptoBulkAll ds ≤ 1048576)
def OpenSpec.upto (s : _root_.Go.ChangeSpec) : _root_.Go.OpenSpec := { _root_.Go.OpenSpec.ofChange s with cond := some uptoSmall }

/-- 'laws.FnExactLockedFormes', WHERE WHAT IT READS IS OF BULK AT MOST 1048576: true; the input reads as it did. -/
def fnExactLockedFormesUptoRow : OpenClaim := { program := "ytkcojipciiakdaa", sum := "2051991a5a831765aa9276426fa50cbcd9e9b8eefc42bb9fd1bed1d82f65148c", func := "loop.example/g01054/laws.FnExactLockedFormes", spec := "fnExactLockedFormes", apart := false, narrowed := true }
def FnExactLockedFormesUptoSaid : Prop := fnExactLockedFormesUptoRow.holds Try.pinned (OpenSpec.upto fnExactLockedFormesSpec)

/-- 'laws.FnExactReturnedShop', WHERE WHAT IT READS IS OF BULK AT MOST 1048576: true; the input reads as it did. -/
def fnExactReturnedShopUptoRow : OpenClaim := { program := "ytkcojipciiakdaa", sum := "2051991a5a831765aa9276426fa50cbcd9e9b8eefc42bb9fd1bed1d82f65148c", func := "loop.example/g01054/laws.FnExactReturnedShop", spec := "fnExactReturnedShop", apart := false, narrowed := true }
def FnExactReturnedShopUptoSaid : Prop := fnExactReturnedShopUptoRow.holds Try.pinned (OpenSpec.upto fnExactReturnedShopSpec)

/-- 'laws.FnExactStepShop', WHERE WHAT IT READS IS OF BULK AT MOST 1048576: true; the input reads as it did. -/
def fnExactStepShopUptoRow : OpenClaim := { program := "ytkcojipciiakdaa", sum := "2051991a5a831765aa9276426fa50cbcd9e9b8eefc42bb9fd1bed1d82f65148c", func := "loop.example/g01054/laws.FnExactStepShop", spec := "fnExactStepShop", apart := false, narrowed := true }
def FnExactStepShopUptoSaid : Prop := fnExactStepShopUptoRow.holds Try.pinned (OpenSpec.upto fnExactStepShopSpec)

/-- 'laws.FnExactRunShop', WHERE WHAT IT READS IS OF BULK AT MOST 1048576: true; the input reads as it did. -/
def fnExactRunShopUptoRow : OpenClaim := { program := "ytkcojipciiakdaa", sum := "2051991a5a831765aa9276426fa50cbcd9e9b8eefc42bb9fd1bed1d82f65148c", func := "loop.example/g01054/laws.FnExactRunShop", spec := "fnExactRunShop", apart := false, narrowed := true }
def FnExactRunShopUptoSaid : Prop := fnExactRunShopUptoRow.holds Try.pinned (OpenSpec.upto fnExactRunShopSpec)

/-- 'laws.FnShops', WHERE WHAT IT READS IS OF BULK AT MOST 1048576: true; the input reads as it did. -/
def fnShopsUptoRow : OpenClaim := { program := "ytkcojipciiakdaa", sum := "2051991a5a831765aa9276426fa50cbcd9e9b8eefc42bb9fd1bed1d82f65148c", func := "loop.example/g01054/laws.FnShops", spec := "fnShops", apart := false, narrowed := true }
def FnShopsUptoSaid : Prop := fnShopsUptoRow.holds Try.pinned (OpenSpec.upto fnShopsSpec)

end Rows
end Go.Proofs.Ytkcojipciiakdaa
