/-
  No cell of these rows narrows 'for every input' (looked for: loops, veiled, ifaces, maps, wideKeys, modest, calm, conditions, laid).
  DERIVED. THE GIVEN ROWS OF THIS SEAT. 2 by the template 'for every input the law returns true; each argument reads behind the call as it read before'; 0 by the template 'total and deterministic' (their statements: YtaphcpfkgpaefaaTotals.lean).
  GIVEN WITH THE SEED: the statements are not yours to turn. If you find one false, say at which input.
  Laid BY PROGRAM, IN A SANDBOX (cutbox-rows.mjs): the forced cells as the released guide's own fill.sh prints them over the translation a6abbdd5c9213c5f… (all of the seat's roots in one cut). By AI agents, Wed Nov 11 2026. No macro, syntax, notation, axiom, sorry.
-/
import Derived.Test.YtaphcpfkgpaefaaChecked
import GoSem.Claim
import GoSem.ClaimJoined
import GoSem.ClaimMapViews
import Derived.JoinedTies
import Derived.KernelRfl
namespace Go.Proofs.Ytaphcpfkgpaefaa
/- THE CELL 'sum', in the pinned program and in every row, IS THE sha256 OF THE DUMP (.gsa) THAT YtaphcpfkgpaefaaProg.lean LOADS. Nothing in Lean hashes anything: it is a label: what it is worth is what the hold of that sum in a sandbox is worth. -/
noncomputable def Try.pinned : Pinned := { name := "ytaphcpfkgpaefaa", sum := "a6abbdd5c9213c5f8201dc29c673f5d2a564981713d1b775345b27bd700f95fd", checked := Try.checked }
namespace Rows
def none {H : Type} : Left H := { results := [], args := [] }

/-- 'laws.FnExactLeastLateness': WHATEVER THE INPUT: true; the input reads as it did. -/
def fnExactLeastLatenessSpec : ChangeSpec := { name := "fnExactLeastLateness", fn := fun _ => fun
  | [d] => { results := [.lit (.bool true)], args := [d] }
  | _ => none }
def fnExactLeastLatenessRow : OpenClaim := { program := "ytaphcpfkgpaefaa", sum := "a6abbdd5c9213c5f8201dc29c673f5d2a564981713d1b775345b27bd700f95fd", func := "loop.example/g01054/laws.FnExactLeastLateness", spec := "fnExactLeastLateness", unfollowed := true, recurses := true, apart := false }
def FnExactLeastLatenessSaid : Prop := fnExactLeastLatenessRow.holds Try.pinned (OpenSpec.ofChange fnExactLeastLatenessSpec)

/-- ITS FALSE NEIGHBOUR: 'it returns false'. Refute it at one input. -/
def fnExactLeastLatenessWrong : ChangeSpec := { name := "fnExactLeastLateness", fn := fun _ => fun
  | [d] => { results := [.lit (.bool false)], args := [d] }
  | _ => none }
def FnExactLeastLatenessWrongFalsely : Prop := fnExactLeastLatenessRow.holds Try.pinned (OpenSpec.ofChange fnExactLeastLatenessWrong)

/-- 'laws.FnExactMostInTime': WHATEVER THE INPUT: true; the input reads as it did. -/
def fnExactMostInTimeSpec : ChangeSpec := { name := "fnExactMostInTime", fn := fun _ => fun
  | [d] => { results := [.lit (.bool true)], args := [d] }
  | _ => none }
def fnExactMostInTimeRow : OpenClaim := { program := "ytaphcpfkgpaefaa", sum := "a6abbdd5c9213c5f8201dc29c673f5d2a564981713d1b775345b27bd700f95fd", func := "loop.example/g01054/laws.FnExactMostInTime", spec := "fnExactMostInTime", inPlace := ["internal/reflectlite.ValueOf", "internal/reflectlite.Swapper", "(internal/reflectlite.Value).Len"], unfollowed := true, recurses := true, apart := false }
def FnExactMostInTimeSaid : Prop := fnExactMostInTimeRow.holds Try.pinned (OpenSpec.ofChange fnExactMostInTimeSpec)

/-- ITS FALSE NEIGHBOUR: 'it returns false'. Refute it at one input. -/
def fnExactMostInTimeWrong : ChangeSpec := { name := "fnExactMostInTime", fn := fun _ => fun
  | [d] => { results := [.lit (.bool false)], args := [d] }
  | _ => none }
def FnExactMostInTimeWrongFalsely : Prop := fnExactMostInTimeRow.holds Try.pinned (OpenSpec.ofChange fnExactMostInTimeWrong)

/- THE SECOND FORM. 'bulk': how many values and letters a reading holds, each counted each time it is reached (what is shared counts as often as it is met; a slice's spare places count too). A statement '..UptoSaid' is the law's where the arguments, and the package variables that the reading takes, are together of bulk at most 1048576: NARROWER than '..Said'. Prove '..Said' where nothing that the law and all that it calls make is longer than what came in: it says more and counts as full. Else prove '..UptoSaid'. A law counts once. -/
mutual
def uptoBulk {H : Type} : DataW H → Nat
  | .lit (.string bytes) => bytes.length + 1
  | .lit _ => 1
  | .nil => 1
  | .ptr d => uptoBulk d + 1
  | .slice elems spare => uptoBulkAll elems + uptoBulkAll spare + 1
  | .agg parts => uptoBulkAll parts + 1
  | .iface _ d => uptoBulk d + 1
  | .map entries => uptoBulkEntries entries + 1
  | .held _ => 1
def uptoBulkAll {H : Type} : List (DataW H) → Nat
  | [] => 0
  | d :: r => uptoBulk d + uptoBulkAll r
def uptoBulkEntries {H : Type} : List (Lit × DataW H) → Nat
  | [] => 0
  | x :: r => uptoBulkEntry x + uptoBulkEntries r
def uptoBulkEntry {H : Type} : Lit × DataW H → Nat
  | (.string bytes, d) => bytes.length + uptoBulk d + 1
  | (_, d) => uptoBulk d + 1
 end
def uptoSmall : (H : Type) → List (DataW H) → Bool := fun _ ds => decide (uptoBulkAll ds ≤ 1048576)
def OpenSpec.upto (s : _root_.Go.ChangeSpec) : _root_.Go.OpenSpec := { _root_.Go.OpenSpec.ofChange s with cond := some uptoSmall }

/-- 'laws.FnExactLeastLateness', WHERE WHAT IT READS IS OF BULK AT MOST 1048576: true; the input reads as it did. -/
def fnExactLeastLatenessUptoRow : OpenClaim := { program := "ytaphcpfkgpaefaa", sum := "a6abbdd5c9213c5f8201dc29c673f5d2a564981713d1b775345b27bd700f95fd", func := "loop.example/g01054/laws.FnExactLeastLateness", spec := "fnExactLeastLateness", unfollowed := true, recurses := true, apart := false, narrowed := true }
def FnExactLeastLatenessUptoSaid : Prop := fnExactLeastLatenessUptoRow.holds Try.pinned (OpenSpec.upto fnExactLeastLatenessSpec)

/-- 'laws.FnExactMostInTime', WHERE WHAT IT READS IS OF BULK AT MOST 1048576: true; the input reads as it did. -/
def fnExactMostInTimeUptoRow : OpenClaim := { program := "ytaphcpfkgpaefaa", sum := "a6abbdd5c9213c5f8201dc29c673f5d2a564981713d1b775345b27bd700f95fd", func := "loop.example/g01054/laws.FnExactMostInTime", spec := "fnExactMostInTime", inPlace := ["internal/reflectlite.ValueOf", "internal/reflectlite.Swapper", "(internal/reflectlite.Value).Len"], unfollowed := true, recurses := true, apart := false, narrowed := true }
def FnExactMostInTimeUptoSaid : Prop := fnExactMostInTimeUptoRow.holds Try.pinned (OpenSpec.upto fnExactMostInTimeSpec)

end Rows
end Go.Proofs.Ytaphcpfkgpaefaa
