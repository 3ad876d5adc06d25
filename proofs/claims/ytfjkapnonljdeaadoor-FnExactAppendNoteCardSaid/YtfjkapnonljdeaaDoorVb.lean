/-
  A value-level evaluator of the model's Code: the operations and the evaluator.
-/
import Derived.Test.YtfjkapnonljdeaaDoorVa
namespace Go.V

/-- An operation: the slots that it reads; those whose value it writes (hw); those whose contents alone it writes (cw); what it computes. -/
inductive Ac where
  | one (rd : List Nat) (d : Nat) (h : List D → Option D)
  | many (rd hw cw : List Nat) (fn : List D → (List D → Option Out) → Option Out)

/-! ### kept: what stands in the evaluated text -/
def ifD (c : D) (t e : Option Out) : Option Out :=
  match c with
  | .v (.bool true) => t
  | .v (.bool false) => e
  | _ => none
def gate (v : D) (g : D) (pol : Bool) (r : Option D) : Option D :=
  match g with
  | .v (.bool b) => if b = pol then r else some v
  | .tup _ => some v
  | _ => none
/-- A whole operation under a guard; 'alt': what it would write, if it is passed over. -/
def gateC (g : D) (pol : Bool) (r : Option Out) (alt : List D) (k : List D → Option Out) : Option Out :=
  match g with
  | .v (.bool b) => if b = pol then (match r with
    | some (.nrm l) => k l
    | _ => none) else k alt
  | .tup _ => k alt
  | _ => none
def callK (r : Option Out) (k : List D → List D → Option Out) : Option Out :=
  match r with
  | some (.ret rs us) => k rs us
  | _ => none
def fldD (ag : Bool) (n off : Nat) (d : D) : Option D :=
  match d with
  | .agg l => takeD ag n (l.drop off)
  | _ => none
def ldD (ag : Bool) (n : Nat) (d : D) : Option D :=
  match d with
  | .ptr l => takeD ag n l
  | _ => none
def offD (off : Nat) (d : D) : Option D :=
  match d with
  | .ptr l => some (.ptr (l.drop off))
  | _ => none
/-- The cells at a place in an owned object. -/
def atD (o r : D) : Option (List D) :=
  match o, r with
  | .arr _ l, .ref i f => (l[i]?).map fun d => d.cells.drop f
  | .agg l, .ref _ f => some (l.drop f)
  | _, _ => none
def D.ofCells (old : D) (cs : List D) : D :=
  match old, cs with
  | .agg _, cs => .agg cs
  | _, c :: _ => c
  | d, [] => d
def putCells (l : List D) (f : Nat) (vs : List D) : List D := l.take f ++ vs ++ l.drop (f + vs.length)
/-- An owned object after a store. -/
def stD (n : Nat) (o r x : D) : Option D :=
  match o, r with
  | .arr z l, .ref i f => match l[i]? with
    | some d => if x.cells.length = n ∧ f + n ≤ d.width ∧ x.cells.all D.single then some (.arr z (l.set i (d.ofCells (putCells d.cells f x.cells)))) else none
    | none => none
  | .agg l, .ref _ f => if x.cells.length = n ∧ f + n ≤ l.length ∧ x.cells.all D.single then some (.agg (putCells l f x.cells)) else none
  | _, _ => none
def refI (z : Nat) (o i : D) : Option D :=
  match o, i with
  | .arr z' l, .v (.int _ n) => if z' = z ∧ 0 ≤ n ∧ n < l.length then some (.ref n.toNat 0) else none
  | _, _ => none
def refA (len z : Nat) (o r i : D) : Option D :=
  match o, r, i with
  | .bad, _, _ => none
  | _, .ref j f, .v (.int _ n) => if 0 ≤ n ∧ n < len then some (.ref j (f + n.toNat * z)) else none
  | _, _, _ => none
def refF (off : Nat) (o r : D) : Option D :=
  match o, r with
  | .bad, _ => none
  | _, .ref i f => some (.ref i (f + off))
  | _, _ => none
def liveD (d : D) (x : D) : Option D :=
  match d with
  | .bad => none
  | _ => some x
def lenOkD (z n : Nat) (l : List D) : Bool := l.all fun d => d.width == z && (d.single || (match d with | .agg c => c.all D.single | _ => false)) && decide (l.length = n)
def mkArr (z : Nat) (l : List D) : Option D := if lenOkD z l.length l then some (.arr z l) else none
def makD (z eb : Nat) (x : D) (n c : D) : Option D :=
  match n, c with
  | .v (.int _ a), .v (.int _ b) => if 0 ≤ a ∧ a ≤ b ∧ b * (eb : Int) ≤ 140737488355328 ∧ b ≤ 140737488355328 then some (.arr z (List.replicate a.toNat x)) else none
  | _, _ => none
def boxD (n : Nat) (x : D) : Option D := if x.cells.length = n ∧ x.cells.all D.single then some (.agg x.cells) else none
def tupAt (t : D) (i : Nat) : Option D :=
  match t with
  | .tup l => match l[i]? with
    | some .bad => none
    | some (.tup _) => none
    | r => r
  | _ => none
def tupCut (t : D) (i : Nat) : D :=
  match t with
  | .tup l => .tup (l.set i .bad)
  | d => d
def arrD (z : Nat) (d : D) : Option D :=
  match d with
  | .arr z' l => if z' = z ∨ l = [] then some (.arr z l) else none
  | _ => none
def aggL (ds : List D) (cs : List D) : Option D := if ds.length = cs.length ∧ cs.all D.single then some (.agg cs) else none

/-! ### operands -/
@[reducible] def constD : Value → D
  | .slice _ _ _ => .arr 0 []
  | v => .v v
@[reducible] def okC : Value → Bool
  | .slice none 0 0 => true
  | .bool _ => true
  | .int _ _ => true
  | .string _ => true
  | .nilFunc => true
  | .nilIface => true
  | .pointer none => true
  | _ => false
@[reducible] def rdOf : List Operand → List Nat
  | [] => []
  | .tmp t :: xs => t :: rdOf xs
  | _ :: xs => rdOf xs
@[reducible] def valsOf : List Operand → List D → List D
  | [], _ => []
  | .tmp _ :: xs, i :: is => i :: valsOf xs is
  | .tmp _ :: xs, [] => .bad :: valsOf xs []
  | .const c :: xs, is => constD c :: valsOf xs is
  | .func f :: xs, is => .clo f [] :: valsOf xs is
  | .global _ :: xs, is => .bad :: valsOf xs is
@[reducible] def opD (δ : List D) : Operand → D
  | .tmp t => nth δ t
  | .const c => constD c
  | .func f => .clo f []
  | .global _ => .bad

@[reducible] def maxN (a b : Nat) : Nat := match Nat.ble a b with
  | true => b
  | false => a
/-- The level of an operand's data: 0 scalars, 1 new memory, 2 any memory; 9: no data. -/
@[reducible] def lvOf (K : List Kd) : Operand → Nat
  | .tmp t => match nthK K t with
    | .dat lv => lv
    | _ => 9
  | .const v => match okC v with
    | true => 0
    | false => 9
  | .func _ => 0
  | .global _ => 9
@[reducible] def lvAll (K : List Kd) : List Operand → Nat
  | [] => 0
  | x :: xs => maxN (lvOf K x) (lvAll K xs)

/-- A data operation: from level 'lv' into the slot d. -/
@[reducible] def dataOp (c : Cx) (dst : Option Nat) (xs : List Operand) (lv : Nat) (h : List D → Option D) : Option Ac :=
  match dst with
  | none => none
  | some d => match nthK c.K d with
    | .dat l => match Nat.ble (lvAll c.K xs) 2 with
      | false => none
      | true => match Nat.ble lv l with
        | true => some (.one (rdOf xs) d fun is => h (valsOf xs is))
        | false => match Nat.beq l 0 with
          | true => some (.one (rdOf xs) d fun is => (h (valsOf xs is)).bind chkV)
          | false => none
    | _ => none

@[reducible] def withT (c : Cx) (t : Nat) (f : TI → Option Ac) : Option Ac := match look c.T t with
  | some i => f i
  | none => none

@[reducible] def fieldOf (c : Cx) (i : TI) (f : Nat) : Option (Nat × TI) := match nthO i.fs f with
  | some (off, ty) => match look c.T ty with
    | some j => some (off, j)
    | none => none
  | none => none

@[reducible] def arg1 (h : D → Option D) : List D → Option D
  | [a] => h a
  | _ => none
@[reducible] def arg2 (h : D → D → Option D) : List D → Option D
  | [a, b] => h a b
  | _ => none
@[reducible] def arg3 (h : D → D → D → Option D) : List D → Option D
  | [a, b, x] => h a b x
  | _ => none

/-- The owner of what a temporary stands for: itself, or the slot that it is a copy of. -/
@[reducible] def rootOf (K : List Kd) (t : Nat) : Option Nat :=
  match nthK K t with
  | .own _ _ _ => some t
  | .box _ _ _ => some t
  | .via r => some r
  | .ref r => some r
  | _ => none

@[reducible] def deps (r : Nat) : List Kd → Nat → List Nat
  | [], _ => []
  | .via q :: K, s => match Nat.beq q r with
    | true => s :: deps r K (Nat.succ s)
    | false => deps r K (Nat.succ s)
  | .ref q :: K, s => match Nat.beq q r with
    | true => s :: deps r K (Nat.succ s)
    | false => deps r K (Nat.succ s)
  | _ :: K, s => deps r K (Nat.succ s)
@[reducible] def depsAll (K : List Kd) : List Nat → List Nat
  | [] => []
  | r :: rs => app (deps r K 0) (depsAll K rs)

end Go.V
