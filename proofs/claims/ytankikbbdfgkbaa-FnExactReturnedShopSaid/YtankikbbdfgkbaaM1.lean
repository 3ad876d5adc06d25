/-
  A value-level evaluator of the model's Code: definitions. Data without memory; what each operation reads and writes; the evaluator itself.
-/
import Derived.Test.YtankikbbdfgkbaaRows
import Derived.WalkKit
namespace Go.V

inductive D where
  | v (x : Value)
  | arr (z : Nat) (l : List D)
  | agg (l : List D)
  | ptr (l : List D)
  | clo (f : Nat) (l : List D)
  | ifc
  | raw (x : Value)
  | tup (l : List D)
  | ref (i f : Nat)
  | bad
  deriving Inhabited

abbrev B (b : Bool) : D := .v (.bool b)
abbrev I (n : Int) : D := .v (.int .i64 n)
abbrev U (n : Int) : D := .v (.int .u8 n)
abbrev T (s : ByteArray) : D := .v (.string s)

inductive Out where
  | nrm (δ : List D)
  | ext (id : Nat) (δ : List D)
  | ret (rs us : List D)

/-- What is known of a type. -/
structure TI where
  agg : Bool := false
  n : Nat := 1
  zero : List D := []
  elem : Nat := 0
  ez : Nat := 0
  eb : Nat := 0
  fs : List (Nat × Nat) := []
  alen : Nat := 0
  eq : List Nat := []
  ik : Option IntKind := none
  str : Bool := false
  bl : Bool := false
  ifc : Bool := false

inductive Kd where
  | dat (lv : Nat)
  | own (z lv : Nat) (io : Bool)
  | box (n lv : Nat) (io : Bool)
  | via (r : Nat)
  | ref (r : Nat)
  | tup (l : List Kd)
  | no

/-- A function as its callers see it. -/
structure FS where
  pm : List Kd
  rm : List Kd
  f : List D → Option Out

structure Cx where
  K : List Kd
  T : List (Nat × TI)
  S : List (Nat × FS)
  H : List (Nat × (List Nat × List Nat)) := []
  res : List ResultVar
  ios : List Nat := []
  G : List (Nat × (Obj → Prop)) := []
  N : List Nat := []
  C : List (Nat × Nat) := []

section small
@[reducible] def nthO {α : Type} : List α → Nat → Option α
  | [], _ => none
  | a :: _, 0 => some a
  | _ :: l, n + 1 => nthO l n
@[reducible] def nth : List D → Nat → D
  | [], _ => .bad
  | a :: _, 0 => a
  | _ :: l, n + 1 => nth l n
@[reducible] def nthK : List Kd → Nat → Kd
  | [], _ => .no
  | a :: _, 0 => a
  | _ :: l, n + 1 => nthK l n
@[reducible] def setAt : List D → Nat → D → List D
  | [], _, _ => []
  | _ :: l, 0, b => b :: l
  | a :: l, n + 1, b => a :: setAt l n b
@[reducible] def eqN : Nat → Nat → Bool
  | a, b => Nat.beq a b
@[reducible] def look {α : Type} : List (Nat × α) → Nat → Option α
  | [], _ => none
  | (k, a) :: l, n => match Nat.beq k n with
    | true => some a
    | false => look l n
@[reducible] def app {α : Type} : List α → List α → List α
  | [], b => b
  | a :: l, b => a :: app l b
@[reducible] def mapD {α β : Type} (f : α → β) : List α → List β
  | [] => []
  | a :: l => f a :: mapD f l
@[reducible] def setMany : List D → List Nat → List D → List D
  | δ, [], _ => δ
  | δ, s :: ss, [] => setMany (setAt δ s .bad) ss []
  | δ, s :: ss, d :: ds => setMany (setAt δ s d) ss ds
@[reducible] def nthC {R : Type} : List D → Nat → (D → R) → R
  | [], _, k => k .bad
  | a :: _, 0, k => k a
  | _ :: l, n + 1, k => nthC l n k
@[reducible] def setC {R : Type} : List D → Nat → D → (List D → R) → R
  | [], _, _, k => k []
  | _ :: l, 0, b, k => k (b :: l)
  | a :: l, n + 1, b, k => setC l n b fun l' => k (a :: l')
@[reducible] def getC {R : Type} (δ : List D) : List Nat → (List D → R) → R
  | [], k => k []
  | s :: ss, k => nthC δ s fun a => getC δ ss fun l => k (a :: l)
@[reducible] def setManyC {R : Type} : List D → List Nat → List D → (List D → R) → R
  | δ, [], _, k => k δ
  | δ, s :: ss, [], k => setC δ s .bad fun δ => setManyC δ ss [] k
  | δ, s :: ss, d :: ds, k => setC δ s d fun δ => setManyC δ ss ds k
@[reducible] def memN : Nat → List Nat → Bool
  | _, [] => false
  | n, m :: l => match Nat.beq n m with
    | true => true
    | false => memN n l
end small

def D.cells : D → List D
  | .agg l => l
  | d => [d]
def D.single : D → Bool
  | .v _ | .arr .. | .ptr _ | .clo .. | .ifc | .raw _ => true
  | _ => false
def D.width (d : D) : Nat := d.cells.length
def D.isV : D → Bool
  | .v _ => true
  | .agg l => l.all fun | .v _ => true | _ => false
  | _ => false

/-- A value of one cell that leads to no memory. -/
def flat : Value → Bool
  | .bool _ | .int .. | .string _ | .nilFunc | .nilIface | .pointer none => true
  | .slice none 0 0 => true
  | _ => false

/-! ### what the operations compute, on data -/

def intBin (op : BinOp) (k : IntKind) (a b : Int) : Option D :=
  match op with
  | .add => some (.v (.int k (k.wrap (a + b))))
  | .sub => some (.v (.int k (k.wrap (a - b))))
  | .mul => some (.v (.int k (k.wrap (a * b))))
  | .quo => if b = 0 then none else some (.v (.int k (k.wrap (a.tdiv b))))
  | .rem => if b = 0 then none else some (.v (.int k (a.tmod b)))
  | .and | .or | .xor | .andNot => some (.v (.int k (bits op k a b)))
  | .eql => some (B (a == b))
  | .neq => some (B (a != b))
  | .lss => some (B (a < b))
  | .leq => some (B (a ≤ b))
  | .gtr => some (B (a > b))
  | .geq => some (B (a ≥ b))
  | .shl | .shr => none

def strBin (op : BinOp) (a b : ByteArray) : Option D :=
  match op with
  | .add => if a.size + b.size ≤ 1152921504606846976 then some (T (a ++ b)) else none
  | .eql => some (B (a.toList == b.toList))
  | .neq => some (B !(a.toList == b.toList))
  | .lss => some (B (Op.bytesLess a.toList b.toList))
  | .leq => some (B (Op.bytesLess a.toList b.toList || a.toList == b.toList))
  | .gtr => some (B !(Op.bytesLess a.toList b.toList || a.toList == b.toList))
  | .geq => some (B !(Op.bytesLess a.toList b.toList))
  | _ => none

/-- '==' of two structs of scalars. -/
def allEq : List Nat → List D → List D → Option Bool
  | [], [], [] => some true
  | 1 :: c, .v (.int k a) :: l, .v (.int k' b) :: m => if k = k' then (allEq c l m).map (a == b && ·) else none
  | 2 :: c, .v (.bool a) :: l, .v (.bool b) :: m => (allEq c l m).map (a == b && ·)
  | 3 :: c, .v (.string a) :: l, .v (.string b) :: m => (allEq c l m).map (a.toList == b.toList && ·)
  | _, _, _ => none

def bin (op : BinOp) (bl : Bool) (eq : List Nat) (x y : D) : Option D :=
  match op, x, y with
  | .shl, .v (.int k a), .v (.int _ b) => if 0 ≤ b then some (.v (.int k (k.wrap (a * 2 ^ min b.toNat k.bits)))) else none
  | .shr, .v (.int k a), .v (.int _ b) => if 0 ≤ b then some (.v (.int k (a.fdiv (2 ^ min b.toNat k.bits)))) else none
  | op, .v (.int k a), .v (.int k' b) => if k = k' then intBin op k a b else none
  | op, .v (.string a), .v (.string b) => strBin op a b
  | .eql, .v (.bool a), .v (.bool b) => if bl then some (B (a == b)) else none
  | .neq, .v (.bool a), .v (.bool b) => if bl then some (B !(a == b)) else none
  | .eql, .agg a, .agg b => if eq = [] then none else (allEq eq a b).map B
  | .neq, .agg a, .agg b => if eq = [] then none else (allEq eq a b).map fun q => B !q
  | _, _, _ => none

/-- A value of an interface's type held against the literal nil. -/
def binI (nc : Bool) (op : BinOp) (x y : D) : Option D :=
  match op, x, y with
  | .eql, .ifc, .v .nilIface => some (B false)
  | .neq, .ifc, .v .nilIface => some (B true)
  | .eql, .v .nilIface, .v .nilIface => if nc then some (B true) else none
  | .neq, .v .nilIface, .v .nilIface => if nc then some (B false) else none
  | _, _, _ => none

/-- A slice held against the literal nil: one that is known to be nil, or one that has elements. -/
def binN (op : BinOp) (x : D) : Option D :=
  match op, x with
  | .eql, .v (.slice none 0 0) => some (B true)
  | .neq, .v (.slice none 0 0) => some (B false)
  | .eql, .arr _ (_ :: _) => some (B false)
  | .neq, .arr _ (_ :: _) => some (B true)
  | _, _ => none

def un (op : UnOp) (x : D) : Option D :=
  match op, x with
  | .neg, .v (.int k n) => some (.v (.int k (k.wrap (0 - n))))
  | .not, .v (.bool b) => some (B !b)
  | _, _ => none

def pickD (c a b : D) : Option D :=
  match c with
  | .v (.bool true) => some a
  | .v (.bool false) => some b
  | _ => none

def lenD (str : Bool) (x : D) : Option D :=
  match str, x with
  | false, .arr _ l => some (I l.length)
  | true, .v (.string s) => some (I s.size)
  | _, _ => none

/-- The cells of element i. -/
def elemD (z : Nat) (x i : D) : Option (List D) :=
  match x, i with
  | .arr z' l, .v (.int _ n) => if z' = z ∧ 0 ≤ n then (l[n.toNat]?).map D.cells else none
  | _, _ => none

/-- A value of n cells (a struct where agg says so) at the head of some cells. -/
def takeD (ag : Bool) (n : Nat) (l : List D) : Option D :=
  if ag then (if n ≤ l.length then some (.agg (l.take n)) else none) else l.head?

def charD (x i : D) : Option D :=
  match x, i with
  | .v (.string s), .v (.int _ n) => if 0 ≤ n then (s.data.toList[n.toNat]?).map fun b => U b.toNat else none
  | _, _ => none

def sliceD (str : Bool) (z : Nat) (x lo hi : D) : Option D :=
  match str, x, lo, hi with
  | false, .arr z' l, .v (.int _ a), .v (.int _ b) => if z' = z ∧ 0 ≤ a ∧ a ≤ b ∧ b ≤ l.length then some (.arr z ((l.take b.toNat).drop a.toNat)) else none
  | true, .v (.string s), .v (.int _ a), .v (.int _ b) => if 0 ≤ a ∧ a ≤ b ∧ b ≤ s.size then some (T (s.extract a.toNat b.toNat)) else none
  | _, _, _, _ => none

/-- Only scalars. -/
def chkV (d : D) : Option D := if d.isV then some d else none

def appD (z eb : Nat) (x y : D) : Option D :=
  match x, y with
  | .arr a l, .arr b m => if (a = z ∨ l = []) ∧ (b = z ∨ m = []) ∧ (l.length + m.length) * eb ≤ 140737488355328 ∧ l.length + m.length ≤ 1152921504606846976 then some (.arr z (l ++ m)) else none
  | _, _ => none

end Go.V
/-
  A value-level evaluator of the model's Code: the operations and the evaluator.
-/
namespace Go.V

/-- An operation: the slots that it reads; those whose value it writes (hw); those whose contents alone it writes (cw); what it computes. -/
inductive Ac where
  | one (rd : List Nat) (d : Nat) (h : List D → Option D)
  | many (rd hw cw : List Nat) (fn : List D → (List D → Option Out) → Option Out)

/-! ### kept: what stands in the evaluated text -/
def ifD (c : D) (t e : Option Out) : Option Out :=
  match c with
  | .v (.bool true) => t
  | .v (.bool false) => e
  | _ => none
def gate (v : D) (g : D) (pol : Bool) (r : Option D) : Option D :=
  match g with
  | .v (.bool b) => if b = pol then r else some v
  | .tup _ => some v
  | _ => none
/-- A whole operation under a guard; 'alt': what it would write, if it is passed over. -/
def gateC (g : D) (pol : Bool) (r : Option Out) (alt : List D) (k : List D → Option Out) : Option Out :=
  match g with
  | .v (.bool b) => if b = pol then (match r with
    | some (.nrm l) => k l
    | _ => none) else k alt
  | .tup _ => k alt
  | _ => none
def callK (r : Option Out) (k : List D → List D → Option Out) : Option Out :=
  match r with
  | some (.ret rs us) => k rs us
  | _ => none
def fldD (ag : Bool) (n off : Nat) (d : D) : Option D :=
  match d with
  | .agg l => takeD ag n (l.drop off)
  | _ => none
def ldD (ag : Bool) (n : Nat) (d : D) : Option D :=
  match d with
  | .ptr l => takeD ag n l
  | _ => none
def offD (off : Nat) (d : D) : Option D :=
  match d with
  | .ptr l => some (.ptr (l.drop off))
  | _ => none
/-- The cells at a place in an owned object. -/
def atD (o r : D) : Option (List D) :=
  match o, r with
  | .arr _ l, .ref i f => (l[i]?).map fun d => d.cells.drop f
  | .agg l, .ref _ f => some (l.drop f)
  | _, _ => none
def D.ofCells (old : D) (cs : List D) : D :=
  match old, cs with
  | .agg _, cs => .agg cs
  | _, c :: _ => c
  | d, [] => d
def putCells (l : List D) (f : Nat) (vs : List D) : List D := l.take f ++ vs ++ l.drop (f + vs.length)
/-- An owned object after a store. -/
def stD (n : Nat) (o r x : D) : Option D :=
  match o, r with
  | .arr z l, .ref i f => match l[i]? with
    | some d => if x.cells.length = n ∧ f + n ≤ d.width ∧ x.cells.all D.single then some (.arr z (l.set i (d.ofCells (putCells d.cells f x.cells)))) else none
    | none => none
  | .agg l, .ref _ f => if x.cells.length = n ∧ f + n ≤ l.length ∧ x.cells.all D.single then some (.agg (putCells l f x.cells)) else none
  | _, _ => none
def refI (z : Nat) (o i : D) : Option D :=
  match o, i with
  | .arr z' l, .v (.int _ n) => if z' = z ∧ 0 ≤ n ∧ n < l.length then some (.ref n.toNat 0) else none
  | _, _ => none
def refA (len z : Nat) (o r i : D) : Option D :=
  match o, r, i with
  | .bad, _, _ => none
  | _, .ref j f, .v (.int _ n) => if 0 ≤ n ∧ n < len then some (.ref j (f + n.toNat * z)) else none
  | _, _, _ => none
def refF (off : Nat) (o r : D) : Option D :=
  match o, r with
  | .bad, _ => none
  | _, .ref i f => some (.ref i (f + off))
  | _, _ => none
def liveD (d : D) (x : D) : Option D :=
  match d with
  | .bad => none
  | _ => some x
def lenOkD (z n : Nat) (l : List D) : Bool := l.all fun d => d.width == z && (d.single || (match d with | .agg c => c.all D.single | _ => false)) && decide (l.length = n)
def mkArr (z : Nat) (l : List D) : Option D := if lenOkD z l.length l then some (.arr z l) else none
def makD (z eb : Nat) (x : D) (n c : D) : Option D :=
  match n, c with
  | .v (.int _ a), .v (.int _ b) => if 0 ≤ a ∧ a ≤ b ∧ b * (eb : Int) ≤ 140737488355328 ∧ b ≤ 140737488355328 then some (.arr z (List.replicate a.toNat x)) else none
  | _, _ => none
def boxD (n : Nat) (x : D) : Option D := if x.cells.length = n ∧ x.cells.all D.single then some (.agg x.cells) else none
/-- A box that is plain data from its birth. -/
def frzD (y : D) : Option D :=
  match y with
  | .agg l => some (.ptr l)
  | _ => none
def cloD (f : Nat) (ds : List D) : Option D := if ds.all D.single then some (.clo f ds) else none
/-- What a closure of function f has captured: n values. -/
def capsD (f n : Nat) (cl : D) : Option (List D) :=
  match cl with
  | .clo g l => if g = f ∧ l.length = n ∧ l.all D.single then some l else none
  | _ => none
def tupAt (t : D) (i : Nat) : Option D :=
  match t with
  | .tup l => match l[i]? with
    | some .bad => none
    | some (.tup _) => none
    | r => r
  | _ => none
def tupCut (t : D) (i : Nat) : D :=
  match t with
  | .tup l => .tup (l.set i .bad)
  | d => d
def arrD (z : Nat) (d : D) : Option D :=
  match d with
  | .arr z' l => if z' = z ∨ l = [] then some (.arr z l) else none
  | _ => none
def aggL (ds : List D) (cs : List D) : Option D := if ds.length = cs.length ∧ cs.all D.single then some (.agg cs) else none

/-! ### operands -/
@[reducible] def constD : Value → D
  | .slice _ _ _ => .arr 0 []
  | v => .v v
@[reducible] def okC : Value → Bool
  | .slice none 0 0 => true
  | .bool _ => true
  | .int _ _ => true
  | .string _ => true
  | .nilFunc => true
  | .nilIface => true
  | .pointer none => true
  | _ => false
@[reducible] def rdOf : List Operand → List Nat
  | [] => []
  | .tmp t :: xs => t :: rdOf xs
  | _ :: xs => rdOf xs
@[reducible] def valsOf : List Operand → List D → List D
  | [], _ => []
  | .tmp _ :: xs, i :: is => i :: valsOf xs is
  | .tmp _ :: xs, [] => .bad :: valsOf xs []
  | .const c :: xs, is => constD c :: valsOf xs is
  | .func f :: xs, is => .clo f [] :: valsOf xs is
  | .global _ :: xs, is => .bad :: valsOf xs is
@[reducible] def opD (δ : List D) : Operand → D
  | .tmp t => nth δ t
  | .const c => constD c
  | .func f => .clo f []
  | .global _ => .bad

@[reducible] def maxN (a b : Nat) : Nat := match Nat.ble a b with
  | true => b
  | false => a
/-- The level of an operand's data: 0 scalars, 1 new memory, 2 any memory; 9: no data. -/
@[reducible] def lvOf (K : List Kd) : Operand → Nat
  | .tmp t => match nthK K t with
    | .dat lv => lv
    | _ => 9
  | .const v => match okC v with
    | true => 0
    | false => 9
  | .func _ => 0
  | .global _ => 9
@[reducible] def lvAll (K : List Kd) : List Operand → Nat
  | [] => 0
  | x :: xs => maxN (lvOf K x) (lvAll K xs)

/-- A data operation: from level 'lv' into the slot d. -/
@[reducible] def dataOp (c : Cx) (dst : Option Nat) (xs : List Operand) (lv : Nat) (h : List D → Option D) : Option Ac :=
  match dst with
  | none => none
  | some d => match nthK c.K d with
    | .dat l => match Nat.ble (lvAll c.K xs) 2 with
      | false => none
      | true => match Nat.ble lv l with
        | true => some (.one (rdOf xs) d fun is => h (valsOf xs is))
        | false => match Nat.beq l 0 with
          | true => some (.one (rdOf xs) d fun is => (h (valsOf xs is)).bind chkV)
          | false => none
    | _ => none

@[reducible] def withT (c : Cx) (t : Nat) (f : TI → Option Ac) : Option Ac := match look c.T t with
  | some i => f i
  | none => none

@[reducible] def fieldOf (c : Cx) (i : TI) (f : Nat) : Option (Nat × TI) := match nthO i.fs f with
  | some (off, ty) => match look c.T ty with
    | some j => some (off, j)
    | none => none
  | none => none

@[reducible] def arg1 (h : D → Option D) : List D → Option D
  | [a] => h a
  | _ => none
@[reducible] def arg2 (h : D → D → Option D) : List D → Option D
  | [a, b] => h a b
  | _ => none
@[reducible] def arg3 (h : D → D → D → Option D) : List D → Option D
  | [a, b, x] => h a b x
  | _ => none

/-- The owner of what a temporary stands for: itself, or the slot that it is a copy of. -/
@[reducible] def rootOf (K : List Kd) (t : Nat) : Option Nat :=
  match nthK K t with
  | .own _ _ _ => some t
  | .box _ _ _ => some t
  | .via r => some r
  | .ref r => some r
  | _ => none

@[reducible] def deps (r : Nat) : List Kd → Nat → List Nat
  | [], _ => []
  | .via q :: K, s => match Nat.beq q r with
    | true => s :: deps r K (Nat.succ s)
    | false => deps r K (Nat.succ s)
  | .ref q :: K, s => match Nat.beq q r with
    | true => s :: deps r K (Nat.succ s)
    | false => deps r K (Nat.succ s)
  | _ :: K, s => deps r K (Nat.succ s)
@[reducible] def depsAll (K : List Kd) : List Nat → List Nat
  | [] => []
  | r :: rs => app (deps r K 0) (depsAll K rs)

end Go.V
/-
  A value-level evaluator of the model's Code: what each operation does, and the evaluator.
-/
namespace Go.V

def convD (ik : Option IntKind) (str : Bool) (x : D) : Option D :=
  match ik, str, x with
  | some k, _, .v (.int _ n) => some (.v (.int k (k.wrap n)))
  | none, true, .v (.string s) => some (T s)
  | _, _, _ => none
def bytesOf : List D → Option (List UInt8)
  | [] => some []
  | .v (.int .u8 n) :: l => (bytesOf l).map (UInt8.ofNat n.toNat :: ·)
  | _ => none
def strD (x : D) : Option D :=
  match x with
  | .arr _ l => (bytesOf l).map fun b => T ⟨b.toArray⟩
  | _ => none
def minD (x y : D) : Option D :=
  match x, y with
  | .v (.int k a), .v (.int _ b) => some (.v (.int k (if b < a then b else a)))
  | _, _ => none
def maxD (x y : D) : Option D :=
  match x, y with
  | .v (.int k a), .v (.int _ b) => some (.v (.int k (if a < b then b else a)))
  | _, _ => none
def nilD (x : D) : Option D :=
  match x with
  | .ptr l => some (.ptr l)
  | .clo f l => some (.clo f l)
  | _ => none
def refAdd (off : Nat) (r : D) : Option D :=
  match r with
  | .ref i f => some (.ref i (f + off))
  | _ => none
def ref0 (r x : D) : Option D :=
  match r with
  | .ref 0 0 => some x
  | _ => none
def ixD (len z : Nat) (x i : D) : Option D :=
  match x, i with
  | .ptr l, .v (.int _ n) => if 0 ≤ n ∧ n < len then some (.ptr (l.drop (n.toNat * z))) else none
  | _, _ => none
def ixA (ag : Bool) (len z : Nat) (x i : D) : Option D :=
  match x, i with
  | .agg l, .v (.int _ n) => if 0 ≤ n ∧ n < len then takeD ag z (l.drop (n.toNat * z)) else none
  | _, _ => none
def refIx (len z : Nat) (r i : D) : Option D :=
  match r, i with
  | .ref j f, .v (.int _ n) => if 0 ≤ n ∧ n < len then some (.ref j (f + n.toNat * z)) else none
  | _, _ => none
/-- A struct out of its parts: offset, number of cells, value. -/
def fillD : List (Nat × Nat) → List D → List D → Option (List D)
  | (off, n) :: ps, x :: xs, cs => if x.cells.length = n ∧ off + n ≤ cs.length ∧ x.cells.all D.single then fillD ps xs (putCells cs off x.cells) else none
  | [], [], cs => some cs
  | _, _, _ => none
def bldD (ps : List (Nat × Nat)) (z : List D) (xs : List D) : Option D := (fillD ps xs z).map .agg
def sliceHi (str : Bool) (z : Nat) (x lo : D) : Option D :=
  match str, x, lo with
  | false, .arr z' l, .v (.int _ a) => if z' = z ∧ 0 ≤ a ∧ a ≤ l.length then some (.arr z (l.drop a.toNat)) else none
  | true, .v (.string s), .v (.int _ a) => if 0 ≤ a ∧ a ≤ s.size then some (T (s.extract a.toNat s.size)) else none
  | _, _, _ => none

@[reducible] def zeroD (e : TI) : D :=
  match e.agg with
  | true => .agg e.zero
  | false => match e.zero with
    | v :: _ => v
    | [] => .bad

@[reducible] def sameKs : List Kd → List Kd → Bool
  | [], [] => true
  | .dat a :: l, .dat b :: m => match Nat.beq a b with
    | true => sameKs l m
    | false => false
  | .own z a false :: l, .own y b false :: m => match Nat.beq a b, Nat.beq z y with
    | true, true => sameKs l m
    | _, _ => false
  | _, _ => false
/-- A copy, or a change of owner. 'z': the size of the elements, where the type is a slice. -/
@[reducible] def mvOf (c : Cx) (dst : Option Nat) (x : Operand) (ty : Nat) : Option Ac :=
  match x with
  | .tmp t => match nthK c.K t with
    | .own z lv io => match dst with
      | none => none
      | some d => match nthK c.K d with
        | .via r => match Nat.beq r t with
          | true => some (.one [t] d fun is => (arg1 fun x => liveD x (.ref 0 0)) is)
          | false => none
        | .own z' lv' false => match io, Nat.beq z z', Nat.ble lv lv' with
          | false, true, true => some (.many [t] [d, t] [] fun is k => nthC is 0 fun x => k [x, .bad])
          | _, _, _ => none
        | .dat lv' => match io, Nat.ble 1 lv', Nat.ble lv lv' with
          | false, true, true => some (.many [t] [d, t] [] fun is k => nthC is 0 fun x => k [x, .bad])
          | _, _, _ => none
        | _ => none
    | .via r => match dst with
      | none => none
      | some d => match nthK c.K r with
        | .own z lv io => match nthK c.K d with
          | .via r' => match Nat.beq r r' with
            | true => some (.one [t] d fun is => (arg1 fun x => liveD x (.ref 0 0)) is)
            | false => none
          | .own z' lv' false => match io, Nat.beq z z', Nat.ble lv lv' with
            | false, true, true => some (.many [t, r] [d, r] [] fun is k => nthC is 0 fun p => nthC is 1 fun x => (liveD p x).bind fun y => k [y, .bad])
            | _, _, _ => none
          | .dat lv' => match io, Nat.ble 1 lv', Nat.ble lv lv' with
            | false, true, true => some (.many [t, r] [d, r] [] fun is k => nthC is 0 fun p => nthC is 1 fun x => (liveD p x).bind fun y => k [y, .bad])
            | _, _, _ => none
          | _ => none
        | _ => none
    | .box _ _ _ => match dst with
      | none => none
      | some d => match nthK c.K d with
        | .ref r => match Nat.beq r t with
          | true => some (.one [t] d fun is => (arg1 fun x => liveD x (.ref 0 0)) is)
          | false => none
        | _ => none
    | .ref r => match dst with
      | none => none
      | some d => match nthK c.K d with
        | .ref r' => match Nat.beq r r' with
          | true => some (.one [t] d fun is => (arg1 fun x => liveD x x) is)
          | false => none
        | _ => none
    | .dat lv => dataOp c dst [x] lv (arg1 some)
    | .tup ms => match dst with
      | none => none
      | some d => match nthK c.K d with
        | .tup ns => match sameKs ms ns, Nat.beq d t with
          | true, false => some (.many [t] [d, t] [] fun is k => nthC is 0 fun x => k [x, .bad])
          | _, _ => none
        | _ => none
    | _ => none
  | .const (.slice none 0 0) => match dst with
    | none => none
    | some d => match nthK c.K d with
      | .own z _ false => some (.many [] [d] [] fun _ k => k [.arr z []])
      | .dat _ => match memN d c.N with
        | true => dataOp c dst [x] 0 (fun _ => some (.v (.slice none 0 0)))
        | false => withT c ty fun i => dataOp c dst [x] 0 (fun _ => some (.arr i.ez []))
      | _ => none
  | x => dataOp c dst [x] (lvOf c.K x) (arg1 some)

@[reducible] def mapO {α β : Type} (f : α → β) : Option α → Option β
  | none => none
  | some a => some (f a)
/-- A load through an owner's slot: 'chk' where the level falls. -/
@[reducible] def lvFit (lv l : Nat) (h : List D → Option D) : Option (List D → Option D) :=
  match Nat.ble lv l with
  | true => some h
  | false => match Nat.beq l 0 with
    | true => some fun is => (h is).bind chkV
    | false => none

@[reducible] def rootLv (K : List Kd) (r : Nat) : Nat :=
  match nthK K r with
  | .own _ lv _ => lv
  | .box _ lv _ => lv
  | _ => 9
@[reducible] def isOwn (K : List Kd) (r : Nat) : Bool :=
  match nthK K r with
  | .own _ _ _ => true
  | _ => false
@[reducible] def ownZ (K : List Kd) (r : Nat) : Nat :=
  match nthK K r with
  | .own z _ _ => z
  | _ => 0
@[reducible] def isBox (K : List Kd) (r : Nat) : Bool :=
  match nthK K r with
  | .box _ _ _ => true
  | _ => false
@[reducible] def mayGive (K : List Kd) (r : Nat) : Bool :=
  match nthK K r with
  | .own _ _ false => true
  | _ => false

@[reducible] def ldOf (c : Cx) (dst : Option Nat) (i : TI) (p : Operand) : Option Ac :=
  match p with
  | .tmp q => match nthK c.K q with
    | .dat lv => dataOp c dst [p] lv (arg1 (ldD i.agg i.n))
    | .box _ lv _ => match dst with
      | none => none
      | some d => match nthK c.K d with
        | .dat l => mapO (fun h => .one [q] d h) (lvFit lv l (fun is => fldD i.agg i.n 0 (nth is 0)))
        | _ => none
    | .ref r => match dst with
      | none => none
      | some d => match nthK c.K d with
        | .dat l => mapO (fun h => .one [q, r] d h) (lvFit (rootLv c.K r) l (fun is => (atD (nth is 1) (nth is 0)).bind (takeD i.agg i.n)))
        | _ => none
    | _ => none
  | _ => none

@[reducible] def rdP (q r : Nat) : List Nat :=
  match Nat.beq q r with
  | true => [r]
  | false => [q, r]
@[reducible] def goP (q r : Nat) (is : List D) (k : D → D → List D → Option Out) : Option Out :=
  match Nat.beq q r with
  | true => match is with
    | b :: is => k b (.ref 0 0) is
    | [] => none
  | false => match is with
    | p :: b :: is => k b p is
    | _ => none
@[reducible] def stK (chk : Bool) (n : Nat) (b p y : D) (k : D → Option Out) : Option Out :=
  match chk with
  | true => (chkV y).bind fun y => (stD n b p y).bind k
  | false => (stD n b p y).bind k

/-- What is stored: data, or an owned slice that is given up. -/
@[reducible] def stTo (c : Cx) (i : TI) (q r lv : Nat) (x : Operand) : Option Ac :=
  match x with
  | .tmp s => match nthK c.K s with
    | .dat l => match Nat.ble l lv, Nat.beq lv 0 with
      | true, _ => some (.many (app (rdP q r) [s]) [] [r] fun is k => goP q r is fun b p is => nthC is 0 fun y => stK false i.n b p y fun b => k [b])
      | false, true => some (.many (app (rdP q r) [s]) [] [r] fun is k => goP q r is fun b p is => nthC is 0 fun y => stK true i.n b p y fun b => k [b])
      | false, false => none
    | .own _ l false => match Nat.ble 1 lv, Nat.ble l lv, Nat.beq s r with
      | true, true, false => some (.many (app (rdP q r) [s]) [s] [r] fun is k => goP q r is fun b p is => nthC is 0 fun y => stK false i.n b p y fun b => k [.bad, b])
      | _, _, _ => none
    | _ => none
  | .global _ => none
  | .const v => match okC v with
    | true => some (.many (app (rdP q r) []) [] [r] fun is k => goP q r is fun b p _ => stK false i.n b p (constD v) fun b => k [b])
    | false => none
  | .func f => some (.many (app (rdP q r) []) [] [r] fun is k => goP q r is fun b p _ => stK false i.n b p (.clo f []) fun b => k [b])
@[reducible] def stOf (c : Cx) (i : TI) (p x : Operand) : Option Ac :=
  match p with
  | .tmp q => match nthK c.K q with
    | .box _ lv _ => stTo c i q q lv x
    | .ref r => stTo c i q r (rootLv c.K r) x
    | _ => none
  | _ => none

@[reducible] def faOf (c : Cx) (dst : Option Nat) (i : TI) (f : Nat) (p : Operand) : Option Ac :=
  match p, fieldOf c i f with
  | .tmp q, some (off, _) => match nthK c.K q with
    | .dat lv => dataOp c dst [p] lv (arg1 (offD off))
    | .box _ _ _ => match dst with
      | none => none
      | some d => match nthK c.K d with
        | .ref r => match Nat.beq r q with
          | true => some (.one [q] d (arg1 fun b => liveD b (.ref 0 off)))
          | false => none
        | _ => none
    | .ref r => match dst with
      | none => none
      | some d => match nthK c.K d with
        | .ref r' => match Nat.beq r r' with
          | true => some (.one [q] d (arg1 (refAdd off)))
          | false => none
        | _ => none
    | _ => none
  | _, _ => none

@[reducible] def okDat (K : List Kd) (x : Operand) : Bool := Nat.ble (lvOf K x) 2

@[reducible] def isSl (i : TI) : Bool :=
  match i.alen, i.ez with
  | 0, 0 => false
  | 0, _ => true
  | _, _ => false

@[reducible] def iaOf (c : Cx) (dst : Option Nat) (i : TI) (x ix : Operand) : Option Ac :=
  match x, okDat c.K ix with
  | .tmp q, true => match isSl i with
    | true => match nthK c.K q with
      | .dat lv => dataOp c dst [x, ix] lv (arg2 fun x j => (elemD i.ez x j).map .ptr)
      | .own _ _ _ => match dst with
        | none => none
        | some d => match nthK c.K d with
          | .ref r => match Nat.beq r q with
            | true => some (.one (q :: rdOf [ix]) d fun is => match is with
              | b :: is => arg1 (refI i.ez b) (valsOf [ix] is)
              | [] => none)
            | false => none
          | _ => none
      | .via r => match dst with
        | none => none
        | some d => match nthK c.K d with
          | .ref r' => match Nat.beq r r', isOwn c.K r with
            | true, true => some (.one (q :: r :: rdOf [ix]) d fun is => match is with
              | p :: b :: is => (liveD p b).bind fun b => arg1 (refI i.ez b) (valsOf [ix] is)
              | _ => none)
            | _, _ => none
          | _ => none
      | _ => none
    | false => match i.alen with
     | 0 => none
     | len => match nthK c.K q with
      | .dat lv => dataOp c dst [x, ix] lv (arg2 (ixD len i.ez))
      | .box _ _ _ => match dst with
        | none => none
        | some d => match nthK c.K d with
          | .ref r => match Nat.beq r q with
            | true => some (.one (q :: rdOf [ix]) d fun is => match is with
              | b :: is => (liveD b (.ref 0 0)).bind fun p => arg1 (refIx len i.ez p) (valsOf [ix] is)
              | [] => none)
            | false => none
          | _ => none
      | .ref r => match dst with
        | none => none
        | some d => match nthK c.K d with
          | .ref r' => match Nat.beq r r' with
            | true => some (.one (q :: rdOf [ix]) d fun is => match is with
              | p :: is => arg1 (refIx len i.ez p) (valsOf [ix] is)
              | [] => none)
            | false => none
          | _ => none
      | _ => none
  | _, _ => none

/-- What a new owned slice may lie in. -/
@[reducible] def newIn (K : List Kd) (d z lv : Nat) : Bool :=
  match nthK K d with
  | .own z' l false => match Nat.beq z z' with
    | true => Nat.ble lv l
    | false => false
  | .dat l => match Nat.ble 1 l with
    | true => Nat.ble lv l
    | false => false
  | _ => false

@[reducible] def iotaN : Nat → List (Nat × Operand) → Nat → Bool
  | k, [], n => Nat.beq k n
  | k, (i, _) :: ps, n => match Nat.beq i k with
    | true => iotaN (Nat.succ k) ps n
    | false => false

@[reducible] def bsOf (c : Cx) (dst : Option Nat) (i : TI) (n : Nat) (parts : List (Nat × Operand)) : Option Ac :=
  let xs := mapD (fun p => p.2) parts
  match dst with
  | none => none
  | some d =>
    match iotaN 0 parts n, Nat.ble (n * i.ez) 16777216, newIn c.K d i.ez (lvAll c.K xs), Nat.ble (lvAll c.K xs) 2 with
    | true, true, true, true => some (.many (rdOf xs) [d] [] fun is k => (mkArr i.ez (valsOf xs is)).bind fun a => k [a])
    | _, _, _, _ => none

/-- A slice that is read as a whole: data, or what a slot owns. -/
@[reducible] def srcOf (K : List Kd) (x : Operand) : Option (List Nat × Nat × Option Nat) :=
  match x with
  | .tmp t => match nthK K t with
    | .dat lv => some ([t], lv, none)
    | .own _ lv _ => some ([t], lv, some t)
    | .via r => match nthK K r with
      | .own _ lv _ => some ([t, r], lv, some r)
      | _ => none
    | _ => none
  | .const (.slice none 0 0) => some ([], 0, none)
  | _ => none
@[reducible] def srcVal (rd : List Nat) (is : List D) (k : D → Option Out) : Option Out :=
  match rd with
  | [] => k (.arr 0 [])
  | [_] => nthC is 0 k
  | _ => nthC is 0 fun p => nthC is 1 fun x => (liveD p x).bind k
@[reducible] def dropN {α : Type} : Nat → List α → List α
  | 0, l => l
  | _ + 1, [] => []
  | n + 1, _ :: l => dropN n l
@[reducible] def lenN {α : Type} : List α → Nat
  | [] => 0
  | _ :: l => Nat.succ (lenN l)

@[reducible] def neO : Option Nat → Option Nat → Bool
  | some a, some b => match Nat.beq a b with
    | true => false
    | false => true
  | _, _ => true

/-- A slice of scalars, or of structs of scalars. -/
def chkA (d : D) : Option D :=
  match d with
  | .arr z l => if l.all D.isV then some (.arr z l) else none
  | _ => none
@[reducible] def chkK (chk : Bool) (b : D) (k : D → Option Out) : Option Out :=
  match chk with
  | true => (chkA b).bind k
  | false => k b
@[reducible] def apTo (c : Cx) (d : Nat) (i : TI) (chk : Bool) (rs rx : List Nat) (os : Option Nat) : Option Ac :=
  match os with
  | some r => match mayGive c.K r, Nat.beq (ownZ c.K r) i.ez with
    | true, true => some (.many (app rs rx) [d, r] [] fun is k => srcVal rs is fun a => srcVal rx (dropN (lenN rs) is) fun b => chkK chk b fun b => (appD i.ez i.eb a b).bind fun y => k [y, .bad])
    | _, _ => none
  | none => match rs with
    | [] => some (.many rx [d] [] fun is k => srcVal rx is fun b => chkK chk b fun b => (appD i.ez i.eb (.arr 0 []) b).bind fun y => k [y])
    | _ => none
@[reducible] def apOf (c : Cx) (dst : Option Nat) (i : TI) (s x : Operand) : Option Ac :=
  match dst, srcOf c.K s, srcOf c.K x with
  | some d, some (rs, ls, os), some (rx, lx, ox) =>
    match neO os ox, newIn c.K d i.ez (maxN ls lx), newIn c.K d i.ez ls with
    | true, true, _ => apTo c d i false rs rx os
    | true, false, true => apTo c d i true rs rx os
    | _, _, _ => none
  | _, _, _ => none

@[reducible] def lnOf (c : Cx) (dst : Option Nat) (str : Bool) (x : Operand) : Option Ac :=
  match x with
  | .tmp t => match nthK c.K t with
    | .dat _ => dataOp c dst [x] 0 (arg1 (lenD str))
    | _ => match dst, srcOf c.K x with
      | some d, some (rd, _, _) => match nthK c.K d with
        | .dat _ => some (.one rd d fun is => match rd with
          | [_] => lenD str (nth is 0)
          | _ => (liveD (nth is 0) (nth is 1)).bind (lenD str))
        | _ => none
      | _, _ => none
  | _ => dataOp c dst [x] 0 (arg1 (lenD str))

@[reducible] def loOf : Option Operand → Operand
  | some l => l
  | none => .const (.int .i64 0)
/-- A part of an owned slice. -/
@[reducible] def slOwn (c : Cx) (dst : Option Nat) (i : TI) (x : Operand) (lo hi : Option Operand) : Option Ac :=
  match dst, srcOf c.K x with
  | some d, some (rd, lv, some r) => match mayGive c.K r, newIn c.K d i.ez lv, okDat c.K (loOf lo), i.str with
    | true, true, true, false => match hi with
      | some h => match okDat c.K h with
        | true => some (.many (app rd (rdOf [loOf lo, h])) [d, r] [] fun is k => srcVal rd is fun b =>
            (arg2 (sliceD false i.ez b) (valsOf [loOf lo, h] (dropN (lenN rd) is))).bind fun y => k [y, .bad])
        | false => none
      | none => some (.many (app rd (rdOf [loOf lo])) [d, r] [] fun is k => srcVal rd is fun b =>
            (arg1 (sliceHi false i.ez b) (valsOf [loOf lo] (dropN (lenN rd) is))).bind fun y => k [y, .bad])
    | _, _, _, _ => none
  | _, _ => none
/-- A part of a slice. -/
@[reducible] def slOf (c : Cx) (dst : Option Nat) (i : TI) (x : Operand) (lo hi : Option Operand) : Option Ac :=
  match x with
  | .tmp q => match nthK c.K q with
    | .dat lv => match hi with
      | some h => dataOp c dst [x, loOf lo, h] lv (arg3 (sliceD i.str i.ez))
      | none => dataOp c dst [x, loOf lo] lv (arg2 (sliceHi i.str i.ez))
    | .own _ _ _ => slOwn c dst i x lo hi
    | .via _ => slOwn c dst i x lo hi
    | _ => none
  | _ => none

@[reducible] def mkOf (c : Cx) (dst : Option Nat) (i e : TI) (n m : Operand) : Option Ac :=
  match dst, okDat c.K n, okDat c.K m with
  | some d, true, true => match newIn c.K d i.ez 0 with
    | true => some (.many (rdOf [n, m]) [d] [] fun is k => (match valsOf [n, m] is with
        | [a, b] => makD i.ez i.eb (zeroD e) a b
        | _ => none).bind fun y => k [y])
    | false => none
  | _, _, _ => none

@[reducible] def bxOf (c : Cx) (dst : Option Nat) (i : TI) (x : Operand) : Option Ac :=
  match dst with
  | none => none
  | some d => match nthK c.K d with
    | .box n l false => match Nat.beq n i.n, okDat c.K x with
      | true, true => match Nat.ble (lvOf c.K x) l with
        | true => some (.many (rdOf [x]) [d] [] fun is k => (arg1 (boxD n) (valsOf [x] is)).bind fun y => k [y])
        | false => match Nat.beq l 0 with
          | true => some (.many (rdOf [x]) [d] [] fun is k => (arg1 (fun x => (chkV x).bind (boxD n)) (valsOf [x] is)).bind fun y => k [y])
          | false => none
      | _, _ => none
    | .dat l => match okDat c.K x, Nat.ble 1 l, Nat.ble (lvOf c.K x) l with
      | true, true, true => some (.many (rdOf [x]) [d] [] fun is k => (arg1 (boxD i.n) (valsOf [x] is)).bind fun y => (frzD y).bind fun y => k [y])
      | _, _, _ => none
    | _ => none
@[reducible] def alOf (c : Cx) (dst : Option Nat) (i : TI) : Option Ac :=
  match dst with
  | none => none
  | some d => match nthK c.K d with
    | .box n _ false => match Nat.beq n i.n with
      | true => some (.many [] [d] [] fun _ k => k [.agg i.zero])
      | false => none
    | _ => none

@[reducible] def exOf (c : Cx) (dst : Option Nat) (x : Operand) (i : Nat) : Option Ac :=
  match dst, x with
  | some d, .tmp t => match nthK c.K t with
    | .tup ms => match nthK ms i with
      | .dat lv => match nthK c.K d with
        | .dat l => match Nat.ble lv l with
          | true => some (.one [t] d fun is => tupAt (nth is 0) i)
          | false => none
        | _ => none
      | .own z lv false => match newIn c.K d z lv with
        | true => some (.many [t] [d, t] [] fun is k => nthC is 0 fun t => (tupAt t i).bind fun y => k [y, tupCut t i])
        | false => none
      | _ => none
    | _ => none
  | _, _ => none

/-! ### calls -/
inductive Ag where
  | d (x : Operand) (chk : Bool)
  | bor (t r : Nat)
  | io (t r : Nat)

@[reducible] def agOf (K : List Kd) (x : Operand) (m : Kd) : Option Ag :=
  match m with
  | .dat l => match x with
    | .tmp t => match nthK K t with
      | .dat lv => match Nat.ble lv l with
        | true => some (.d x false)
        | false => match Nat.beq l 0 with
          | true => some (.d x true)
          | false => none
      | .own _ _ _ => match Nat.beq l 2 with
        | true => some (.bor t t)
        | false => none
      | .via r => match Nat.beq l 2, isOwn K r with
        | true, true => some (.bor t r)
        | _, _ => none
      | _ => none
    | .global _ => none
    | .func _ => some (.d x false)
    | .const v => match okC v with
      | true => some (.d x false)
      | false => none
  | .own z l true => match x with
    | .tmp t => match nthK K t with
      | .own z' lv _ => match Nat.beq z z', Nat.beq l lv with
        | true, true => some (.io t t)
        | _, _ => none
      | .via r => match nthK K r with
        | .own z' lv _ => match Nat.beq z z', Nat.beq l lv with
          | true, true => some (.io t r)
          | _, _ => none
        | _ => none
      | _ => none
    | _ => none
  | .box n l true => match x with
    | .tmp t => match nthK K t with
      | .box n' lv _ => match Nat.beq n n', Nat.beq l lv with
        | true, true => some (.io t t)
        | _, _ => none
      | .ref r => match nthK K r with
        | .box n' lv _ => match Nat.beq n n', Nat.beq l lv with
          | true, true => some (.io t r)
          | _, _ => none
        | _ => none
      | _ => none
    | _ => none
  | _ => none
@[reducible] def agsOf (K : List Kd) : List Operand → List Kd → Option (List Ag)
  | [], [] => some []
  | x :: xs, m :: ms => match agOf K x m, agsOf K xs ms with
    | some a, some l => some (a :: l)
    | _, _ => none
  | _, _ => none
@[reducible] def agRd : List Ag → List Nat
  | [] => []
  | .d x _ :: l => app (rdOf [x]) (agRd l)
  | .bor t r :: l => match Nat.beq t r with
    | true => t :: agRd l
    | false => t :: r :: agRd l
  | .io t r :: l => match Nat.beq t r with
    | true => t :: agRd l
    | false => t :: r :: agRd l
@[reducible] def agIo : List Ag → List Nat
  | [] => []
  | .io _ r :: l => r :: agIo l
  | _ :: l => agIo l
@[reducible] def agBor : List Ag → List Nat
  | [] => []
  | .bor _ r :: l => r :: agBor l
  | _ :: l => agBor l
@[reducible] def nodupN : List Nat → Bool
  | [] => true
  | a :: l => match memN a l with
    | true => false
    | false => nodupN l
@[reducible] def apartN : List Nat → List Nat → Bool
  | [], _ => true
  | a :: l, m => match memN a m with
    | true => false
    | false => apartN l m
@[reducible] def asmK (acc : List D) : List Ag → List D → (List D → Option Out) → Option Out
  | [], _, k => k acc
  | .d x chk :: l, is, k => match x with
    | .tmp _ => match is with
      | i :: is => match chk with
        | false => asmK (app acc [i]) l is k
        | true => (chkV i).bind fun i => asmK (app acc [i]) l is k
      | [] => none
    | .const v => asmK (app acc [constD v]) l is k
    | .func f => asmK (app acc [.clo f []]) l is k
    | .global _ => none
  | .bor t r :: l, is, k => match Nat.beq t r with
    | true => match is with
      | i :: is => asmK (app acc [i]) l is k
      | _ => none
    | false => match is with
      | p :: i :: is => (liveD p i).bind fun i => asmK (app acc [i]) l is k
      | _ => none
  | .io t r :: l, is, k => match Nat.beq t r with
    | true => match is with
      | i :: is => (liveD i i).bind fun i => asmK (app acc [i]) l is k
      | _ => none
    | false => match is with
      | p :: i :: is => (ref0 p i).bind fun i => (liveD i i).bind fun i => asmK (app acc [i]) l is k
      | _ => none

@[reducible] def rmFit (K : List Kd) (d : Nat) : List Kd → Bool
  | [.dat lv] => match nthK K d with
    | .dat l => Nat.ble lv l
    | _ => false
  | [.own z lv false] => newIn K d z lv
  | [] => true
  | ms => match nthK K d with
    | .tup ns => sameKs ms ns
    | _ => false
@[reducible] def noAny : List Kd → Bool
  | [] => true
  | .dat lv :: l => match Nat.ble lv 1 with
    | true => noAny l
    | false => false
  | .own _ lv _ :: l => match Nat.ble lv 1 with
    | true => noAny l
    | false => false
  | _ => false

/-- What a parameter may be. -/
@[reducible] def okPm : List Kd → Bool
  | [] => true
  | .dat lv :: l => match Nat.beq lv 1, Nat.ble lv 2 with
    | false, true => okPm l
    | _, _ => false
  | .own _ lv true :: l => match Nat.beq lv 1, Nat.ble lv 2 with
    | false, true => okPm l
    | _, _ => false
  | .box _ lv true :: l => match Nat.beq lv 1, Nat.ble lv 2 with
    | false, true => okPm l
    | _, _ => false
  | _ => false
@[reducible] def io0 : List Kd → Bool
  | [] => true
  | .own _ lv _ :: l => match Nat.beq lv 0 with
    | true => io0 l
    | false => false
  | .box _ lv _ :: l => match Nat.beq lv 0 with
    | true => io0 l
    | false => false
  | _ :: l => io0 l

@[reducible] def clOf (c : Cx) (dst : Option Nat) (S : FS) (xs : List Operand) : Option Ac :=
  match agsOf c.K xs S.pm with
  | none => none
  | some ags =>
    let ios := agIo ags
    let bor := agBor ags
    let okB := match bor with
      | [] => true
      | _ => match noAny S.rm, io0 S.pm with
        | true, true => apartN bor ios
        | _, _ => false
    match okB, nodupN ios, okPm S.pm with
    | true, true, true => match dst with
      | none => match S.rm with
        | [] => some (.many (agRd ags) [] ios fun is k => asmK [] ags is fun ds => callK (S.f ds) fun _ us => k (outs us ios))
        | _ => none
      | some d => match rmFit c.K d S.rm, memN d ios, S.rm with
        | true, false, [] => some (.many (agRd ags) [d] ios fun is k => asmK [] ags is fun ds => callK (S.f ds) fun _ us => k (.bad :: outs us ios))
        | true, false, [_] => some (.many (agRd ags) [d] ios fun is k => asmK [] ags is fun ds => callK (S.f ds) fun rs us => k (nth rs 0 :: outs us ios))
        | true, false, _ => some (.many (agRd ags) [d] ios fun is k => asmK [] ags is fun ds => callK (S.f ds) fun rs us => k (.tup rs :: outs us ios))
        | _, _, _ => none
    | _, _, _ => none
where
  @[reducible] outs (us : List D) (ios : List Nat) : List D := go us 0 ios
  @[reducible] go (us : List D) : Nat → List Nat → List D
    | _, [] => []
    | j, _ :: l => nth us j :: go us (Nat.succ j) l

@[reducible] def takeN {α : Type} : Nat → List α → List α
  | 0, _ => []
  | _ + 1, [] => []
  | n + 1, a :: l => a :: takeN n l
@[reducible] def allDat2 : List Kd → Bool
  | [] => true
  | .dat lv :: l => match Nat.beq lv 2 with
    | true => allDat2 l
    | false => false
  | _ => false
/-- A call of a closure: what it has captured stands behind the arguments. -/
@[reducible] def clcOf (c : Cx) (dst : Option Nat) (t f : Nat) (S : FS) (xs : List Operand) : Option Ac :=
  match dst, nthK c.K t, S.rm with
  | some d, .dat lt, [.dat lr] => match agsOf c.K xs (takeN (lenN xs) S.pm), nthK c.K d with
    | some ags, .dat l => match Nat.ble lr l, Nat.ble lt 2, okPm (takeN (lenN xs) S.pm), allDat2 (dropN (lenN xs) S.pm), agIo ags, agBor ags with
      | true, true, true, true, [], [] => some (.many (t :: agRd ags) [d] [] fun is k => match is with
        | cl :: is => (capsD f (lenN (dropN (lenN xs) S.pm)) cl).bind fun caps => asmK [] ags is fun ds => callK (S.f (ds ++ caps)) fun rs _ => k [nth rs 0]
        | [] => none)
      | _, _, _, _, _, _ => none
    | _, _ => none
  | _, _, _ => none
@[reducible] def partsFs (c : Cx) (t : TI) : List (Nat × Operand) → Option (List (Nat × Nat))
  | [] => some []
  | (i, _) :: ps => match fieldOf c t i, partsFs c t ps with
    | some (off, ti), some l => some ((off, ti.n) :: l)
    | _, _ => none
@[reducible] def partsAs (z : Nat) : List (Nat × Operand) → List (Nat × Nat)
  | [] => []
  | (i, _) :: ps => (i * z, z) :: partsAs z ps

@[reducible] def foldB (f : D → D → Option D) : D → List D → Option D
  | x, [] => some x
  | x, y :: ys => (f x y).bind fun z => foldB f z ys
@[reducible] def fold1 (f : D → D → Option D) : List D → Option D
  | x :: y :: xs => foldB f x (y :: xs)
  | _ => none

/-- A slice of bytes. -/
@[reducible] def byteE (c : Cx) (i : TI) : Bool :=
  match isSl i with
  | true => match look c.T i.elem with
    | some e => match e.ik with
      | some .u8 => true
      | _ => false
    | none => false
  | false => false
@[reducible] def cvOf (c : Cx) (dst : Option Nat) (si di : TI) (x : Operand) : Option Ac :=
  match di.str, si.str, si.ez with
  | true, false, 1 => match dst, srcOf c.K x with
    | some d, some (rd, _, _) => match nthK c.K d, byteE c si with
      | .dat _, true => some (.one rd d fun is => match rd with
        | [] => none
        | [_] => strD (nth is 0)
        | _ => (liveD (nth is 0) (nth is 1)).bind strD)
      | _, _ => none
    | _, _ => none
  | _, _, _ => dataOp c dst [x] 0 (arg1 (convD di.ik (match di.str with
    | true => si.str
    | false => false)))

@[reducible] def ixOf (c : Cx) (dst : Option Nat) (t : TI) (x i : Operand) : Option Ac :=
  match t.str with
  | true => dataOp c dst [x, i] 0 (arg2 charD)
  | false => match t.alen with
    | 0 => none
    | n => withT c t.elem fun e => dataOp c dst [x, i] (lvOf c.K x) (arg2 (ixA e.agg n t.ez))

@[reducible] def caOf (c : Cx) (dst : Option Nat) (q : Call) : Option Ac :=
  match q.callee, q.args.toList, q.argTypes.toList with
  | .builtin .len, [x], [t] => withT c t fun i => match isSl i, i.str with
    | true, false => lnOf c dst false x
    | false, true => lnOf c dst true x
    | _, _ => none
  | .builtin .append, [s, x], [t, u] => match Nat.beq t u with
    | true => withT c t fun i => withT c i.elem fun _ => match isSl i with
      | true => apOf c dst i s x
      | false => none
    | false => none
  | .builtin .min, xs, _ => dataOp c dst xs 0 (fold1 minD)
  | .builtin .max, xs, _ => dataOp c dst xs 0 (fold1 maxD)
  | .value (.func f), xs, _ => match look c.S f with
    | some S => clOf c dst S xs
    | none => none
  | .value (.tmp t), xs, _ => match look c.C t with
    | some f => match look c.S f with
      | some S => clcOf c dst t f S xs
      | none => none
    | none => none
  | _, _, _ => none

@[reducible] def buOf (c : Cx) (dst : Option Nat) (i : TI) (parts : List (Nat × Operand)) : Option Ac :=
  let xs := mapD (fun p => p.2) parts
  match i.alen, i.agg with
  | 0, true => match partsFs c i parts with
    | some ps => dataOp c dst xs (lvAll c.K xs) (bldD ps i.zero)
    | none => none
  | 0, false => none
  | _, _ => dataOp c dst xs (lvAll c.K xs) (bldD (partsAs i.ez parts) i.zero)

/-- A pointer that is looked at. -/
@[reducible] def ncOf (c : Cx) (dst : Option Nat) (x : Operand) : Option Ac :=
  match x with
  | .tmp t => match nthK c.K t with
    | .box _ _ _ => match dst with
      | none => none
      | some d => match nthK c.K d with
        | .ref r => match Nat.beq r t with
          | true => some (.one [t] d fun is => (arg1 fun x => liveD x (.ref 0 0)) is)
          | false => none
        | _ => none
    | .ref r => match dst with
      | none => none
      | some d => match nthK c.K d with
        | .ref r' => match Nat.beq r r' with
          | true => some (.one [t] d fun is => (arg1 fun x => liveD x x) is)
          | false => none
        | _ => none
    | _ => dataOp c dst [x] (lvOf c.K x) (arg1 nilD)
  | x => dataOp c dst [x] (lvOf c.K x) (arg1 nilD)

@[reducible] def isNilI : Operand → Bool
  | .const .nilIface => true
  | _ => false

@[reducible] def isNilS : Operand → Bool
  | .const (.slice none 0 0) => true
  | _ => false

@[reducible] def actOf (c : Cx) (o : Oper) : Option Ac :=
  match o.op with
  | .move x => mvOf c o.dst x o.type
  | .assign x => mvOf c o.dst x o.type
  | .pick q a b => dataOp c o.dst [q, a, b] (maxN (lvOf c.K a) (lvOf c.K b)) (arg3 pickD)
  | .alloc t => withT c t fun i => alOf c o.dst i
  | .box t x => withT c t fun i => bxOf c o.dst i x
  | .build t parts => withT c t fun i => buOf c o.dst i parts.toList
  | .buildSlice t n parts => withT c t fun i => withT c i.elem fun _ => match isSl i with
    | true => bsOf c o.dst i n parts.toList
    | false => none
  | .load t p => withT c t fun i => ldOf c o.dst i p
  | .store t p x => match o.dst with
    | none => withT c t fun i => stOf c i p x
    | some _ => none
  | .nilCheck x => ncOf c o.dst x
  | .binOp op t x y _ => withT c t fun i => match i.ifc with
    | true => dataOp c o.dst [x, y] 0 (arg2 (binI (isNilI y) op))
    | false => match isSl i, isNilS y with
      | true, true => dataOp c o.dst [x, y] 0 (arg2 fun x _ => binN op x)
      | _, _ => dataOp c o.dst [x, y] 0 (arg2 (bin op i.bl i.eq))
  | .unOp op _ x => dataOp c o.dst [x] 0 (arg1 (un op))
  | .convert src dt x => withT c src fun si => withT c dt fun di => cvOf c o.dst si di x
  | .makeFunc (.func f) first cap => match first.toList, cap.toList with
    | [], [] => dataOp c o.dst [] 0 (fun _ => some (.clo f []))
    | [], x :: xs => dataOp c o.dst (x :: xs) (lvAll c.K (x :: xs)) (cloD f)
    | _, _ => none
  | .makeSlice t n m => withT c t fun i => withT c i.elem fun e => match isSl i with
    | true => mkOf c o.dst i e n m
    | false => none
  | .slice t x lo hi none => withT c t fun i => match isSl i, i.str with
    | true, false => slOf c o.dst i x lo hi
    | false, true => slOf c o.dst i x lo hi
    | _, _ => none
  | .fieldAddr t x f => withT c t fun i => faOf c o.dst i f x
  | .field t x f => withT c t fun i => match fieldOf c i f with
    | some (off, ti) => dataOp c o.dst [x] (lvOf c.K x) (arg1 (fldD ti.agg ti.n off))
    | none => none
  | .indexAddr t x i => withT c t fun ti => iaOf c o.dst ti x i
  | .index t x i => withT c t fun ti => ixOf c o.dst ti x i
  | .extract x i => exOf c o.dst x i
  | .call q => caOf c o.dst q
  | _ => none

/-! ### what is written -/
@[reducible] def wrOf (c : Cx) : Ac → List Nat
  | .one _ d _ => d :: deps d c.K 0
  | .many _ hw cw _ => app hw (app cw (depsAll c.K hw))
@[reducible] def rdAc : Ac → List Nat
  | .one rd _ _ => rd
  | .many rd _ _ _ => rd

@[reducible] def gslot (ops : List Oper) (j : Nat) : Option Nat :=
  match nthO ops j with
  | some o => o.dst
  | none => none

/-- What stands in a slot whose operation is passed over. -/
@[reducible] def skipD : Kd → D
  | .dat _ => .tup []
  | _ => .bad
/-- The values of what an operation would write, if it is passed over: its own slot is void. -/
@[reducible] def altC (K : List Kd) (δ : List D) (dst : Option Nat) : List Nat → (List D → Option Out) → Option Out
  | [], k => k []
  | s :: ss, k => match dst with
    | some d => match memN s (d :: deps d K 0) with
      | true => altC K δ dst ss fun l => k (skipD (nthK K s) :: l)
      | false => nthC δ s fun a => altC K δ dst ss fun l => k (a :: l)
    | none => nthC δ s fun a => altC K δ dst ss fun l => k (a :: l)

/-- The first values of a list, as many as a list of slots has. -/
@[reducible] def fit (l : List D) : Nat → List Nat → List D
  | _, [] => []
  | j, _ :: ss => nth l j :: fit l (Nat.succ j) ss

@[reducible] def stepK (c : Cx) (ops : List Oper) (o : Oper) (δ : List D) (k : List D → Option Out) : Option Out :=
  match actOf c o with
  | none => none
  | some A => match o.guard with
    | none => match A with
      | .one rd d h => getC δ rd fun is => (h is).bind fun z => setManyC δ (d :: deps d c.K 0) [z] k
      | .many rd hw cw fn => getC δ rd fun is => fn is fun outs => setManyC δ (app hw (app cw (depsAll c.K hw))) outs k
    | some (j, pol) => match gslot ops j with
      | none => none
      | some g => nthC δ g fun gv => match A with
        | .one rd d h => getC δ rd fun is => (gate (skipD (nthK c.K d)) gv pol (h is)).bind fun z => setManyC δ (d :: deps d c.K 0) [z] k
        | .many rd hw cw fn => getC δ rd fun is => altC c.K δ o.dst (app hw cw) fun alt =>
          gateC gv pol (fn is fun outs => some (.nrm (fit outs 0 (app hw cw)))) alt fun outs =>
            setManyC δ (app hw (app cw (depsAll c.K hw))) (fit outs 0 (app hw cw)) k

@[reducible] def runOps (c : Cx) (ops : List Oper) : List Oper → List D → (List D → Option Out) → Option Out
  | [], δ, k => k δ
  | o :: os, δ, k => stepK c ops o δ fun δ' => runOps c ops os δ' k

/-! ### code -/
@[reducible] def voidL : Nat → List D
  | 0 => []
  | n + 1 => .bad :: voidL n
@[reducible] def padTo : Nat → List D → List D
  | 0, _ => []
  | n + 1, [] => .bad :: padTo n []
  | n + 1, a :: l => a :: padTo n l
/-- A list of slots' values laid out over n slots. -/
@[reducible] def expandC (n : Nat) (hl : List Nat) (s : List D) (k : List D → Option Out) : Option Out :=
  setManyC (voidL n) hl (fit s 0 hl) k

def iter (body : List D → Option Out) : Nat → List D → Option Out
  | 0, _ => none
  | n + 1, s => match body s with
    | some (.nrm s') => iter body n s'
    | r => r

open Classical in
/-- The loop's outcome, if there is one. -/
noncomputable def loopC (body : List D → Option Out) (s : List D) : Option Out :=
  if h : ∃ n, (iter body n s).isSome = true then iter body (Classical.choose h) s else none

@[reducible] def shrinkK (hl xl : List Nat) (o : Out) : Option Out :=
  match o with
  | .nrm δ => getC δ hl fun l => some (.nrm l)
  | .ext i δ => getC δ xl fun l => some (.ext i l)
  | .ret a b => some (.ret a b)

@[reducible] def resC (c : Cx) (δ : List D) : List ResultVar → (List D → Option Out) → Option Out
  | [], k => k []
  | .tmp t :: l, k => nthC δ t fun a => resC c δ l fun as' => k (a :: as')
  | .cell a t :: l, k => match look c.T t with
    | some i => nthC δ a fun b => (fldD i.agg i.n 0 b).bind fun y => resC c δ l fun as' => k (y :: as')
    | none => none
/-- What the caller owns must be known at the end. -/
@[reducible] def usK : List D → Option Out → Option Out
  | [], o => o
  | u :: us, o => (liveD u u).bind fun _ => usK us o

@[reducible] def opC (δ : List D) (x : Operand) (k : D → Option Out) : Option Out :=
  match x with
  | .tmp t => nthC δ t k
  | .const c => k (constD c)
  | .func f => k (.clo f [])
  | .global _ => none

@[reducible] def seqK (o : Out) (f : List D → Option Out) (k : Out → Option Out) : Option Out :=
  match o with
  | .nrm δ => f δ
  | .ext i δ => k (.ext i δ)
  | .ret a b => k (.ret a b)
@[reducible] def blkK (id : Nat) (o : Out) (k : Out → Option Out) : Option Out :=
  match o with
  | .nrm δ => k (.nrm δ)
  | .ext i δ => match Nat.beq i id with
    | true => k (.nrm δ)
    | false => k (.ext i δ)
  | .ret a b => k (.ret a b)
/-- Behind a loop. -/
def outK (o : Out) (x : Nat → List D → Option Out) (r : List D → List D → Option Out) : Option Out :=
  match o with
  | .nrm _ => none
  | .ext i s => x i s
  | .ret a b => r a b

@[reducible] noncomputable def den (c : Cx) : Nat → Code → List D → (Out → Option Out) → Option Out
  | _, .skip, δ, k => k (.nrm δ)
  | _, .region _ ops _, δ, k => runOps c ops.toList ops.toList δ fun δ' => k (.nrm δ')
  | bid, .seq a b, δ, k => den c bid a δ fun o => seqK o (fun δ' => den c bid b δ' k) k
  | bid, .cond x t e, δ, k => opC δ x fun q => ifD q (den c bid t δ k) (den c bid e δ k)
  | _, .block id b, δ, k => den c id b δ fun o => blkK id o k
  | bid, .loop b, δ, k => match look c.H bid with
    | none => none
    | some (hl, xl) =>
      getC δ hl fun s => (loopC (fun s => expandC (lenN c.K) hl s fun δ => den c bid b δ (shrinkK hl xl)) s).bind fun o =>
        outK o (fun i s => expandC (lenN c.K) xl s fun δ => k (.ext i δ)) (fun a b => k (.ret a b))
  | _, .exit id, δ, k => k (.ext id δ)
  | _, .ret, δ, k => resC c δ c.res fun rs => getC δ c.ios fun us => usK us (k (.ret rs us))
  | _, _, _, _ => none

/-- A whole function. -/
@[reducible] noncomputable def denF (c : Cx) (fn : Func) (ds : List D) : Option Out :=
  match fn.body with
  | none => none
  | some b => den c 0 b (padTo fn.ntmps ds) fun o => match o with
    | .nrm δ => resC c δ c.res fun rs => getC δ c.ios fun us => usK us (some (.ret rs us))
    | .ext _ _ => none
    | .ret rs us => some (.ret rs us)

end Go.V
/-
  What data stands for in a world: the representation, and its plain laws.
-/
namespace Go.V
open Go.RowKit

def CellsAt (w : World) (b o : Nat) (us : List Value) : Prop := ∀ i u, us[i]? = some u → w.cell? ⟨b, o + i, none⟩ = some u

mutual
def RepC (w : World) (F : Nat → Prop) : D → List Value → Prop
  | .v x, vs => vs = [x] ∧ flat x = true
  | .agg l, vs => RepL w F l vs ∧ l.all D.single = true
  | .arr z l, vs => ∃ A c us, vs = [.slice A l.length c] ∧ l.length ≤ c ∧ RepL w F l us ∧ (∀ d ∈ l, d.width = z) ∧
      (l ≠ [] → ∃ b o, A = some ⟨b, o, none⟩ ∧ F b ∧ CellsAt w b o us)
  | .ptr l, vs => ∃ b o us, vs = [.pointer (some ⟨b, o, none⟩)] ∧ RepL w F l us ∧ l.all D.single = true ∧ F b ∧ CellsAt w b o us
  | .clo f l, vs => ∃ us : List Value, vs = [.func (.func f) #[] us.toArray] ∧ RepL w F l us
  | .ifc, vs => ∃ t x, vs = [.iface t x]
  | .raw x, vs => vs = [x] ∧ ∃ A n c, x = .slice A n c
  | .tup _, _ => False
  | .ref _ _, _ => False
  | .bad, _ => False
def RepL (w : World) (F : Nat → Prop) : List D → List Value → Prop
  | [], vs => vs = []
  | d :: ds, vs => ∃ v1 v2, vs = v1 ++ v2 ∧ RepC w F d v1 ∧ RepL w F ds v2
end

/-- A value in a slot. -/
def RepV (w : World) (F : Nat → Prop) (d : D) (y : Value) : Prop :=
  match d with
  | .agg l => ∃ vs : List Value, y = .agg vs.toArray ∧ RepC w F (.agg l) vs
  | .tup l => l = [] ∧ y = .tuple #[]
  | d => RepC w F d [y]

theorem all_append {α : Type} (p : α → Bool) (a b : List α) : (a ++ b).all p = (a.all p && b.all p) := by simp

mutual
theorem RepC_mono {w w' : World} {F F' : Nat → Prop} (hF : ∀ b, F b → F' b) (hw : ∀ b, F b → w'.heap[b]? = w.heap[b]?) :
    ∀ (d : D) (vs : List Value), RepC w F d vs → RepC w' F' d vs
  | .v _, _, h => by simpa only [RepC] using h
  | .agg l, vs, h => by
    simp only [RepC] at h ⊢
    exact ⟨RepL_mono hF hw l vs h.1, h.2⟩
  | .arr z l, vs, h => by
    simp only [RepC] at h ⊢
    obtain ⟨A, c, us, h1, h2, h3, h4, h5⟩ := h
    refine ⟨A, c, us, h1, h2, RepL_mono hF hw l us h3, h4, fun hl => ?_⟩
    obtain ⟨b, o, e, hb, hc⟩ := h5 hl
    exact ⟨b, o, e, hF b hb, fun i u hu => (World.cell?_of_block (w := w) (hw b hb)).trans (hc i u hu)⟩
  | .ptr l, vs, h => by
    simp only [RepC] at h ⊢
    obtain ⟨b, o, us, h1, h2, h3, h4, h5⟩ := h
    exact ⟨b, o, us, h1, RepL_mono hF hw l us h2, h3, hF b h4, fun i u hu => (World.cell?_of_block (w := w) (hw b h4)).trans (h5 i u hu)⟩
  | .clo f l, vs, h => by
    simp only [RepC] at h ⊢
    obtain ⟨us, h1, h2⟩ := h
    exact ⟨us, h1, RepL_mono hF hw l us h2⟩
  | .ifc, _, h => by simpa only [RepC] using h
  | .raw _, _, h => by simpa only [RepC] using h
  | .tup _, _, h => by simp only [RepC] at h
  | .ref _ _, _, h => by simp only [RepC] at h
  | .bad, _, h => by simp only [RepC] at h
theorem RepL_mono {w w' : World} {F F' : Nat → Prop} (hF : ∀ b, F b → F' b) (hw : ∀ b, F b → w'.heap[b]? = w.heap[b]?) :
    ∀ (l : List D) (vs : List Value), RepL w F l vs → RepL w' F' l vs
  | [], vs, h => by simpa only [RepL] using h
  | d :: ds, vs, h => by
    simp only [RepL] at h ⊢
    obtain ⟨v1, v2, h1, h2, h3⟩ := h
    exact ⟨v1, v2, h1, RepC_mono hF hw d v1 h2, RepL_mono hF hw ds v2 h3⟩
end

theorem RepV_mono {w w' : World} {F F' : Nat → Prop} (hF : ∀ b, F b → F' b) (hw : ∀ b, F b → w'.heap[b]? = w.heap[b]?) {d : D} {y : Value} (h : RepV w F d y) : RepV w' F' d y := by
  cases d <;> simp only [RepV] at h ⊢ <;> first
    | exact h
    | exact RepC_mono hF hw _ _ h
    | (obtain ⟨vs, h1, h2⟩ := h; exact ⟨vs, h1, RepC_mono hF hw _ _ h2⟩)

theorem RepC_len {w : World} {F : Nat → Prop} : ∀ (d : D) (vs : List Value), d.single = true → RepC w F d vs → ∃ y, vs = [y] ∧ y.cells = #[y] ∧ y.oneCell' = true := by
  intro d vs hs h
  cases d <;> simp only [RepC] at h <;> simp only [D.single] at hs
  case v x =>
    obtain ⟨rfl, hf⟩ := h
    cases x <;> simp_all [flat, Value.cells, Value.oneCell']
  case arr z l => obtain ⟨A, c, us, rfl, _⟩ := h; exact ⟨_, rfl, rfl, rfl⟩
  case ptr l => obtain ⟨b, o, us, rfl, _⟩ := h; exact ⟨_, rfl, rfl, rfl⟩
  case clo f l => obtain ⟨us, rfl, _⟩ := h; exact ⟨_, rfl, rfl, rfl⟩
  case ifc => obtain ⟨t, x, rfl⟩ := h; exact ⟨_, rfl, rfl, rfl⟩
  case raw x => obtain ⟨rfl, A, n, c, rfl⟩ := h; exact ⟨_, rfl, rfl, rfl⟩
  all_goals exact absurd hs (by simp)

theorem width_single {d : D} (h : d.single = true) : d.width = 1 ∧ d.cells = [d] := by cases d <;> simp_all [D.single, D.width, D.cells]

theorem RepL_cons {w : World} {F : Nat → Prop} {d : D} {ds : List D} {vs : List Value} : RepL w F (d :: ds) vs ↔ ∃ v1 v2, vs = v1 ++ v2 ∧ RepC w F d v1 ∧ RepL w F ds v2 := by rw [RepL]
theorem RepL_nil {w : World} {F : Nat → Prop} {vs : List Value} : RepL w F [] vs ↔ vs = [] := by rw [RepL]

theorem RepL_append {w : World} {F : Nat → Prop} : ∀ (l m : List D) (vs : List Value), RepL w F (l ++ m) vs ↔ ∃ v1 v2, vs = v1 ++ v2 ∧ RepL w F l v1 ∧ RepL w F m v2
  | [], m, vs => by
    rw [List.nil_append]
    exact ⟨fun h => ⟨[], vs, rfl, RepL_nil.2 rfl, h⟩, fun ⟨v1, v2, e, h1, h2⟩ => by rw [RepL_nil.1 h1] at e; rw [e]; exact h2⟩
  | d :: l, m, vs => by
    rw [List.cons_append, RepL_cons]
    constructor
    · rintro ⟨v1, v2, rfl, h1, h2⟩
      obtain ⟨u1, u2, rfl, h3, h4⟩ := (RepL_append l m v2).1 h2
      exact ⟨v1 ++ u1, u2, by simp, RepL_cons.2 ⟨v1, u1, rfl, h1, h3⟩, h4⟩
    · rintro ⟨v1, v2, rfl, h1, h2⟩
      obtain ⟨u1, u2, rfl, h3, h4⟩ := RepL_cons.1 h1
      exact ⟨u1, u2 ++ v2, by simp, h3, (RepL_append l m _).2 ⟨u2, v2, rfl, h4, h2⟩⟩

theorem RepL_single {w : World} {F : Nat → Prop} : ∀ (l : List D) (vs : List Value), l.all D.single = true → RepL w F l vs → vs.length = l.length ∧ (∀ u ∈ vs, u.oneCell' = true ∧ u.cells = #[u]) ∧ ∀ (i : Nat) (d : D), l[i]? = some d → ∃ u, vs[i]? = some u ∧ RepC w F d [u]
  | [], vs, _, h => by rw [RepL_nil] at h; subst h; simp
  | d :: l, vs, hs, h => by
    obtain ⟨v1, v2, rfl, h1, h2⟩ := RepL_cons.1 h
    simp only [List.all_cons, Bool.and_eq_true] at hs
    obtain ⟨y, rfl, hy, hy'⟩ := RepC_len d v1 hs.1 h1
    obtain ⟨g1, g2, g3⟩ := RepL_single l v2 hs.2 h2
    refine ⟨by simp [g1], ?_, ?_⟩
    · intro u hu
      rcases List.mem_append.1 hu with hu | hu
      · simp at hu; subst hu; exact ⟨hy', hy⟩
      · exact g2 u hu
    · intro i e he
      cases i with
      | zero => simp at he; subst he; exact ⟨y, rfl, h1⟩
      | succ i => simpa using g3 i e (by simpa using he)

theorem RepC_kind {w : World} {F : Nat → Prop} {d : D} {vs : List Value} (h : RepC w F d vs) : (∃ l, d = .agg l) ∨ d.single = true := by
  cases d
  case agg l => exact .inl ⟨l, rfl⟩
  case tup l => simp only [RepC] at h
  case ref i f => simp only [RepC] at h
  case bad => simp only [RepC] at h
  all_goals exact .inr rfl

theorem RepC_width {w : World} {F : Nat → Prop} {d : D} {vs : List Value} (h : RepC w F d vs) : vs.length = d.width := by
  rcases RepC_kind h with ⟨l, rfl⟩ | hs
  · simp only [RepC] at h
    simpa [D.width, D.cells] using (RepL_single l vs h.2 h.1).1
  · obtain ⟨y, rfl, _⟩ := RepC_len _ _ hs h
    rw [(width_single hs).1]; rfl

theorem RepL_length {w : World} {F : Nat → Prop} {z : Nat} : ∀ (l : List D) (vs : List Value), RepL w F l vs → (∀ d ∈ l, d.width = z) → vs.length = l.length * z
  | [], vs, h, _ => by rw [RepL_nil] at h; subst h; simp
  | d :: l, vs, h, hw => by
    obtain ⟨v1, v2, rfl, h1, h2⟩ := RepL_cons.1 h
    rw [List.length_append, RepC_width h1, RepL_length l v2 h2 (fun d hd => hw d (by simp [hd])), hw d (by simp)]
    simp [Nat.succ_mul, Nat.add_comm]

/-- The cells of one element. -/
theorem RepL_get {w : World} {F : Nat → Prop} {z : Nat} (l : List D) (vs : List Value) (h : RepL w F l vs) (hw : ∀ d ∈ l, d.width = z) (i : Nat) (d : D) (hd : l[i]? = some d) :
    ∃ p m q, vs = p ++ m ++ q ∧ p.length = i * z ∧ m.length = z ∧ RepC w F d m ∧ RepL w F (l.take i) p ∧ RepL w F (l.drop (i + 1)) q := by
  have hi : i < l.length := (List.getElem?_eq_some_iff.1 hd).1
  have e : l = l.take i ++ (d :: l.drop (i + 1)) := by
    have h1 : l[i] = d := (List.getElem?_eq_some_iff.1 hd).2
    conv => lhs; rw [← List.take_append_drop i l, List.drop_eq_getElem_cons hi, h1]
  rw [e] at h
  obtain ⟨p, r, rfl, hp, hr⟩ := (RepL_append _ _ _).1 h
  obtain ⟨m, q, rfl, hm, hq⟩ := RepL_cons.1 hr
  refine ⟨p, m, q, by simp, ?_, ?_, hm, hp, hq⟩
  · rw [RepL_length _ _ hp (fun d hd => hw d (List.mem_of_mem_take hd)), List.length_take]
    rw [Nat.min_eq_left (by omega)]
  · rw [RepC_width hm]; exact hw d (List.mem_of_getElem? hd)

theorem RepL_take {w : World} {F : Nat → Prop} {z : Nat} (l : List D) (vs : List Value) (h : RepL w F l vs) (hw : ∀ d ∈ l, d.width = z) (i : Nat) : RepL w F (l.take i) (vs.take (i * z)) ∧ RepL w F (l.drop i) (vs.drop (i * z)) := by
  by_cases hi : i ≤ l.length
  · rw [← List.take_append_drop i l] at h
    obtain ⟨p, q, rfl, hp, hq⟩ := (RepL_append _ _ _).1 h
    have hl : p.length = i * z := by
      rw [RepL_length _ _ hp (fun d hd => hw d (List.mem_of_mem_take hd)), List.length_take, Nat.min_eq_left hi]
    exact ⟨by rw [← hl]; simpa using hp, by rw [← hl]; simpa using hq⟩
  · have hl := RepL_length l vs h hw
    have h2 : vs.length ≤ i * z := by rw [hl]; exact Nat.mul_le_mul_right _ (by omega)
    rw [List.take_of_length_le h2, List.drop_eq_nil_of_le h2, List.take_of_length_le (by omega), List.drop_eq_nil_of_le (by omega)]
    exact ⟨h, RepL_nil.2 rfl⟩

/-- Cells that are each one value: taken, dropped. -/
theorem RepL_cut {w : World} {F : Nat → Prop} (l : List D) (vs : List Value) (hs : l.all D.single = true) (h : RepL w F l vs) (i : Nat) : RepL w F (l.take i) (vs.take i) ∧ RepL w F (l.drop i) (vs.drop i) := by
  have := RepL_take (z := 1) l vs h (fun d hd => (width_single (List.all_eq_true.1 hs d hd)).1) i
  simpa using this

theorem all_take {α : Type} {p : α → Bool} {l : List α} (h : l.all p = true) (i : Nat) : (l.take i).all p = true := List.all_eq_true.2 fun x hx => List.all_eq_true.1 h x (List.mem_of_mem_take hx)
theorem all_drop {α : Type} {p : α → Bool} {l : List α} (h : l.all p = true) (i : Nat) : (l.drop i).all p = true := List.all_eq_true.2 fun x hx => List.all_eq_true.1 h x (List.mem_of_mem_drop hx)

theorem CellsAt.take {w : World} {b o : Nat} {us : List Value} (h : CellsAt w b o us) (n : Nat) : CellsAt w b o (us.take n) := fun i u hu => h i u (by
  rw [List.getElem?_take] at hu
  split at hu
  · exact hu
  · cases hu)
theorem CellsAt.drop {w : World} {b o : Nat} {us : List Value} (h : CellsAt w b o us) (n : Nat) : CellsAt w b (o + n) (us.drop n) := fun i u hu => by
  rw [List.getElem?_drop] at hu
  rw [Nat.add_assoc]
  exact h _ u hu
theorem CellsAt.part {w : World} {b o : Nat} {p m q : List Value} (h : CellsAt w b o (p ++ m ++ q)) : CellsAt w b (o + p.length) m := fun i u hu => by
  rw [Nat.add_assoc]
  refine h _ u ?_
  have hi : i < m.length := by
    rcases Nat.lt_or_ge i m.length with hi | hi
    · exact hi
    · rw [List.getElem?_eq_none hi] at hu; cases hu
  rw [List.append_assoc, List.getElem?_append_right (by omega), Nat.add_sub_cancel_left, List.getElem?_append_left hi]
  exact hu

theorem RepV_single {w : World} {F : Nat → Prop} {d : D} {y : Value} (hs : d.single = true) : RepV w F d y ↔ RepC w F d [y] := by
  cases d <;> simp_all [D.single, RepV]
theorem RepV_kind {w : World} {F : Nat → Prop} {d : D} {y : Value} (h : RepV w F d y) (hn : ∀ l, d ≠ .tup l) : (∃ l, d = .agg l) ∨ d.single = true := by
  cases d
  case agg l => exact .inl ⟨l, rfl⟩
  case tup l => exact absurd rfl (hn l)
  all_goals exact (RepC_kind (vs := [y]) h).elim (fun ⟨_, e⟩ => by cases e) .inr

/-- What a value's cells are. -/
theorem not_tup {d : D} (h : d.cells.all D.single = true) (l : List D) : d ≠ .tup l := by
  rintro rfl
  simp [D.cells, D.single] at h
theorem RepV_cells {w : World} {F : Nat → Prop} {d : D} {y : Value} (h : RepV w F d y) (hn : ∀ l, d ≠ .tup l) : RepC w F d y.cells.toList ∧ d.cells.all D.single = true ∧ RepL w F d.cells y.cells.toList := by
  rcases RepV_kind h hn with ⟨l, rfl⟩ | hs
  · obtain ⟨vs, rfl, hr⟩ := h
    have hr' := hr
    simp only [RepC] at hr'
    exact ⟨by simpa [Value.cells] using hr, hr'.2, by simpa [Value.cells, D.cells] using hr'.1⟩
  · rw [RepV_single hs] at h
    obtain ⟨u, hu, hc, _⟩ := RepC_len _ _ hs h
    simp at hu; subst hu
    rw [(width_single hs).2, hc]
    exact ⟨h, by simp [hs], RepL_cons.2 ⟨_, [], by simp, h, RepL_nil.2 rfl⟩⟩

theorem RepV_v {w : World} {F : Nat → Prop} {x y : Value} : RepV w F (.v x) y ↔ y = x ∧ flat x = true := by simp [RepV, RepC]
theorem RepV_bad {w : World} {F : Nat → Prop} {y : Value} : ¬ RepV w F .bad y := by simp [RepV, RepC]
theorem RepV_ne {w : World} {F : Nat → Prop} {d : D} {y : Value} (h : RepV w F d y) : d ≠ .bad := fun e => RepV_bad (e ▸ h)

theorem RepL_isV {w w' : World} {F F' : Nat → Prop} : ∀ (l : List D) (vs : List Value), (l.all fun | .v _ => true | _ => false) = true → RepL w F l vs → RepL w' F' l vs
  | [], vs, _, h => by simpa only [RepL] using h
  | d :: l, vs, hv, h => by
    obtain ⟨v1, v2, rfl, h1, h2⟩ := RepL_cons.1 h
    simp only [List.all_cons, Bool.and_eq_true] at hv
    refine RepL_cons.2 ⟨v1, v2, rfl, ?_, RepL_isV l v2 hv.2 h2⟩
    cases d <;> simp at hv
    simpa only [RepC] using h1

/-- Scalars lead nowhere. -/
theorem RepV_isV {w w' : World} {F F' : Nat → Prop} {d : D} {y : Value} (hv : d.isV = true) (h : RepV w F d y) : RepV w' F' d y := by
  cases d
  case v x => exact RepV_v.2 (RepV_v.1 h)
  case agg l =>
    obtain ⟨vs, rfl, hr⟩ := h
    refine ⟨vs, rfl, ?_⟩
    simp only [RepC] at hr ⊢
    exact ⟨RepL_isV l vs hv hr.1, hr.2⟩
  all_goals exact absurd hv (by simp [D.isV])

end Go.V
/-
  What is known of the types, checked; and what the operations on data do when they are run.
-/
namespace Go.V
open Go.RowKit

/-! ### types -/
def zeroOk : List D → List Value → Bool
  | [], [] => true
  | .v (.int k a) :: l, .int k' b :: m => k == k' && a == b && zeroOk l m
  | .v (.bool a) :: l, .bool b :: m => a == b && zeroOk l m
  | .v (.string a) :: l, .string b :: m => a.data.toList == b.data.toList && zeroOk l m
  | .v .nilFunc :: l, .nilFunc :: m => zeroOk l m
  | .v .nilIface :: l, .nilIface :: m => zeroOk l m
  | .v (.pointer none) :: l, .pointer none :: m => zeroOk l m
  | .arr _ [] :: l, .slice none 0 0 :: m => zeroOk l m
  | _, _ => false

def fsOk (P : Program) : List Field → List (Nat × Nat) → Bool
  | [], [] => true
  | f :: fs, (o, t) :: l => f.offset == o && f.type == t && (match P.info? t with
    | some x => x.size != 0
    | none => false) && fsOk P fs l
  | _, _ => false

def scOk (P : Program) (t c : Nat) : Bool :=
  match P.underlying t with
  | some (.int _) => c == 1
  | some .bool => c == 2
  | some .string => c == 3
  | _ => false
def eqOk (P : Program) : Nat → List Field → List Nat → Bool
  | _, [], [] => true
  | n, f :: fs, c :: cs => f.name != "_" && f.offset == n && scOk P f.type c && eqOk P (n + 1) fs cs
  | _, _, _ => false

def aggZero : Value → Bool
  | .agg _ => true
  | _ => false

def tiChk (P : Program) (t : Nat) (i : TI) : Bool :=
  match P.info? t, P.underlying t with
  | some x, some u =>
    (!i.ifc || (match u with
      | .interface _ => true
      | _ => false)) && x.size == i.n && (match x.zero with
      | some z => zeroOk i.zero z.cells.toList && aggZero z == i.agg && i.zero.length == i.n
      | none => false) &&
    (match u with
      | .struct fs => i.agg && i.alen == 0 && i.ez == 0 && i.ik == none && !i.str && !i.bl && fsOk P fs.toList i.fs &&
          (i.eq == [] || (eqOk P 0 fs.toList i.eq && fs.size == i.n && !P.eqGuardType P.depth t && !P.stoodInHeld t))
      | .array n e => i.agg && i.alen == n && n != 0 && i.elem == e && i.fs == [] && i.ik == none && !i.str && !i.bl && i.eq == [] && (match P.info? e with
        | some y => y.size == i.ez && y.size != 0
        | none => false) && i.n == n * i.ez
      | .slice e => !i.agg && i.alen == 0 && i.elem == e && i.fs == [] && i.ik == none && !i.str && !i.bl && i.eq == [] && (match P.info? e with
        | some y => y.size == i.ez && y.size != 0 && y.bytes == i.eb && y.bytes != 0
        | none => false)
      | .int k => !i.agg && i.alen == 0 && i.ez == 0 && i.fs == [] && i.ik == some k && !i.str && !i.bl && i.eq == []
      | .string => !i.agg && i.alen == 0 && i.ez == 0 && i.fs == [] && i.ik == none && i.str && !i.bl && i.eq == []
      | .bool => !i.agg && i.alen == 0 && i.ez == 0 && i.fs == [] && i.ik == none && !i.str && i.bl && i.eq == []
      | _ => !i.agg && i.alen == 0 && i.ez == 0 && i.fs == [] && i.ik == none && !i.str && !i.bl && i.eq == [])
  | _, _ => false

def okT (P : Program) : List (Nat × TI) → Bool
  | [] => true
  | (t, i) :: l => tiChk P t i && okT P l

theorem look_mem {α : Type} : ∀ (l : List (Nat × α)) (n : Nat) (a : α), look l n = some a → (n, a) ∈ l
  | [], _, _, h => by simp [look] at h
  | (k, b) :: l, n, a, h => by
    simp only [look] at h
    split at h
    · rename_i hb
      have : k = n := Nat.eq_of_beq_eq_true hb
      subst this
      cases h
      simp
    · exact List.mem_cons_of_mem _ (look_mem l n a h)

theorem okT_look {P : Program} {T : List (Nat × TI)} (h : okT P T = true) {t : Nat} {i : TI} (hl : look T t = some i) : tiChk P t i = true := by
  have := look_mem T t i hl
  clear hl
  induction T with
  | nil => cases this
  | cons p T ih =>
    obtain ⟨t', i'⟩ := p
    simp only [okT, Bool.and_eq_true] at h
    rcases List.mem_cons.1 this with e | e
    · cases e; exact h.1
    · exact ih h.2 e

/-- What the check gives. -/
structure TOk (P : Program) (t : Nat) (i : TI) : Prop where
  info : ∃ x z, P.info? t = some x ∧ x.size = i.n ∧ x.zero = some z ∧ zeroOk i.zero z.cells.toList = true ∧ aggZero z = i.agg
  zl : i.zero.length = i.n
  und : (P.underlying t).isSome = true
  agg : ∀ w : World, (isAgg t).run P w = .ok i.agg w
  sl : i.ez ≠ 0 → i.alen = 0 → P.underlying t = some (.slice i.elem) ∧ i.agg = false ∧ 0 < i.ez ∧ 0 < i.eb ∧ ∃ y, P.info? i.elem = some y ∧ y.size = i.ez ∧ y.bytes = i.eb
  ar : i.alen ≠ 0 → P.underlying t = some (.array i.alen i.elem) ∧ i.agg = true ∧ 0 < i.ez ∧ i.n = i.alen * i.ez ∧ ∃ y, P.info? i.elem = some y ∧ y.size = i.ez
  fs : ∀ (f : Nat) (o ty : Nat), i.fs[f]? = some (o, ty) → ∃ fs fl, P.underlying t = some (.struct fs) ∧ fs[f]? = some fl ∧ fl.offset = o ∧ fl.type = ty ∧ i.agg = true ∧ ∃ y, P.info? ty = some y ∧ y.size ≠ 0
  st : i.agg = true → i.alen = 0 → ∃ fs, P.underlying t = some (.struct fs) ∧ fsOk P fs.toList i.fs = true
  eq : i.eq ≠ [] → ∃ fs, P.underlying t = some (.struct fs) ∧ eqOk P 0 fs.toList i.eq = true ∧ fs.size = i.n ∧ P.eqGuardType P.depth t = false ∧ P.stoodInHeld t = false
  ik : ∀ k, i.ik = some k → P.underlying t = some (.int k)
  str : i.str = true → P.underlying t = some .string ∧ i.ez = 0 ∧ i.alen = 0
  bl : i.bl = true → P.underlying t = some .bool
  ifc : i.ifc = true → ∃ ms, P.underlying t = some (.interface ms)

theorem fsOk_get {P : Program} : ∀ (fs : List Field) (l : List (Nat × Nat)), fsOk P fs l = true → ∀ (f o ty : Nat), l[f]? = some (o, ty) → ∃ fl, fs[f]? = some fl ∧ fl.offset = o ∧ fl.type = ty ∧ ∃ y, P.info? ty = some y ∧ y.size ≠ 0
  | [], [], _, f, o, ty, h => by simp at h
  | g :: fs, (o', t') :: l, hk, f, o, ty, h => by
    simp only [fsOk, Bool.and_eq_true, beq_iff_eq] at hk
    obtain ⟨⟨⟨h1, h2⟩, h3⟩, h4⟩ := hk
    cases f with
    | zero =>
      simp at h
      obtain ⟨rfl, rfl⟩ := h
      refine ⟨g, rfl, h1, h2, ?_⟩
      split at h3
      · rename_i x hx; exact ⟨x, hx, by simpa using h3⟩
      · cases h3
    | succ f => exact fsOk_get fs l h4 f o ty (by simpa using h)
  | [], _ :: _, hk, _, _, _, _ => by simp [fsOk] at hk
  | _ :: _, [], hk, _, _, _, _ => by simp [fsOk] at hk

def isAggB : TypeDesc → Bool
  | .struct _ => true
  | .array _ _ => true
  | _ => false

theorem tiChk_ok {P : Program} {t : Nat} {i : TI} (h : tiChk P t i = true) : TOk P t i := by
  unfold tiChk at h
  split at h
  case h_2 => cases h
  case h_1 x u hx hu =>
    simp only [Bool.and_eq_true] at h
    obtain ⟨⟨⟨hif, hn⟩, hz⟩, hk⟩ := h
    have hifc : i.ifc = true → ∃ ms, P.underlying t = some (.interface ms) := by
      intro e
      rw [e] at hif
      simp only [Bool.not_true, Bool.false_or] at hif
      split at hif
      · rename_i ms; exact ⟨ms, hu⟩
      · cases hif
    clear hif
    have hinfo : ∃ x z, P.info? t = some x ∧ x.size = i.n ∧ x.zero = some z ∧ zeroOk i.zero z.cells.toList = true ∧ aggZero z = i.agg := by
      split at hz
      · rename_i z hzz
        simp only [Bool.and_eq_true, beq_iff_eq] at hz
        exact ⟨x, z, hx, by simpa using hn, hzz, hz.1.1, hz.1.2⟩
      · cases hz
    have hzl : i.zero.length = i.n := by
      split at hz
      · simp only [Bool.and_eq_true, beq_iff_eq] at hz
        exact hz.2
      · cases hz
    have hund : (P.underlying t).isSome = true := by rw [hu]; rfl
    have hagg : ∀ (w : World) (b : Bool), isAggB u = b → (isAgg t).run P w = .ok b w := by
      intro w b hb
      subst hb
      simp only [isAgg, Sem.run_bind, run_underlying hu, Result.andThen_ok]
      cases u <;> rfl
    have mk : ∀ (b : Bool), isAggB u = false → i.agg = false → i.alen = 0 → i.ez = 0 → i.fs = [] → i.eq = [] →
        (∀ k, i.ik = some k → P.underlying t = some (.int k)) → (i.str = true → P.underlying t = some .string) → (i.bl = true → P.underlying t = some .bool) → TOk P t i := by
      intro _ hb a1 a2 a3 a4 a5 a6 a7 a8
      exact ⟨hinfo, hzl, hund, fun w => hagg w _ (hb.trans a1.symm), fun h => absurd a3 h, fun h => absurd a2 h, fun f o ty hf => by (rw [a4] at hf; simp at hf), fun h => by (rw [a1] at h; cases h), fun h => absurd a5 h, a6, fun h => ⟨a7 h, a3, a2⟩, a8, hifc⟩
    have other : (!i.agg && i.alen == 0 && i.ez == 0 && i.fs == [] && i.ik == none && !i.str && !i.bl && i.eq == []) = true →
        (i.agg = false → i.alen = 0 → i.ez = 0 → i.fs = [] → i.eq = [] → (∀ k, i.ik = some k → P.underlying t = some (.int k)) → (i.str = true → P.underlying t = some .string) → (i.bl = true → P.underlying t = some .bool) → TOk P t i) → TOk P t i := by
      intro hk mk
      simp only [Bool.and_eq_true, Bool.not_eq_true', beq_iff_eq] at hk
      obtain ⟨⟨⟨⟨⟨⟨⟨a1, a2⟩, a3⟩, a4⟩, a5⟩, a6⟩, a7⟩, a8⟩ := hk
      exact mk a1 a2 a3 a4 a8 (fun k' hk => by (rw [a5] at hk; cases hk)) (fun h => by (rw [a6] at h; cases h)) (fun h => by (rw [a7] at h; cases h))
    clear hz hn
    match u, hu, hk, hagg, mk with
    | .struct fs, hu, hk, hagg, _ =>
      simp only [Bool.and_eq_true, Bool.not_eq_true', beq_iff_eq] at hk
      obtain ⟨⟨⟨⟨⟨⟨⟨a1, a2⟩, a3⟩, a4⟩, a5⟩, a6⟩, a7⟩, a8⟩ := hk
      refine ⟨hinfo, hzl, hund, fun w => hagg w _ a1.symm, fun h => absurd a3 h, fun h => absurd a2 h, fun f o ty hf => ?_, fun _ _ => ⟨fs, hu, a7⟩, fun he => ?_, fun k hk => by (rw [a4] at hk; cases hk), fun h => by (rw [a5] at h; cases h), fun h => by (rw [a6] at h; cases h), hifc⟩
      · obtain ⟨fl, h1, h2, h3, h4⟩ := fsOk_get _ _ a7 f o ty hf
        exact ⟨fs, fl, hu, by simpa using h1, h2, h3, a1, h4⟩
      · simp only [Bool.or_eq_true, beq_iff_eq, Bool.and_eq_true, Bool.not_eq_true'] at a8
        rcases a8 with a8 | a8
        · exact absurd a8 he
        · exact ⟨fs, hu, a8.1.1.1, a8.1.1.2, a8.1.2, a8.2⟩
    | .array n e, hu, hk, hagg, _ =>
      simp only [Bool.and_eq_true, Bool.not_eq_true', beq_iff_eq, bne_iff_ne, ne_eq] at hk
      obtain ⟨⟨⟨⟨⟨⟨⟨⟨⟨⟨a1, a2⟩, a3⟩, a4⟩, a5⟩, a6⟩, a7⟩, a8⟩, a9⟩, a10⟩, a11⟩ := hk
      refine ⟨hinfo, hzl, hund, fun w => hagg w _ a1.symm, fun _ h => absurd (a2 ▸ h) a3, fun _ => ?_, fun f o ty hf => by (rw [a5] at hf; simp at hf), fun _ h => absurd (a2 ▸ h) a3, fun h => absurd a9 h, fun k hk => by (rw [a6] at hk; cases hk), fun h => by (rw [a7] at h; cases h), fun h => by (rw [a8] at h; cases h), hifc⟩
      split at a10
      · rename_i y hy
        simp only [Bool.and_eq_true, beq_iff_eq, bne_iff_ne, ne_eq] at a10
        refine ⟨by rw [hu, a2, a4], a1, by omega, by rw [a2]; exact a11, y, by rw [a4]; exact hy, a10.1⟩
      · cases a10
    | .slice e, hu, hk, hagg, _ =>
      simp only [Bool.and_eq_true, Bool.not_eq_true', beq_iff_eq] at hk
      obtain ⟨⟨⟨⟨⟨⟨⟨⟨a1, a2⟩, a3⟩, a4⟩, a5⟩, a6⟩, a7⟩, a8⟩, a9⟩ := hk
      refine ⟨hinfo, hzl, hund, fun w => hagg w _ a1.symm, fun _ _ => ?_, fun h => absurd a2 h, fun f o ty hf => by (rw [a4] at hf; simp at hf), fun h => by (rw [a1] at h; cases h), fun h => absurd a8 h, fun k hk => by (rw [a5] at hk; cases hk), fun h => by (rw [a6] at h; cases h), fun h => by (rw [a7] at h; cases h), hifc⟩
      split at a9
      · rename_i y hy
        simp only [Bool.and_eq_true, beq_iff_eq, bne_iff_ne, ne_eq] at a9
        obtain ⟨⟨⟨b1, b2⟩, b3⟩, b4⟩ := a9
        exact ⟨by rw [hu, a3], a1, by omega, by omega, y, by rw [a3]; exact hy, b1, b3⟩
      · cases a9
    | .int k, hu, hk, _, mk =>
      simp only [Bool.and_eq_true, Bool.not_eq_true', beq_iff_eq] at hk
      obtain ⟨⟨⟨⟨⟨⟨⟨a1, a2⟩, a3⟩, a4⟩, a5⟩, a6⟩, a7⟩, a8⟩ := hk
      exact mk true rfl a1 a2 a3 a4 a8 (fun k' hk => by rw [a5] at hk; cases hk; exact hu) (fun h => by rw [a6] at h; cases h) (fun h => by rw [a7] at h; cases h)
    | .string, hu, hk, _, mk =>
      simp only [Bool.and_eq_true, Bool.not_eq_true', beq_iff_eq] at hk
      obtain ⟨⟨⟨⟨⟨⟨⟨a1, a2⟩, a3⟩, a4⟩, a5⟩, a6⟩, a7⟩, a8⟩ := hk
      exact mk true rfl a1 a2 a3 a4 a8 (fun k' hk => by rw [a5] at hk; cases hk) (fun _ => hu) (fun h => by rw [a7] at h; cases h)
    | .bool, hu, hk, _, mk =>
      simp only [Bool.and_eq_true, Bool.not_eq_true', beq_iff_eq] at hk
      obtain ⟨⟨⟨⟨⟨⟨⟨a1, a2⟩, a3⟩, a4⟩, a5⟩, a6⟩, a7⟩, a8⟩ := hk
      exact mk true rfl a1 a2 a3 a4 a8 (fun k' hk => by rw [a5] at hk; cases hk) (fun h => by rw [a6] at h; cases h) (fun _ => hu)
    | .invalid, _, hk, _, mk => exact other hk (mk true rfl)
    | .float _, _, hk, _, mk => exact other hk (mk true rfl)
    | .complex _, _, hk, _, mk => exact other hk (mk true rfl)
    | .unsafePointer, _, hk, _, mk => exact other hk (mk true rfl)
    | .pointer _, _, hk, _, mk => exact other hk (mk true rfl)
    | .map _ _, _, hk, _, mk => exact other hk (mk true rfl)
    | .chan _ _, _, hk, _, mk => exact other hk (mk true rfl)
    | .func _ _ _, _, hk, _, mk => exact other hk (mk true rfl)
    | .interface _, _, hk, _, mk => exact other hk (mk true rfl)
    | .tuple _, _, hk, _, mk => exact other hk (mk true rfl)
    | .named _ _, _, hk, _, mk => exact other hk (mk true rfl)

theorem TOk.size {P : Program} {t : Nat} {i : TI} (h : TOk P t i) (w : World) : (sizeOf t).run P w = .ok i.n w := by
  obtain ⟨x, z, hx, hn, _⟩ := h.info
  simp [sizeOf, typeInfo, hx, hn]
theorem run_sizeOf {P : Program} {e : Nat} {y : TypeInfo} (h : P.info? e = some y) (w : World) : (sizeOf e).run P w = .ok y.size w := by simp [sizeOf, typeInfo, h]

theorem RepC_v {w : World} {F : Nat → Prop} {x : Value} (h : flat x = true) : RepC w F (.v x) [x] := by simp only [RepC]; exact ⟨trivial, h⟩
theorem RepC_nil {w : World} {F : Nat → Prop} {z : Nat} : RepC w F (.arr z []) [.slice none 0 0] := by
  simp only [RepC]
  exact ⟨none, 0, [], rfl, Nat.le_refl _, RepL_nil.2 rfl, fun d hd => (List.not_mem_nil hd).elim, fun h => absurd rfl h⟩

/-- The zero value. -/
theorem zeroOk_rep {w : World} {F : Nat → Prop} : ∀ (l : List D) (vs : List Value), zeroOk l vs = true → RepL w F l vs ∧ l.all D.single = true
  | [], [], _ => ⟨RepL_nil.2 rfl, rfl⟩
  | .v (.int k a) :: l, .int k' b :: m, h => by
    simp only [zeroOk, Bool.and_eq_true, beq_iff_eq] at h
    obtain ⟨⟨rfl, rfl⟩, h⟩ := h
    obtain ⟨g1, g2⟩ := zeroOk_rep (w := w) (F := F) l m h
    exact ⟨RepL_cons.2 ⟨_, _, rfl, RepC_v rfl, g1⟩, by simp [D.single, g2]⟩
  | .v (.bool a) :: l, .bool b :: m, h => by
    simp only [zeroOk, Bool.and_eq_true, beq_iff_eq] at h
    obtain ⟨rfl, h⟩ := h
    obtain ⟨g1, g2⟩ := zeroOk_rep (w := w) (F := F) l m h
    exact ⟨RepL_cons.2 ⟨_, _, rfl, RepC_v rfl, g1⟩, by simp [D.single, g2]⟩
  | .v (.string a) :: l, .string b :: m, h => by
    simp only [zeroOk, Bool.and_eq_true, beq_iff_eq] at h
    obtain ⟨h1, h⟩ := h
    have e : a = b := by
      obtain ⟨⟨a⟩⟩ := a
      obtain ⟨⟨b⟩⟩ := b
      simpa using h1
    subst e
    obtain ⟨g1, g2⟩ := zeroOk_rep (w := w) (F := F) l m h
    exact ⟨RepL_cons.2 ⟨_, _, rfl, RepC_v rfl, g1⟩, by simp [D.single, g2]⟩
  | .v .nilFunc :: l, .nilFunc :: m, h => by
    obtain ⟨g1, g2⟩ := zeroOk_rep (w := w) (F := F) l m (by simpa [zeroOk] using h)
    exact ⟨RepL_cons.2 ⟨_, _, rfl, RepC_v rfl, g1⟩, by simp [D.single, g2]⟩
  | .v .nilIface :: l, .nilIface :: m, h => by
    obtain ⟨g1, g2⟩ := zeroOk_rep (w := w) (F := F) l m (by simpa [zeroOk] using h)
    exact ⟨RepL_cons.2 ⟨_, _, rfl, RepC_v rfl, g1⟩, by simp [D.single, g2]⟩
  | .v (.pointer none) :: l, .pointer none :: m, h => by
    obtain ⟨g1, g2⟩ := zeroOk_rep (w := w) (F := F) l m (by simpa [zeroOk] using h)
    exact ⟨RepL_cons.2 ⟨_, _, rfl, RepC_v rfl, g1⟩, by simp [D.single, g2]⟩
  | .arr z [] :: l, .slice none 0 0 :: m, h => by
    obtain ⟨g1, g2⟩ := zeroOk_rep (w := w) (F := F) l m (by simpa [zeroOk] using h)
    exact ⟨RepL_cons.2 ⟨_, _, rfl, RepC_nil, g1⟩, by simp [D.single, g2]⟩

theorem zeroD_tup {e : TI} (h : e.zero.all D.single = true) {m : List D} (hm : zeroD e = .tup m) : False := by
  unfold zeroD at hm
  cases hg : e.agg <;> rw [hg] at hm <;> simp only at hm
  · cases hz : e.zero with
    | nil => rw [hz] at hm; cases hm
    | cons d l =>
      rw [hz] at h hm
      simp only at hm
      subst hm
      simp [D.single] at h
  · cases hm
theorem TOk.zero {P : Program} {t : Nat} {i : TI} (h : TOk P t i) : ∃ z, (∀ w : World, (zeroValue t).run P w = .ok z w) ∧ (∀ (w : World) (F : Nat → Prop), RepV w F (zeroD i) z ∧ RepL w F i.zero z.cells.toList) ∧ i.zero.all D.single = true ∧ z.cells.size = i.zero.length := by
  obtain ⟨x, z, hx, hn, hz, h0, ha⟩ := h.info
  obtain ⟨_, hs⟩ := zeroOk_rep (w := default) (F := fun _ => True) _ _ h0
  refine ⟨z, fun w => by simp [zeroValue, typeInfo, hx, hz], fun w F => ?_, hs, ?_⟩
  · obtain ⟨g, _⟩ := zeroOk_rep (w := w) (F := F) _ _ h0
    refine ⟨?_, g⟩
    unfold zeroD
    cases hb : i.agg
    · cases z <;> first
        | (simp only [aggZero] at ha; rw [hb] at ha; cases ha)
        | skip
      all_goals
        simp only [Value.cells] at g
        generalize i.zero = l at g hs
        cases l with
        | nil => rw [RepL_nil] at g; cases g
        | cons d l =>
          obtain ⟨v1, v2, e, h1, h2⟩ := RepL_cons.1 g
          simp only [List.all_cons, Bool.and_eq_true] at hs
          obtain ⟨y, rfl, _⟩ := RepC_len d v1 hs.1 h1
          simp at e
          rw [RepV_single hs.1, e.1]
          exact h1
    · cases z <;> first
        | (simp only [aggZero] at ha; rw [hb] at ha; cases ha)
        | skip
      exact ⟨_, rfl, by simp only [RepC]; exact ⟨g, hs⟩⟩
  · obtain ⟨g, _⟩ := zeroOk_rep (w := default) (F := fun _ => True) _ _ h0
    simpa using (RepL_single _ _ hs g).1

end Go.V
/-
  What the operations on data do when they are run.
-/
namespace Go.V
open Go.RowKit

def RepB (w : World) (F : Nat → Prop) (d : D) (y : Value) : Prop := d = .bad ∨ RepV w F d y

section
variable {P : Program} {w : World} {F G : Nat → Prop}

theorem RepB.rep {d : D} {y : Value} (h : RepB w F d y) (hd : d ≠ .bad) : RepV w F d y := h.resolve_left hd
theorem RepB_v {x y : Value} (h : RepB w F (.v x) y) : y = x ∧ flat x = true := RepV_v.1 (h.rep (by simp))
theorem RepV_scalar {x : Value} (hx : flat x = true) : RepV w F (.v x) x := RepV_v.2 ⟨rfl, hx⟩

theorem allEq_run : ∀ (fs : List Field) (n : Nat) (c : List Nat) (l m : List D) (us vs xs ys : List Value) (q : Bool), eqOk P n fs c = true → allEq c l m = some q → xs.length = n → ys.length = n → RepL w F l us → RepL w G m vs →
    (Op.eqFields 9999 (xs ++ us).toArray (ys ++ vs).toArray fs).run P w = .ok q w
  | [], n, [], l, m, us, vs, xs, ys, q, _, he, _, _, _, _ => by
    cases l <;> cases m <;> simp [allEq] at he
    subst he
    simp [Op.eqFields]
  | f :: fs, n, c :: cs, l, m, us, vs, xs, ys, q, hk, he, hx, hy, hu, hv => by
    simp only [eqOk, Bool.and_eq_true, bne_iff_ne, ne_eq, beq_iff_eq] at hk
    obtain ⟨⟨⟨h1, h2⟩, h3⟩, h4⟩ := hk
    have fin : ∀ (a b : Value) (l' m' : List D) (us' vs' : List Value) (r : Bool), us = a :: us' → vs = b :: vs' → RepL w F l' us' → RepL w G m' vs' → (allEq cs l' m').map (r && ·) = some q →
        (isAgg f.type).run P w = .ok false w → (Op.equalIn 9999 f.type a b).run P w = .ok r w → (Op.eqFields 9999 (xs ++ us).toArray (ys ++ vs).toArray (f :: fs)).run P w = .ok q w := by
      intro a b l' m' us' vs' r e1 e2 g1 g2 g4 p0 p3
      subst e1 e2
      have p1 : (part f.type (xs ++ a :: us').toArray f.offset).run P w = .ok a w := by simp [part, p0, h2, hx]
      have p2 : (part f.type (ys ++ b :: vs').toArray f.offset).run P w = .ok b w := by simp [part, p0, h2, hy]
      obtain ⟨q', g3, g5⟩ := Option.map_eq_some_iff.1 g4
      simp only [Op.eqFields, h1, not_false_eq_true, if_true, ne_eq, Sem.run_bind, p1, p2, p3, Result.andThen_ok, Sem.run_ite]
      cases r
      · simp at g5; simp [g5]
      · simp only [Bool.not_true, Bool.false_eq_true, if_false, Bool.true_and] at g5 ⊢
        subst g5
        have ih := allEq_run fs (n + 1) cs l' m' us' vs' (xs ++ [a]) (ys ++ [b]) q' h4 g3 (by simp [hx]) (by simp [hy]) g1 g2
        simpa using ih
    unfold allEq at he
    split at he
    · cases ‹_ :: _ = []›
    · rename_i c' k a l' k' b m' _
      split at he
      · rename_i hkk
        subst hkk
        obtain ⟨v1, v2, rfl, r1, r2⟩ := RepL_cons.1 hu
        obtain ⟨u1, u2, rfl, s1, s2⟩ := RepL_cons.1 hv
        simp only [RepC] at r1 s1
        obtain ⟨rfl, _⟩ := r1
        obtain ⟨rfl, _⟩ := s1
        cases ‹c :: cs = _›
        unfold scOk at h3
        split at h3 <;> simp at h3
        rename_i kk hu
        exact fin _ _ _ _ _ _ _ rfl rfl r2 s2 he (by simp [isAgg, run_underlying hu]) (run_equalIn_int w _ _ _ _ _ _ hu)
      · cases he
    · rename_i c' a l' b m' _
      obtain ⟨v1, v2, rfl, r1, r2⟩ := RepL_cons.1 hu
      obtain ⟨u1, u2, rfl, s1, s2⟩ := RepL_cons.1 hv
      simp only [RepC] at r1 s1
      obtain ⟨rfl, _⟩ := r1
      obtain ⟨rfl, _⟩ := s1
      cases ‹c :: cs = _›
      unfold scOk at h3
      split at h3 <;> simp at h3
      rename_i hu
      exact fin _ _ _ _ _ _ _ rfl rfl r2 s2 he (by simp [isAgg, run_underlying hu]) (run_equalIn_bool' w _ _ _ _ hu)
    · rename_i c' a l' b m' _
      obtain ⟨v1, v2, rfl, r1, r2⟩ := RepL_cons.1 hu
      obtain ⟨u1, u2, rfl, s1, s2⟩ := RepL_cons.1 hv
      simp only [RepC] at r1 s1
      obtain ⟨rfl, _⟩ := r1
      obtain ⟨rfl, _⟩ := s1
      cases ‹c :: cs = _›
      unfold scOk at h3
      split at h3 <;> simp at h3
      rename_i hu
      exact fin _ _ _ _ _ _ _ rfl rfl r2 s2 he (by simp [isAgg, run_underlying hu]) (run_equalIn_string w _ _ _ _ hu)
    · cases he
  | [], n, _ :: _, _, _, _, _, _, _, _, hk, _, _, _, _, _ => by simp [eqOk] at hk
  | _ :: _, n, [], _, _, _, _, _, _, _, hk, _, _, _, _, _ => by simp [eqOk] at hk

theorem bin_int {op : BinOp} {t : Nat} {k : IntKind} {a b : Int} {z : D} (h : intBin op k a b = some z) : ∃ v, (binOp op t (.int k a) (.int k b)).run P w = .ok v w ∧ z = .v v ∧ flat v = true := by
  cases op <;> simp only [intBin, Option.some.injEq] at h
  case quo =>
    split at h <;> simp at h
    rename_i hb
    exact ⟨_, by simp [binOp_quo, Op.intDiv, hb], h.symm, rfl⟩
  case rem =>
    split at h <;> simp at h
    rename_i hb
    exact ⟨_, by simp [binOp_rem, Op.intDiv, hb], h.symm, rfl⟩
  case shl => cases h
  case shr => cases h
  all_goals
    subst h
    refine ⟨_, ?_, rfl, rfl⟩
    first
    | simp [binOp_add, Op.intArith]; done
    | simp [binOp_sub, Op.intArith]; done
    | simp [binOp_mul, Op.intArith]; done
    | simp [binOp_and, intBits_and]; done
    | simp [binOp_or, intBits_or]; done
    | simp [binOp_xor, intBits_xor]; done
    | simp [binOp_andNot, intBits_andNot]; done
    | simp [binOp_eql]; done
    | simp [binOp_neq]; done
    | simp [binOp_lss]; done
    | simp [binOp_leq]; done
    | simp [binOp_gtr]; done
    | simp [binOp_geq]; done

theorem bin_str {op : BinOp} {t : Nat} {a b : ByteArray} {z : D} (h : strBin op a b = some z) : ∃ v, (binOp op t (.string a) (.string b)).run P w = .ok v w ∧ z = .v v ∧ flat v = true := by
  have e : binOp op t (.string a) (.string b) = Op.stringOp op a b := by cases op <;> rfl
  rw [e]
  cases op <;> simp only [strBin, Option.some.injEq] at h <;> try (cases h; done)
  case add =>
    split at h <;> simp at h
    rename_i hb
    subst h
    refine ⟨_, ?_, rfl, rfl⟩
    have : ¬ (((a.size + b.size : Nat) : Int) > IntKind.i64.max) := by rw [IntKind.max_i64]; omega
    simp only [Op.stringOp, if_neg this, Sem.run_pure]
  all_goals
    subst h
    exact ⟨_, by simp [Op.stringOp], rfl, rfl⟩

theorem bin_run {op : BinOp} {t : Nat} {i : TI} (hi : TOk P t i) {a b z : D} {x y : Value} (ox oy : Operand) (ha : RepB w F a x) (hb : RepB w G b y) (h : bin op i.bl i.eq a b = some z) :
    ∃ v, (do eqGuard op t ox oy x y; binOp op t x y : Sem Value).run P w = .ok v w ∧ z = .v v ∧ flat v = true := by
  unfold bin at h
  split at h
  · rename_i k a' _ b'
    obtain ⟨rfl, _⟩ := RepB_v ha
    obtain ⟨rfl, _⟩ := RepB_v hb
    split at h <;> simp at h
    rename_i h0
    subst h
    refine ⟨_, ?_, rfl, rfl⟩
    rw [eqGuard_at_int]
    simp [binOp_shl, Op.shift, Int.not_lt.2 h0]
  · rename_i k a' _ b'
    obtain ⟨rfl, _⟩ := RepB_v ha
    obtain ⟨rfl, _⟩ := RepB_v hb
    split at h <;> simp at h
    rename_i h0
    subst h
    refine ⟨_, ?_, rfl, rfl⟩
    rw [eqGuard_at_int]
    simp [binOp_shr, Op.shift, Int.not_lt.2 h0]
  · rename_i k a' k' b' _ _
    obtain ⟨rfl, _⟩ := RepB_v ha
    obtain ⟨rfl, _⟩ := RepB_v hb
    by_cases hk : k = k'
    case neg => rw [if_neg hk] at h; cases h
    rw [if_pos hk] at h
    subst hk
    obtain ⟨v, h1, h2, h3⟩ := bin_int (P := P) (w := w) (t := t) h
    refine ⟨v, ?_, h2, h3⟩
    rw [eqGuard_at_int]
    simpa using h1
  · obtain ⟨rfl, _⟩ := RepB_v ha
    obtain ⟨rfl, _⟩ := RepB_v hb
    obtain ⟨v, h1, h2, h3⟩ := bin_str (P := P) (w := w) (t := t) h
    refine ⟨v, ?_, h2, h3⟩
    rw [eqGuard_at_string]
    simpa using h1
  · obtain ⟨rfl, _⟩ := RepB_v ha
    obtain ⟨rfl, _⟩ := RepB_v hb
    split at h <;> simp at h
    rename_i hbl
    subst h
    refine ⟨_, ?_, rfl, rfl⟩
    rw [eqGuard_at_bool]
    simp [binOp, Op.equal, Op.maxDepth, run_equalIn_bool' w _ t _ _ (hi.bl hbl)]
  · obtain ⟨rfl, _⟩ := RepB_v ha
    obtain ⟨rfl, _⟩ := RepB_v hb
    split at h <;> simp at h
    rename_i hbl
    subst h
    refine ⟨_, ?_, rfl, rfl⟩
    rw [eqGuard_at_bool]
    simp [binOp, Op.equal, Op.maxDepth, run_equalIn_bool' w _ t _ _ (hi.bl hbl)]
  · split at h
    · cases h
    · rename_i he
      obtain ⟨q, hq, rfl⟩ := Option.map_eq_some_iff.1 h
      obtain ⟨us, rfl, r1⟩ := ha.rep (by simp)
      obtain ⟨vs, rfl, s1⟩ := hb.rep (by simp)
      simp only [RepC] at r1 s1
      obtain ⟨fs, f1, f2, f3, f4, f5⟩ := hi.eq he
      have hfs : P.fieldsOf t = fs := by simp [Program.fieldsOf, f1]
      refine ⟨_, ?_, rfl, rfl⟩
      have key := allEq_run (P := P) fs.toList 0 i.eq _ _ us vs [] [] q f2 hq rfl rfl r1.1 s1.1
      simp only [List.nil_append] at key
      simp only [Sem.run_bind, run_eqGuard_agg w _ _ _ _ _ _ f4, Result.andThen_ok, run_eql_struct, run_equalIn_agg w 9999 t _ _ (by rw [hfs]; exact f1) f5, hfs, key]
  · split at h
    · cases h
    · rename_i he
      obtain ⟨q, hq, rfl⟩ := Option.map_eq_some_iff.1 h
      obtain ⟨us, rfl, r1⟩ := ha.rep (by simp)
      obtain ⟨vs, rfl, s1⟩ := hb.rep (by simp)
      simp only [RepC] at r1 s1
      obtain ⟨fs, f1, f2, f3, f4, f5⟩ := hi.eq he
      have hfs : P.fieldsOf t = fs := by simp [Program.fieldsOf, f1]
      refine ⟨_, ?_, rfl, rfl⟩
      have key := allEq_run (P := P) fs.toList 0 i.eq _ _ us vs [] [] q f2 hq rfl rfl r1.1 s1.1
      simp only [List.nil_append] at key
      simp only [Sem.run_bind, run_eqGuard_agg w _ _ _ _ _ _ f4, Result.andThen_ok, run_neq_struct, run_equalIn_agg w 9999 t _ _ (by rw [hfs]; exact f1) f5, hfs, key]
  · cases h

theorem binN_run {op : BinOp} {t : Nat} {i : TI} (hi : TOk P t i) (hs : isSl i = true) {a z : D} {x : Value} (ox oy : Operand) (ha : RepB w F a x) (h : binN op a = some z) :
    ∃ v, (do eqGuard op t ox oy x (.slice none 0 0); binOp op t x (.slice none 0 0) : Sem Value).run P w = .ok v w ∧ z = .v v ∧ flat v = true := by
  have hez : i.ez ≠ 0 ∧ i.alen = 0 := by
    unfold isSl at hs
    split at hs
    · cases hs
    · rename_i e1 h2
      exact ⟨h2, e1⟩
    · cases hs
  obtain ⟨hu, _⟩ := hi.sl hez.1 hez.2
  have eq1 : ∀ (b : Addr) (n c : Nat), (Op.equal t (.slice (some b) n c) (.slice none 0 0)).run P w = .ok false w := fun b n c => by
    have h : ∀ d : Nat, (Op.equalIn (d + 1) t (.slice (some b) n c) (.slice none 0 0)).run P w = .ok false w := fun d => by
      simp [Op.equalIn, run_underlying hu]
    simp [Op.equal, Op.maxDepth, h 9999]
  have eq2 : (Op.equal t (.slice none 0 0) (.slice none 0 0)).run P w = .ok true w := by
    have h : ∀ d : Nat, (Op.equalIn (d + 1) t (.slice none 0 0) (.slice none 0 0)).run P w = .ok true w := fun d => by
      simp [Op.equalIn, run_underlying hu]
    simp [Op.equal, Op.maxDepth, h 9999]
  have g1 : ∀ (op : BinOp) (b : Option Addr) (n c : Nat), (eqGuard op t ox oy (.slice b n c) (.slice none 0 0)).run P w = .ok () w := fun op b n c => by
    cases op <;> simp [eqGuard]
  unfold binN at h
  split at h
  · obtain ⟨rfl, _⟩ := RepB_v ha
    cases h
    refine ⟨_, ?_, rfl, rfl⟩
    simp only [Sem.run_bind, g1, Result.andThen_ok, binOp, eq2]
    rfl
  · obtain ⟨rfl, _⟩ := RepB_v ha
    cases h
    refine ⟨_, ?_, rfl, rfl⟩
    simp only [Sem.run_bind, g1, Result.andThen_ok, binOp, eq2]
    rfl
  · have hr := ha.rep (by simp)
    simp only [RepV, RepC] at hr
    obtain ⟨A, c, us, e, _, _, _, hA⟩ := hr
    obtain ⟨b, o, rfl, _⟩ := hA (by simp)
    simp only [List.cons.injEq, and_true] at e
    subst e
    cases h
    refine ⟨_, ?_, rfl, rfl⟩
    simp only [Sem.run_bind, g1, Result.andThen_ok, binOp, eq1]
    rfl
  · have hr := ha.rep (by simp)
    simp only [RepV, RepC] at hr
    obtain ⟨A, c, us, e, _, _, _, hA⟩ := hr
    obtain ⟨b, o, rfl, _⟩ := hA (by simp)
    simp only [List.cons.injEq, and_true] at e
    subst e
    cases h
    refine ⟨_, ?_, rfl, rfl⟩
    simp only [Sem.run_bind, g1, Result.andThen_ok, binOp, eq1]
    rfl
  · cases h

theorem binI_run {op : BinOp} {t : Nat} {i : TI} (hi : TOk P t i) (hf : i.ifc = true) {a b z : D} {x y : Value} {nc : Bool} (ox oy : Operand) (hc : nc = true → ∃ v, oy = .const v) (ha : RepB w F a x) (hb : RepB w G b y) (h : binI nc op a b = some z) :
    ∃ v, (do eqGuard op t ox oy x y; binOp op t x y : Sem Value).run P w = .ok v w ∧ z = .v v ∧ flat v = true := by
  obtain ⟨ms, hu⟩ := hi.ifc hf
  have eq1 : ∀ (tx : TypeId) (v : Value), (Op.equal t (.iface tx v) .nilIface).run P w = .ok false w := fun tx v => by
    have h : ∀ d : Nat, (Op.equalIn (d + 1) t (.iface tx v) .nilIface).run P w = .ok false w := fun d => by
      simp [Op.equalIn, run_underlying hu]
    simp [Op.equal, Op.maxDepth, h 9999]
  have eq2 : (Op.equal t .nilIface .nilIface).run P w = .ok true w := by
    have h : ∀ d : Nat, (Op.equalIn (d + 1) t .nilIface .nilIface).run P w = .ok true w := fun d => by
      simp [Op.equalIn, run_underlying hu]
    simp [Op.equal, Op.maxDepth, h 9999]
  have g1 : ∀ (op : BinOp) (tx : TypeId) (v : Value), (eqGuard op t ox oy (.iface tx v) .nilIface).run P w = .ok () w := fun op tx v => by
    cases op <;> simp [eqGuard]
  have g2 : nc = true → ∀ op : BinOp, (eqGuard op t ox oy .nilIface .nilIface).run P w = .ok () w := fun hn op => by
    obtain ⟨v, rfl⟩ := hc hn
    cases op <;> simp [eqGuard]
  unfold binI at h
  split at h
  · obtain ⟨tx, v, e⟩ := ha.rep (by simp)
    obtain ⟨rfl, _⟩ := RepB_v hb
    simp only [List.cons.injEq, and_true] at e
    subst e
    cases h
    refine ⟨_, ?_, rfl, rfl⟩
    simp only [Sem.run_bind, g1, Result.andThen_ok, binOp, eq1]
    rfl
  · obtain ⟨tx, v, e⟩ := ha.rep (by simp)
    obtain ⟨rfl, _⟩ := RepB_v hb
    simp only [List.cons.injEq, and_true] at e
    subst e
    cases h
    refine ⟨_, ?_, rfl, rfl⟩
    simp only [Sem.run_bind, g1, Result.andThen_ok, binOp, eq1]
    rfl
  · obtain ⟨rfl, _⟩ := RepB_v ha
    obtain ⟨rfl, _⟩ := RepB_v hb
    split at h
    case isFalse => cases h
    rename_i hn
    cases h
    refine ⟨_, ?_, rfl, rfl⟩
    simp only [Sem.run_bind, g2 hn, Result.andThen_ok, binOp, eq2]
    rfl
  · obtain ⟨rfl, _⟩ := RepB_v ha
    obtain ⟨rfl, _⟩ := RepB_v hb
    split at h
    case isFalse => cases h
    rename_i hn
    cases h
    refine ⟨_, ?_, rfl, rfl⟩
    simp only [Sem.run_bind, g2 hn, Result.andThen_ok, binOp, eq2]
    rfl
  · cases h

theorem un_run {op : UnOp} {a z : D} {x : Value} (ha : RepB w F a x) (h : un op a = some z) : ∃ v, (Op.unary op x).run P w = .ok v w ∧ z = .v v ∧ flat v = true := by
  unfold un at h
  split at h
  · obtain ⟨rfl, _⟩ := RepB_v ha
    simp at h; subst h
    exact ⟨_, by simp [Op.unary, Op.intArith], rfl, rfl⟩
  · obtain ⟨rfl, _⟩ := RepB_v ha
    simp at h; subst h
    exact ⟨_, by simp [Op.unary], rfl, rfl⟩
  · cases h

theorem pick_run {q a b z : D} {xq xa xb : Value} (hq : RepB w F q xq) (ha : RepB w G a xa) (hb : RepB w G b xb) (h : pickD q a b = some z) : ∃ y, (do pure (if ← asBool xq then xa else xb) : Sem Value).run P w = .ok y w ∧ RepB w G z y := by
  unfold pickD at h
  split at h
  · obtain ⟨rfl, _⟩ := RepB_v hq
    simp at h; subst h
    exact ⟨xa, by simp [asBool], ha⟩
  · obtain ⟨rfl, _⟩ := RepB_v hq
    simp at h; subst h
    exact ⟨xb, by simp [asBool], hb⟩
  · cases h

theorem conv_run {src dst : Nat} {si di : TI} (hs : TOk P src si) (hd : TOk P dst di) {a z : D} {x : Value} (ha : RepB w F a x) (h : convD di.ik (match di.str with | true => si.str | false => false) a = some z) :
    ∃ v, (convert src dst x).run P w = .ok v w ∧ z = .v v ∧ flat v = true := by
  unfold convD at h
  split at h
  · rename_i k kk n hk
    obtain ⟨rfl, _⟩ := RepB_v ha
    simp at h; subst h
    obtain ⟨d, hu⟩ := Option.isSome_iff_exists.1 hs.und
    refine ⟨_, ?_, rfl, rfl⟩
    simp [convert, run_underlying hu, run_underlying (hd.ik k hk), Conv.intToInt]
  · rename_i s hk
    obtain ⟨rfl, _⟩ := RepB_v ha
    simp at h; subst h
    split at hk
    · rename_i hdd
      have h1 := (hd.str hdd).1
      have h2 := (hs.str hk).1
      refine ⟨_, ?_, rfl, rfl⟩
      simp [convert, run_underlying h1, run_underlying h2]
    · cases hk
  · cases h

/-- A type is a slice's. -/
theorem isSl_ok {t : Nat} {i : TI} (hi : TOk P t i) (h : isSl i = true) : P.underlying t = some (.slice i.elem) ∧ i.agg = false ∧ 0 < i.ez ∧ 0 < i.eb ∧ ∃ y, P.info? i.elem = some y ∧ y.size = i.ez ∧ y.bytes = i.eb := by
  unfold isSl at h
  split at h
  · cases h
  · rename_i h1 h2
    exact hi.sl (by intro h0; exact h2 h0) h1
  · cases h

theorem RepV_arr {z : Nat} {l : List D} {y : Value} (h : RepV w F (.arr z l) y) : ∃ A c us, y = .slice A l.length c ∧ l.length ≤ c ∧ RepL w F l us ∧ (∀ d ∈ l, d.width = z) ∧ (l ≠ [] → ∃ b o, A = some ⟨b, o, none⟩ ∧ F b ∧ CellsAt w b o us) := by
  simp only [RepV, RepC] at h
  obtain ⟨A, c, us, h1, h2⟩ := h
  simp at h1
  exact ⟨A, c, us, h1, h2⟩
theorem RepV_ptr {l : List D} {y : Value} (h : RepV w F (.ptr l) y) : ∃ b o us, y = .pointer (some ⟨b, o, none⟩) ∧ RepL w F l us ∧ l.all D.single = true ∧ F b ∧ CellsAt w b o us := by
  simp only [RepV, RepC] at h
  obtain ⟨b, o, us, h1, h2⟩ := h
  simp at h1
  exact ⟨b, o, us, h1, h2⟩

theorem len_run {t ty : Nat} {str : Bool} {a z : D} {x : Value} (ha : RepB w F a x) (hs : str = false → ∃ e, P.underlying t = some (.slice e)) (ht : str = true → P.underlying t = some .string) (h : lenD str a = some z) :
    ∃ v, (Builtin.len_ #[t] ty #[x]).run P w = .ok v w ∧ z = .v v ∧ flat v = true := by
  unfold lenD at h
  split at h
  · obtain ⟨e, hu⟩ := hs rfl
    obtain ⟨A, c, us, rfl, _⟩ := RepV_arr (ha.rep (by simp))
    simp at h; subst h
    exact ⟨_, by simp [Builtin.len_, run_underlying hu, goInt], rfl, rfl⟩
  · have hu := ht rfl
    obtain ⟨rfl, _⟩ := RepB_v ha
    simp at h; subst h
    exact ⟨_, by simp [Builtin.len_, run_underlying hu, goInt], rfl, rfl⟩
  · cases h

/-- A value at the head of some cells. -/
theorem takeD_rep {ag : Bool} {n : Nat} {l : List D} {us : List Value} {z : D} (hr : RepL w F l us) (hs : l.all D.single = true) (h : takeD ag n l = some z) :
    (ag = true → n ≤ us.length ∧ RepV w F z (.agg (us.take n).toArray)) ∧ (ag = false → ∃ u, us[0]? = some u ∧ RepV w F z u) := by
  have hl := (RepL_single l us hs hr).1
  unfold takeD at h
  constructor
  · rintro rfl
    simp only [if_true] at h
    split at h
    · rename_i hn
      simp at h; subst h
      refine ⟨by omega, _, rfl, ?_⟩
      simp only [RepC]
      exact ⟨(RepL_cut l us hs hr n).1, all_take hs n⟩
    · cases h
  · rintro rfl
    simp only [Bool.false_eq_true, if_false] at h
    cases l with
    | nil => cases h
    | cons d l =>
      simp at h; subst h
      simp only [List.all_cons, Bool.and_eq_true] at hs
      obtain ⟨v1, v2, rfl, h1, h2⟩ := RepL_cons.1 hr
      obtain ⟨y, rfl, _⟩ := RepC_len _ _ hs.1 h1
      exact ⟨y, rfl, (RepV_single hs.1).2 h1⟩

/-- A part of a struct's cells. -/
theorem part_run {t : Nat} {i : TI} (hi : TOk P t i) {off : Nat} {l : List D} {us : List Value} {z : D} (hr : RepL w F l us) (hs : l.all D.single = true) (h : takeD i.agg i.n (l.drop off) = some z) :
    ∃ y, (part t us.toArray off).run P w = .ok y w ∧ RepV w F z y := by
  obtain ⟨h1, h2⟩ := takeD_rep (RepL_cut l us hs hr off).2 (all_drop hs off) h
  cases ha : i.agg
  · obtain ⟨u, hu, hv⟩ := h2 ha
    refine ⟨u, ?_, hv⟩
    rw [List.getElem?_drop] at hu
    simp only [part, Sem.run_bind, hi.agg, ha, Result.andThen_ok, Bool.false_eq_true, if_false]
    have : us.toArray[off]? = some u := by simpa using hu
    rw [this]
    rfl
  · obtain ⟨hn, hv⟩ := h1 ha
    refine ⟨_, ?_, hv⟩
    simp only [part, Sem.run_bind, hi.agg, ha, Result.andThen_ok, if_true, hi.size, Sem.run_pure]
    congr 2
    apply Array.ext'
    simp

theorem fld_run {t ft f off : Nat} {i ti : TI} (hi : TOk P t i) (hf : TOk P ft ti) {a z : D} {x : Value} (hl : i.fs[f]? = some (off, ft)) (ha : RepB w F a x) (h : fldD ti.agg ti.n off a = some z) :
    ∃ y, (Instr.field t x f).run P w = .ok y w ∧ RepV w F z y := by
  unfold fldD at h
  split at h
  · rename_i l
    obtain ⟨us, rfl, hr⟩ := ha.rep (by simp)
    simp only [RepC] at hr
    obtain ⟨fs, fl, h1, h2, h3, h4, _⟩ := hi.fs f off ft hl
    obtain ⟨y, hy, hv⟩ := part_run hf hr.1 hr.2 h
    refine ⟨y, ?_, hv⟩
    simp only [Instr.field, Sem.run_bind, run_underlying h1, Result.andThen_ok, h2, asAgg, Sem.run_pure, h3, h4, hy]
  · cases h

/-- A value loaded from memory. -/
theorem load_run {t : Nat} {i : TI} (hi : TOk P t i) {b o : Nat} {l : List D} {us : List Value} {z : D} (hr : RepL w F l us) (hs : l.all D.single = true) (hc : CellsAt w b o us) (h : takeD i.agg i.n l = some z) :
    ∃ y, (Instr.loadAt t (.pointer (some ⟨b, o, none⟩))).run P w = .ok y w ∧ RepV w F z y := by
  obtain ⟨h1, h2⟩ := takeD_rep hr hs h
  cases ha : i.agg
  · obtain ⟨u, hu, hv⟩ := h2 ha
    refine ⟨u, ?_, hv⟩
    have hcell := hc 0 u hu
    rw [Nat.add_zero] at hcell
    simp only [Instr.loadAt, Instr.sureAddr, Sem.run_bind, Sem.run_pure, Result.andThen_ok, loadVar, hi.agg, ha, Bool.false_eq_true, if_false, run_load, hcell]
  · obtain ⟨hn, hv⟩ := h1 ha
    refine ⟨_, ?_, hv⟩
    have hlc : (loadCells ⟨b, o, none⟩ i.n).run P w = .ok (us.take i.n).toArray w := by
      have hlen : (us.take i.n).length = i.n := by rw [List.length_take]; omega
      have := run_loadCells_list (P := P) w ⟨b, o, none⟩ (us.take i.n) (fun j v hj => by rw [Addr.add_lit]; exact (hc.take i.n) j v hj)
      rwa [hlen] at this
    simp only [Instr.loadAt, Instr.sureAddr, Sem.run_bind, Sem.run_pure, Result.andThen_ok, loadVar, hi.agg, ha, if_true, hi.size, hlc]

theorem ld_run {t : Nat} {i : TI} (hi : TOk P t i) {a z : D} {x : Value} (ha : RepB w F a x) (h : ldD i.agg i.n a = some z) : ∃ y, (Instr.loadAt t x).run P w = .ok y w ∧ RepV w F z y := by
  unfold ldD at h
  split at h
  · obtain ⟨b, o, us, rfl, h1, h2, _, h4⟩ := RepV_ptr (ha.rep (by simp))
    exact load_run hi h1 h2 h4 h
  · cases h

theorem fieldAt_run {t f off ft : Nat} {i : TI} (hi : TOk P t i) (hl : i.fs[f]? = some (off, ft)) (b o : Nat) : (Instr.fieldAt t (.pointer (some ⟨b, o, none⟩)) f).run P w = .ok (.pointer (some ⟨b, o + off, none⟩)) w := by
  obtain ⟨fs, fl, h1, h2, h3, h4, _, y, h5, h6⟩ := hi.fs f off ft hl
  simp only [Instr.fieldAt, Sem.run_bind, run_underlying h1, Result.andThen_ok, h2, Instr.sureAddr, Sem.run_pure, fieldPlace, h4, run_sizeOf h5, if_neg h6, h3, Addr.add_lit]

theorem off_run {t f off ft : Nat} {i : TI} (hi : TOk P t i) (hl : i.fs[f]? = some (off, ft)) {a z : D} {x : Value} (ha : RepB w F a x) (h : offD off a = some z) : ∃ y, (Instr.fieldAt t x f).run P w = .ok y w ∧ RepV w F z y := by
  unfold offD at h
  split at h
  · rename_i l
    obtain ⟨b, o, us, rfl, h1, h2, h3, h4⟩ := RepV_ptr (ha.rep (by simp))
    simp at h; subst h
    refine ⟨_, fieldAt_run hi hl b o, ?_⟩
    simp only [RepV, RepC]
    exact ⟨b, o + off, us.drop off, rfl, (RepL_cut l us h2 h1 off).2, all_drop h2 off, h3, h4.drop off⟩
  · cases h

theorem indexAt_run {t : Nat} {i : TI} (hi : TOk P t i) (hsl : isSl i = true) (b o len c : Nat) (k : IntKind) (n : Int) (h0 : 0 ≤ n) (h1 : n < len) :
    (Instr.indexAt t (.slice (some ⟨b, o, none⟩) len c) (.int k n)).run P w = .ok (.pointer (some ⟨b, o + n.toNat * i.ez, none⟩)) w := by
  obtain ⟨hu, _, _, _, y, hy, hz, _⟩ := isSl_ok hi hsl
  simp only [Instr.indexAt, asIntOf, Sem.run_bind, Sem.run_pure, Result.andThen_ok, run_underlying hu, h0, h1, and_self, if_true, run_sizeOf hy, hz, Addr.add_lit]

theorem indexAr_run {t : Nat} {i : TI} (hi : TOk P t i) (ha : i.alen ≠ 0) (b o : Nat) (k : IntKind) (n : Int) (h0 : 0 ≤ n) (h1 : n < i.alen) :
    (Instr.indexAt t (.pointer (some ⟨b, o, none⟩)) (.int k n)).run P w = .ok (.pointer (some ⟨b, o + n.toNat * i.ez, none⟩)) w := by
  obtain ⟨hu, _, _, _, y, hy, hz⟩ := hi.ar ha
  simp only [Instr.indexAt, asIntOf, Sem.run_bind, Sem.run_pure, Result.andThen_ok, run_underlying hu, Instr.sureAddr, h0, h1, and_self, if_true, run_sizeOf hy, hz, Addr.add_lit]

theorem elem_run {t : Nat} {i : TI} (hi : TOk P t i) (hsl : isSl i = true) {a j : D} {x y : Value} {l : List D} (ha : RepB w F a x) (hj : RepB w G j y) (h : elemD i.ez a j = some l) :
    ∃ v, (Instr.indexAt t x y).run P w = .ok v w ∧ RepV w F (.ptr l) v := by
  unfold elemD at h
  split at h
  · rename_i z' m k n
    split at h
    · rename_i hz
      obtain ⟨rfl, h0⟩ := hz
      obtain ⟨d, hd, rfl⟩ := Option.map_eq_some_iff.1 h
      obtain ⟨rfl, _⟩ := RepB_v hj
      obtain ⟨A, c, us, rfl, h1, h2, h3, h4⟩ := RepV_arr (ha.rep (by simp))
      have hn : n.toNat < m.length := (List.getElem?_eq_some_iff.1 hd).1
      obtain ⟨b, o, rfl, hb, hc⟩ := h4 (by intro e; subst e; simp at hn)
      refine ⟨_, indexAt_run hi hsl b o _ c k n h0 (by omega), ?_⟩
      obtain ⟨p, q, r, rfl, hp, hq, hr, _⟩ := RepL_get m us h2 h3 _ d hd
      simp only [RepV, RepC]
      have hrr : RepL w F d.cells q ∧ d.cells.all D.single = true := by
        rcases RepC_kind hr with ⟨l, rfl⟩ | hs
        · simpa only [RepC, D.cells] using hr
        · rw [(width_single hs).2]
          exact ⟨RepL_cons.2 ⟨q, [], by simp, hr, RepL_nil.2 rfl⟩, by simp [hs]⟩
      refine ⟨b, _, q, rfl, hrr.1, hrr.2, hb, ?_⟩
      rw [← hp]
      exact hc.part
    · cases h
  · cases h

theorem ixD_run {t : Nat} {i : TI} (hi : TOk P t i) (hal : i.alen ≠ 0) {a j z : D} {x y : Value} (ha : RepB w F a x) (hj : RepB w G j y) (h : ixD i.alen i.ez a j = some z) : ∃ v, (Instr.indexAt t x y).run P w = .ok v w ∧ RepV w F z v := by
  unfold ixD at h
  split at h
  · rename_i l k n
    split at h
    · rename_i hn
      simp at h; subst h
      obtain ⟨rfl, _⟩ := RepB_v hj
      obtain ⟨b, o, us, rfl, h1, h2, h3, h4⟩ := RepV_ptr (ha.rep (by simp))
      refine ⟨_, indexAr_run hi hal b o k n hn.1 hn.2, ?_⟩
      simp only [RepV, RepC]
      exact ⟨b, _, _, rfl, (RepL_cut l us h2 h1 _).2, all_drop h2 _, h3, h4.drop _⟩
    · cases h
  · cases h

theorem ixA_run {t et : Nat} {i e : TI} (hi : TOk P t i) (he : TOk P et e) (hal : i.alen ≠ 0) (hel : i.elem = et) {a j z : D} {x y : Value} (ha : RepB w F a x) (hj : RepB w G j y) (h : ixA e.agg i.alen i.ez a j = some z) : ∃ v, (Instr.index t x y).run P w = .ok v w ∧ RepV w F z v := by
  unfold ixA at h
  split at h
  · rename_i l k n
    split at h
    · rename_i hn
      obtain ⟨rfl, _⟩ := RepB_v hj
      obtain ⟨us, rfl, hr⟩ := ha.rep (by simp)
      simp only [RepC] at hr
      obtain ⟨hu, _, _, _, y, hy, hz⟩ := hi.ar hal
      have hen : e.n = i.ez := by
        obtain ⟨x', _, h1, h2, _⟩ := he.info
        rw [hel] at hy
        rw [hy] at h1
        cases h1
        omega
      rw [← hen] at h
      obtain ⟨v, hv, hrep⟩ := part_run he hr.1 hr.2 h
      refine ⟨v, ?_, hrep⟩
      subst hel
      simp only [Instr.index, asIntOf, Sem.run_bind, Sem.run_pure, Result.andThen_ok, run_underlying hu, hn.1, hn.2, and_self, if_true, run_sizeOf hy, hz]
      rw [← hen]
      exact hv
    · cases h
  · cases h

theorem char_run {t : Nat} {i : TI} (hi : TOk P t i) (hs : i.str = true) {a j z : D} {x y : Value} (ha : RepB w F a x) (hj : RepB w G j y) (h : charD a j = some z) : ∃ v, (Instr.index t x y).run P w = .ok v w ∧ z = .v v ∧ flat v = true := by
  unfold charD at h
  split at h
  · rename_i s k n
    split at h
    · rename_i h0
      obtain ⟨b, hb, rfl⟩ := Option.map_eq_some_iff.1 h
      obtain ⟨rfl, _⟩ := RepB_v ha
      obtain ⟨rfl, _⟩ := RepB_v hj
      refine ⟨_, ?_, rfl, rfl⟩
      have hb' : s[n.toNat]? = some b := by
        have hlt : n.toNat < s.data.toList.length := (List.getElem?_eq_some_iff.1 hb).1
        have hlt' : n.toNat < s.size := by rw [Array.length_toList] at hlt; exact hlt
        rw [getElem?_pos s n.toNat hlt']
        have h2 := (List.getElem?_eq_some_iff.1 hb).2
        refine congrArg some ?_
        rw [← h2, Array.getElem_toList]
        rfl
      simp only [Instr.index, asIntOf, Sem.run_bind, Sem.run_pure, Result.andThen_ok, run_underlying (hi.str hs).1]
      rw [if_pos h0, hb']
      rfl
    · cases h
  · cases h

/-- The lower bound of a slice: given, or none. -/
def LoV (w : World) (F : Nat → Prop) (lo : D) (v : Option Value) : Prop := (∃ y, v = some y ∧ RepB w F lo y) ∨ (v = none ∧ lo = I 0)
theorem LoV_int {k : IntKind} {p : Int} {v : Option Value} (h : LoV w F (.v (.int k p)) v) : v = some (.int k p) ∨ (v = none ∧ p = 0) := by
  rcases h with ⟨y, rfl, hy⟩ | ⟨rfl, e⟩
  · obtain ⟨rfl, _⟩ := RepB_v hy
    exact .inl rfl
  · simp at e
    exact .inr ⟨rfl, e.2⟩

theorem slice_run {t : Nat} {i : TI} (hi : TOk P t i) (hsl : i.str = false → isSl i = true) {a lo hi' z : D} {x yh : Value} {yl : Option Value} (ha : RepB w F a x) (hl : LoV w G lo yl) (hh : RepB w G hi' yh) (h : sliceD i.str i.ez a lo hi' = some z) :
    ∃ v, (Instr.sliceAt t x yl (some yh) none).run P w = .ok v w ∧ RepV w F z v := by
  unfold sliceD at h
  split at h
  · rename_i z' l k p k' q hs
    split at h
    · rename_i hc
      obtain ⟨rfl, h0, h1, h2⟩ := hc
      simp at h; subst h
      have hl := LoV_int hl
      obtain ⟨rfl, _⟩ := RepB_v hh
      obtain ⟨hu, _, hez, _, y, hy, hz, _⟩ := isSl_ok hi (hsl hs)
      obtain ⟨A, c, us, rfl, g1, g2, g3, g4⟩ := RepV_arr (ha.rep (by simp))
      have he : P.elem t = i.elem := by simp [Program.elem, hu]
      refine ⟨sliced A p.toNat q.toNat c i.ez, ?_, ?_⟩
      · rcases hl with rfl | ⟨rfl, rfl⟩
        · rw [run_sliceAt_slice w t _ _ _ _ (by rw [he]; exact hu), run_slice_lh w t A _ c (by rw [he]; exact hu) k k' p q h0 h1 (by omega), he, run_sizeOf hy, hz]
          rfl
        · rw [run_sliceAt_slice w t _ _ _ _ (by rw [he]; exact hu), run_slice_h w t A _ c (by rw [he]; exact hu) k' q (by omega) (by omega), he, run_sizeOf hy, hz]
          rfl
      · simp only [RepV, RepC, sliced]
        have hlen : ((l.take q.toNat).drop p.toNat).length = q.toNat - p.toNat := by rw [List.length_drop, List.length_take]; omega
        obtain ⟨t1, _⟩ := RepL_take l us g2 g3 q.toNat
        obtain ⟨_, t2⟩ := RepL_take (l.take q.toNat) (us.take (q.toNat * i.ez)) t1 (fun d hd => g3 d (List.mem_of_mem_take hd)) p.toNat
        refine ⟨_, c - p.toNat, _, by rw [hlen], by rw [hlen]; omega, t2, fun d hd => g3 d (List.mem_of_mem_take (List.mem_of_mem_drop hd)), fun hne => ?_⟩
        have hpos : p.toNat < q.toNat := by
          rcases Nat.lt_or_ge p.toNat q.toNat with hlt | hge
          · exact hlt
          · exact absurd (List.eq_nil_of_length_eq_zero (by rw [hlen]; omega)) hne
        obtain ⟨b, o, rfl, hb, hcell⟩ := g4 (by intro e; subst e; simp at h2; omega)
        refine ⟨b, o + p.toNat * i.ez, ?_, hb, (hcell.take _).drop _⟩
        rw [if_neg (by omega)]
        simp [Addr.add_lit]
    · cases h
  · rename_i s k p k' q hs
    split at h
    · rename_i hc
      obtain ⟨h0, h1, h2⟩ := hc
      simp at h; subst h
      obtain ⟨rfl, _⟩ := RepB_v ha
      have hl := LoV_int hl
      obtain ⟨rfl, _⟩ := RepB_v hh
      have hu := (hi.str hs).1
      refine ⟨_, ?_, RepV_scalar rfl⟩
      have e1 : ((q.toNat : Nat) : Int) = q := by omega
      rcases hl with rfl | ⟨rfl, rfl⟩
      case inr => rw [run_sliceAt_string w t _ _ _ _ hu, run_slice_string_h w t s hu k' q (by omega) (by omega)]; rfl
      simp [run_sliceAt_string w t _ _ _ _ hu, Instr.slice, run_underlying hu, Instr.sliceBounds, run_sliceBound w k' q s.size _ (by omega) h2, run_sliceBound w k p q.toNat _ h0 (by omega)]
    · cases h
  · cases h

theorem sliceHi_run {t : Nat} {i : TI} (hi : TOk P t i) (hsl : i.str = false → isSl i = true) {a lo z : D} {x : Value} {yl : Option Value} (ha : RepB w F a x) (hl : LoV w G lo yl) (h : sliceHi i.str i.ez a lo = some z) :
    ∃ v, (Instr.sliceAt t x yl none none).run P w = .ok v w ∧ RepV w F z v := by
  unfold sliceHi at h
  split at h
  · rename_i z' l k p hs
    split at h
    · rename_i hc
      obtain ⟨rfl, h0, h1⟩ := hc
      simp at h; subst h
      have hl := LoV_int hl
      obtain ⟨hu, _, hez, _, y, hy, hz, _⟩ := isSl_ok hi (hsl hs)
      obtain ⟨A, c, us, rfl, g1, g2, g3, g4⟩ := RepV_arr (ha.rep (by simp))
      have he : P.elem t = i.elem := by simp [Program.elem, hu]
      refine ⟨sliced A p.toNat l.length c i.ez, ?_, ?_⟩
      · rcases hl with rfl | ⟨rfl, rfl⟩
        · rw [run_sliceAt_slice w t _ _ _ _ (by rw [he]; exact hu), run_slice_l w t A _ c (by rw [he]; exact hu) k p h0 h1, he, run_sizeOf hy, hz]
          rfl
        · rw [run_sliceAt_slice w t _ _ _ _ (by rw [he]; exact hu), run_slice_all w t A _ c (by rw [he]; exact hu), he, run_sizeOf hy, hz]
          rfl
      · simp only [RepV, RepC, sliced]
        obtain ⟨_, t2⟩ := RepL_take l us g2 g3 p.toNat
        refine ⟨_, c - p.toNat, _, by rw [List.length_drop], by rw [List.length_drop]; omega, t2, fun d hd => g3 d (List.mem_of_mem_drop hd), fun hne => ?_⟩
        have hpos : p.toNat < l.length := by
          rcases Nat.lt_or_ge p.toNat l.length with hlt | hge
          · exact hlt
          · exact absurd (List.drop_eq_nil_of_le hge) hne
        obtain ⟨b, o, rfl, hb, hcell⟩ := g4 (by intro e; subst e; simp at hpos)
        refine ⟨b, o + p.toNat * i.ez, ?_, hb, hcell.drop _⟩
        rw [if_neg (by omega)]
        simp [Addr.add_lit]
    · cases h
  · rename_i s k p hs
    split at h
    · rename_i hc
      obtain ⟨h0, h1⟩ := hc
      simp at h; subst h
      obtain ⟨rfl, _⟩ := RepB_v ha
      have hl := LoV_int hl
      have hu := (hi.str hs).1
      refine ⟨_, ?_, RepV_scalar rfl⟩
      rcases hl with rfl | ⟨rfl, rfl⟩
      case inr => rw [run_sliceAt_string w t _ _ _ _ hu, run_slice_string_all w t s hu]; rfl
      simp [run_sliceAt_string w t _ _ _ _ hu, Instr.slice, run_underlying hu, Instr.sliceBounds, run_sliceBound w k p s.size _ h0 h1]
    · cases h
  · cases h

theorem min_run {a b z : D} {x y : Value} (ha : RepB w F a x) (hb : RepB w G b y) (h : minD a b = some z) : ∃ v, (Builtin.min2 x y).run P w = .ok v w ∧ z = .v v ∧ flat v = true := by
  unfold minD at h
  split at h
  · obtain ⟨rfl, _⟩ := RepB_v ha
    obtain ⟨rfl, _⟩ := RepB_v hb
    simp at h; subst h
    exact ⟨_, by simp [Builtin.min2], rfl, rfl⟩
  · cases h
theorem max_run {a b z : D} {x y : Value} (ha : RepB w F a x) (hb : RepB w G b y) (h : maxD a b = some z) : ∃ v, (Builtin.max2 x y).run P w = .ok v w ∧ z = .v v ∧ flat v = true := by
  unfold maxD at h
  split at h
  · obtain ⟨rfl, _⟩ := RepB_v ha
    obtain ⟨rfl, _⟩ := RepB_v hb
    simp at h; subst h
    exact ⟨_, by simp [Builtin.max2], rfl, rfl⟩
  · cases h

/-- Operands, one by one. -/
def RepBs (w : World) (F : Nat → Prop) : List D → List Value → Prop
  | [], [] => True
  | d :: ds, y :: ys => RepB w F d y ∧ RepBs w F ds ys
  | _, _ => False

theorem fold_run {f : D → D → Option D} {g : Value → Value → Sem Value} (hf : ∀ (a b z : D) (x y : Value), RepB w F a x → RepB w F b y → f a b = some z → ∃ v, (g x y).run P w = .ok v w ∧ z = .v v ∧ flat v = true) :
    ∀ (ds : List D) (ys : List Value) (z : D) (x : Value), flat x = true → RepBs w F ds ys → foldB f (.v x) ds = some z → ∃ v, (ys.foldlM g x).run P w = .ok v w ∧ z = .v v ∧ flat v = true
  | [], [], z, x, ha, _, h => by
    simp only [foldB, Option.some.injEq] at h
    subst h
    exact ⟨x, by simp, rfl, ha⟩
  | d :: ds, y :: ys, z, x, ha, hb, h => by
    simp only [foldB] at h
    obtain ⟨u, hu, h⟩ := Option.bind_eq_some_iff.1 h
    obtain ⟨v, h1, rfl, h3⟩ := hf (.v x) d u x y (.inr (RepV_scalar ha)) hb.1 hu
    obtain ⟨v', h4, h5⟩ := fold_run hf ds ys z v h3 hb.2 h
    exact ⟨v', by simp [h1, h4], h5⟩
  | [], _ :: _, _, _, _, hb, _ => hb.elim
  | _ :: _, [], _, _, _, hb, _ => hb.elim
theorem fold_run2 {f : D → D → Option D} {g : Value → Value → Sem Value} (hf : ∀ (a b z : D) (x y : Value), RepB w F a x → RepB w F b y → f a b = some z → ∃ v, (g x y).run P w = .ok v w ∧ z = .v v ∧ flat v = true)
    {a b : D} {ds : List D} {x y : Value} {ys : List Value} {z : D} (ha : RepB w F a x) (hb : RepB w F b y) (hd : RepBs w F ds ys) (h : foldB f a (b :: ds) = some z) : ∃ v, ((y :: ys).foldlM g x).run P w = .ok v w ∧ z = .v v ∧ flat v = true := by
  simp only [foldB] at h
  obtain ⟨u, hu, h⟩ := Option.bind_eq_some_iff.1 h
  obtain ⟨v, h1, rfl, h3⟩ := hf a b u x y ha hb hu
  obtain ⟨v', h4, h5⟩ := fold_run hf ds ys z v h3 hd h
  exact ⟨v', by simp [h1, h4], h5⟩

theorem bytes_run : ∀ (l : List D) (us : List Value) (b : List UInt8), bytesOf l = some b → RepL w F l us → us.length = b.length ∧ ∀ acc : ByteArray, (us.foldlM (fun (s : ByteArray) (c : Value) => (match c with
      | .int .u8 n => pure (s.push (UInt8.ofNat n.toNat))
      | _ => stuck "bytesToString: byte expected" : Sem ByteArray)) acc).run P w = .ok ⟨acc.data ++ b.toArray⟩ w
  | [], us, b, h, hr => by
    simp [bytesOf] at h
    subst h
    rw [RepL_nil] at hr
    subst hr
    exact ⟨rfl, fun acc => by simp⟩
  | d :: l, us, b, h, hr => by
    unfold bytesOf at h
    split at h
    · cases ‹_ = []›
    · rename_i n l' e
      cases e
      obtain ⟨b', hb, rfl⟩ := Option.map_eq_some_iff.1 h
      obtain ⟨v1, v2, rfl, h1, h2⟩ := RepL_cons.1 hr
      simp only [RepC] at h1
      obtain ⟨rfl, _⟩ := h1
      obtain ⟨g1, g2⟩ := bytes_run l v2 b' hb h2
      refine ⟨by simp [g1], fun acc => ?_⟩
      simp only [List.singleton_append, List.foldlM_cons, Sem.run_bind, Sem.run_pure, Result.andThen_ok, g2]
      congr 2
      simp [ByteArray.push]
    · cases h

theorem nil_run {a z : D} {x : Value} (ha : RepB w F a x) (h : nilD a = some z) (o : Oper) (q : Operand) (ρ : Operand → Value) (ho : o.op = .nilCheck q) (hq : ρ q = x) : (execOp ρ o).run P w = .ok (.value x) w ∧ RepV w F z x := by
  unfold nilD at h
  split at h
  · have hr := ha.rep (by simp)
    obtain ⟨b, of, us, rfl, _⟩ := RepV_ptr hr
    simp at h; subst h
    exact ⟨by simp [execOp, ho, hq], hr⟩
  · have hr := ha.rep (by simp)
    simp at h; subst h
    have hr' := hr
    simp only [RepV, RepC] at hr'
    obtain ⟨us, hx, _⟩ := hr'
    simp at hx; subst hx
    exact ⟨by simp [execOp, ho, hq], hr⟩
  · cases h

theorem str_run {src dst : Nat} {si di ei : TI} (hs : TOk P src si) (hd : TOk P dst di) (he : TOk P si.elem ei) (hsl : isSl si = true) (hb : ei.ik = some .u8) (hds : di.str = true) {a z : D} {x : Value} (ha : RepV w F a x) (h : strD a = some z) :
    ∃ v, (convert src dst x).run P w = .ok v w ∧ z = .v v ∧ flat v = true := by
  unfold strD at h
  split at h
  · rename_i zz l
    obtain ⟨b, hbb, rfl⟩ := Option.map_eq_some_iff.1 h
    obtain ⟨A, c, us, rfl, g1, g2, g3, g4⟩ := RepV_arr ha
    obtain ⟨hu, _⟩ := isSl_ok hs hsl
    have hel := he.ik _ hb
    have hst := (hd.str hds).1
    refine ⟨_, ?_, rfl, rfl⟩
    rw [run_convert_bytes_string w src dst si.elem A _ c hu hel hst]
    by_cases hl : l = []
    · subst hl
      simp [bytesOf] at hbb
      subst hbb
      cases A with
      | none => simp [Conv.bytesToString]; rfl
      | some A => simp [Conv.bytesToString, loadCells, loadCellsFrom]; rfl
    · obtain ⟨bb, o, rfl, _, hc⟩ := g4 hl
      have key : ∀ (l : List D) (us : List Value) (b : List UInt8), bytesOf l = some b → RepL w F l us → ∃ ns : List Int, us = ns.map (Value.int .u8) ∧ ns.map (fun n => UInt8.ofNat n.toNat) = b ∧ l.length = ns.length := by
        intro l
        induction l with
        | nil =>
          intro us b h hr
          simp [bytesOf] at h
          rw [RepL_nil] at hr
          exact ⟨[], by simp [hr], by simp [h], rfl⟩
        | cons d l ih =>
          intro us b h hr
          unfold bytesOf at h
          split at h
          · cases ‹_ = []›
          · rename_i n l' e
            cases e
            obtain ⟨b', hb', rfl⟩ := Option.map_eq_some_iff.1 h
            obtain ⟨v1, v2, rfl, h1, h2⟩ := RepL_cons.1 hr
            simp only [RepC] at h1
            obtain ⟨rfl, _⟩ := h1
            obtain ⟨ns, rfl, e2, e3⟩ := ih v2 b' hb' h2
            exact ⟨n :: ns, by simp, by simp [e2], by simp [e3]⟩
          · cases h
      obtain ⟨ns, rfl, e2, e3⟩ := key l us b hbb g2
      have hlc : (loadCells ⟨bb, o, none⟩ l.length).run P w = .ok (ns.map (Value.int .u8)).toArray w := by
        have := run_loadCells_list (P := P) w ⟨bb, o, none⟩ (ns.map (Value.int .u8)) (fun j v hj => by rw [Addr.add_lit]; exact hc j v hj)
        rwa [List.length_map, ← e3] at this
      rw [run_bytesToString w _ _ c ns hlc]
      congr 2
      have : ∀ (ns : List Int) (acc : ByteArray), ns.foldl (fun r n => r.push (UInt8.ofNat n.toNat)) acc = ⟨acc.data ++ (ns.map (fun n => UInt8.ofNat n.toNat)).toArray⟩ := by
        intro ns
        induction ns with
        | nil => intro acc; simp
        | cons n ns ih =>
          intro acc
          rw [List.foldl_cons, ih]
          congr 1
          simp [ByteArray.push]
      rw [this, e2]
      congr 1
      show #[] ++ b.toArray = b.toArray
      simp
  · cases h

/-- Cells replaced. -/
theorem RepL_put {l vs : List D} {us ws : List Value} (hl : l.all D.single = true) (hv : vs.all D.single = true) (hr : RepL w F l us) (hw : RepL w F vs ws) (f : Nat) :
    RepL w F (putCells l f vs) (us.take f ++ ws ++ us.drop (f + ws.length)) ∧ (putCells l f vs).all D.single = true := by
  have e := (RepL_single _ _ hv hw).1
  refine ⟨?_, ?_⟩
  · unfold putCells
    rw [e]
    exact (RepL_append _ _ _).2 ⟨_, _, rfl, (RepL_append _ _ _).2 ⟨_, _, rfl, (RepL_cut l us hl hr f).1, hw⟩, (RepL_cut l us hl hr _).2⟩
  · unfold putCells
    rw [all_append, all_append, all_take hl, all_drop hl, hv]; rfl

theorem fill_set : ∀ (vs : List Value) (off k : Nat) (us : List Value), off + k + vs.length ≤ us.length →
    ((vs.zipIdx k).foldl (fun (cs : Array Value) (p : Value × Nat) => cs.setIfInBounds (off + p.2) p.1) us.toArray) = (us.take (off + k) ++ vs ++ us.drop (off + k + vs.length)).toArray
  | [], off, k, us, h => by simp
  | v :: vs, off, k, us, h => by
    simp only [List.length_cons] at h
    have ih := fill_set vs off (k + 1) (us.set (off + k) v) (by simp; omega)
    simp only [List.zipIdx_cons, List.foldl_cons, List.setIfInBounds_toArray]
    rw [ih]
    congr 1
    have hs : us.set (off + k) v = us.take (off + k) ++ v :: us.drop (off + k + 1) := List.set_eq_take_append_cons_drop.trans (by rw [if_pos (by omega)])
    have hl : (us.take (off + k)).length = off + k := by rw [List.length_take]; omega
    rw [hs, ← Nat.add_assoc]
    have e3 : us.drop (off + k + (v :: vs).length) = (us.drop (off + k + 1)).drop vs.length := by rw [List.drop_drop, List.length_cons]; congr 1; omega
    rw [e3]
    generalize us.take (off + k) = p at hl
    generalize us.drop (off + k + 1) = r
    rw [← hl, List.take_length_add_append, show p.length + 1 + vs.length = p.length + (vs.length + 1) from by omega, List.drop_length_add_append]
    simp

/-- The parts of a struct laid into its cells. -/
theorem fill_run (place : Nat → Option (Nat × Nat)) : ∀ (parts : List (Nat × Value)) (ps : List (Nat × Nat)) (xs cs cs' : List D) (us : List Value), parts.map (fun p => place p.1) = ps.map some → RepBs w F xs (parts.map (·.2)) → cs.all D.single = true → RepL w F cs us →
    fillD ps xs cs = some cs' → ∃ us', Instr.fill place us.toArray parts = some us'.toArray ∧ RepL w F cs' us' ∧ cs'.all D.single = true
  | [], ps, xs, cs, cs', us, hp, hx, hs, hr, h => by
    cases ps <;> simp at hp
    cases xs with
    | cons _ _ => exact hx.elim
    | nil =>
      simp [fillD] at h
      subst h
      exact ⟨us, rfl, hr, hs⟩
  | (i, v) :: parts, ps, xs, cs, cs', us, hp, hx, hs, hr, h => by
    cases ps with
    | nil => simp at hp
    | cons p ps =>
    cases xs with
    | nil => exact hx.elim
    | cons x xs =>
      obtain ⟨off, n⟩ := p
      simp only [List.map_cons, List.cons.injEq] at hp
      simp only [fillD] at h
      split at h
      · rename_i hc
        obtain ⟨h1, h2, h3⟩ := hc
        have hxr : RepV w F x v := hx.1.rep (by intro e; subst e; simp [D.cells, D.single] at h3)
        obtain ⟨_, g2, g3⟩ := RepV_cells hxr (not_tup h3)
        obtain ⟨p1, p2⟩ := RepL_put hs g2 hr g3 off
        have e1 := (RepL_single _ _ g2 g3).1
        have e2 := (RepL_single _ _ hs hr).1
        obtain ⟨us', q1, q2, q3⟩ := fill_run place parts ps xs _ cs' _ hp.2 hx.2 p2 p1 h
        refine ⟨us', ?_, q2, q3⟩
        simp only [Instr.fill, hp.1]
        have e3 : v.cells.size = n := by rw [← h1, ← e1]; simp
        rw [if_neg (by simp [e3]; omega)]
        have hk := fill_set v.cells.toList off 0 us (by rw [e1, h1]; omega)
        simp only [Nat.add_zero] at hk
        rw [← hk] at q1
        rw [← q1]
        congr 1
        rw [← Array.foldl_toList]
        simp
      · cases h

end
end Go.V
/-
  The state of a call, said of data: the invariant, and the step that keeps it.
-/
namespace Go.V
open Go.RowKit

/-! ### lists of slots -/
def getAll (δ : List D) : List Nat → List D
  | [] => []
  | s :: ss => nth δ s :: getAll δ ss

theorem nthC_eq {R : Type} : ∀ (δ : List D) (s : Nat) (k : D → R), nthC δ s k = k (nth δ s)
  | [], _, _ => by simp [nthC, nth]
  | _ :: _, 0, _ => by simp [nthC, nth]
  | _ :: l, s + 1, k => by simpa [nthC, nth] using nthC_eq l s k
theorem setC_eq {R : Type} : ∀ (δ : List D) (s : Nat) (d : D) (k : List D → R), setC δ s d k = k (setAt δ s d)
  | [], _, _, _ => by simp [setC, setAt]
  | _ :: _, 0, _, _ => by simp [setC, setAt]
  | _ :: l, s + 1, d, k => by simpa [setC, setAt] using setC_eq l s d _
theorem getC_eq {R : Type} (δ : List D) : ∀ (ss : List Nat) (k : List D → R), getC δ ss k = k (getAll δ ss)
  | [], _ => by simp [getC, getAll]
  | s :: ss, k => by simp only [getC, getAll, nthC_eq]; exact getC_eq δ ss _
theorem setManyC_eq {R : Type} : ∀ (δ : List D) (ss : List Nat) (ds : List D) (k : List D → R), setManyC δ ss ds k = k (setMany δ ss ds)
  | _, [], _, _ => by simp [setManyC, setMany]
  | δ, s :: ss, [], k => by simp only [setManyC, setMany, setC_eq]; exact setManyC_eq _ ss [] k
  | δ, s :: ss, d :: ds, k => by simp only [setManyC, setMany, setC_eq]; exact setManyC_eq _ ss ds k
theorem app_eq {α : Type} : ∀ (a b : List α), app a b = a ++ b
  | [], _ => rfl
  | _ :: l, b => by simp [app, app_eq l b]
theorem mapD_eq {α β : Type} (f : α → β) : ∀ (l : List α), mapD f l = l.map f
  | [] => rfl
  | _ :: l => by simp [mapD, mapD_eq f l]
theorem lenN_eq {α : Type} : ∀ (l : List α), lenN l = l.length
  | [] => rfl
  | _ :: l => by simp [lenN, lenN_eq l]
theorem dropN_eq {α : Type} : ∀ (n : Nat) (l : List α), dropN n l = l.drop n
  | 0, l => by simp [dropN]
  | n + 1, [] => by simp [dropN]
  | n + 1, _ :: l => by simp [dropN, dropN_eq n l]
theorem memN_eq : ∀ (n : Nat) (l : List Nat), memN n l = decide (n ∈ l)
  | _, [] => by simp [memN]
  | n, m :: l => by
    simp only [memN]
    cases h : Nat.beq n m
    · have : n ≠ m := fun e => by subst e; simp at h
      simp [memN_eq n l, this]
    · have : n = m := Nat.eq_of_beq_eq_true h
      simp [this]
theorem nthO_eq {α : Type} : ∀ (l : List α) (n : Nat), nthO l n = l[n]?
  | [], _ => by simp [nthO]
  | _ :: _, 0 => by simp [nthO]
  | _ :: l, n + 1 => by simpa [nthO] using nthO_eq l n
theorem nth_eq : ∀ (l : List D) (n : Nat), nth l n = l.getD n .bad
  | [], _ => by simp [nth]
  | _ :: _, 0 => by simp [nth]
  | _ :: l, n + 1 => by simpa [nth] using nth_eq l n

theorem len_setAt : ∀ (δ : List D) (s : Nat) (d : D), (setAt δ s d).length = δ.length
  | [], _, _ => by simp [setAt]
  | _ :: _, 0, _ => by simp [setAt]
  | _ :: l, s + 1, d => by simp [setAt, len_setAt l s d]
theorem len_setMany : ∀ (δ : List D) (ss : List Nat) (ds : List D), (setMany δ ss ds).length = δ.length
  | _, [], _ => by simp [setMany]
  | δ, s :: ss, [] => by simp [setMany, len_setMany _ ss, len_setAt]
  | δ, s :: ss, d :: ds => by simp [setMany, len_setMany _ ss, len_setAt]
theorem nth_setAt_ne : ∀ (δ : List D) (s i : Nat) (d : D), s ≠ i → nth (setAt δ i d) s = nth δ s
  | [], _, _, _, _ => by simp [setAt]
  | _ :: _, 0, 0, _, h => absurd rfl h
  | _ :: _, _ + 1, 0, _, _ => by simp [nth]
  | _ :: _, 0, _ + 1, _, _ => by simp [nth]
  | _ :: l, s + 1, i + 1, d, h => by simpa [setAt, nth] using nth_setAt_ne l s i d (by omega)
theorem nth_setAt_eq : ∀ (δ : List D) (s : Nat) (d : D), nth (setAt δ s d) s = if s < δ.length then d else .bad
  | [], _, _ => by simp [nth]
  | _ :: _, 0, _ => by simp [nth]
  | _ :: l, s + 1, d => by simpa [setAt, nth] using nth_setAt_eq l s d
theorem nth_setMany_notin : ∀ (ss : List Nat) (δ : List D) (ds : List D) (s : Nat), s ∉ ss → nth (setMany δ ss ds) s = nth δ s
  | [], _, _, _, _ => by simp [setMany]
  | i :: ss, δ, [], s, h => by
    simp only [List.mem_cons, not_or] at h
    simp only [setMany]
    rw [nth_setMany_notin ss _ _ s h.2, nth_setAt_ne _ _ _ _ h.1]
  | i :: ss, δ, d :: ds, s, h => by
    simp only [List.mem_cons, not_or] at h
    simp only [setMany]
    rw [nth_setMany_notin ss _ _ s h.2, nth_setAt_ne _ _ _ _ h.1]
/-- Slots made void. -/
theorem nth_kill : ∀ (ss : List Nat) (δ : List D) (s : Nat), s ∈ ss → nth (setMany δ ss []) s = .bad
  | i :: ss, δ, s, h => by
    simp only [setMany]
    by_cases hs : s ∈ ss
    · exact nth_kill ss _ s hs
    · rw [nth_setMany_notin ss _ _ s hs]
      have : s = i := by simpa [hs] using h
      subst this
      rw [nth_setAt_eq]
      split <;> rfl
theorem setMany_append : ∀ (ss ts : List Nat) (δ : List D) (ds : List D), ds.length = ss.length → setMany δ (ss ++ ts) ds = setMany (setMany δ ss ds) ts []
  | [], ts, δ, ds, h => by
    have : ds = [] := List.eq_nil_of_length_eq_zero h
    subst this
    simp [setMany]
  | s :: ss, ts, δ, d :: ds, h => by
    simp only [List.cons_append, setMany]
    exact setMany_append ss ts _ ds (by simpa using h)
theorem nth_setMany_or : ∀ (ss : List Nat) (δ : List D) (s : Nat), nth (setMany δ ss []) s = nth δ s ∨ nth (setMany δ ss []) s = .bad := by
  intro ss δ s
  by_cases h : s ∈ ss
  · exact .inr (nth_kill ss δ s h)
  · exact .inl (nth_setMany_notin ss δ [] s h)

theorem mem_deps {r : Nat} : ∀ (K : List Kd) (n s : Nat), (nthK K s = .via r ∨ nthK K s = .ref r) → n + s ∈ deps r K n
  | [], n, s, h => by simp [nthK] at h
  | k :: K, n, 0, h => by
    simp only [nthK] at h
    rcases h with rfl | rfl <;> simp [deps]
  | k :: K, n, s + 1, h => by
    have ih := mem_deps K (n + 1) s (by simpa [nthK] using h)
    have e : n + (s + 1) = n + 1 + s := by omega
    rw [e]
    cases k <;> simp only [deps] <;> first
      | exact ih
      | (split <;> first | exact ih | exact List.mem_cons_of_mem _ ih)
theorem mem_depsAll {K : List Kd} {r s : Nat} (h : nthK K s = .via r ∨ nthK K s = .ref r) : ∀ (rs : List Nat), r ∈ rs → s ∈ depsAll K rs
  | q :: rs, hr => by
    simp only [depsAll, app_eq, List.mem_append]
    rcases List.mem_cons.1 hr with rfl | hr
    · exact .inl (by have := mem_deps K 0 s h; simpa using this)
    · exact .inr (mem_depsAll h rs hr)

theorem deps_mem {r : Nat} : ∀ (K : List Kd) (n s : Nat), s ∈ deps r K n → n ≤ s ∧ (nthK K (s - n) = .via r ∨ nthK K (s - n) = .ref r)
  | [], n, s, h => by simp [deps] at h
  | k :: K, n, s, h => by
    have ih : s ∈ deps r K (n + 1) → n ≤ s ∧ (nthK (k :: K) (s - n) = .via r ∨ nthK (k :: K) (s - n) = .ref r) := by
      intro hm
      obtain ⟨h1, h2⟩ := deps_mem K (n + 1) s hm
      have e : s - n = (s - (n + 1)) + 1 := by omega
      rw [e]
      exact ⟨by omega, by simpa [nthK] using h2⟩
    cases k <;> simp only [deps] at h <;> try exact ih h
    all_goals
      split at h
      · rename_i hb
        have := Nat.eq_of_beq_eq_true hb
        subst this
        rcases List.mem_cons.1 h with rfl | h
        · simp [nthK]
        · exact ih h
      · exact ih h
theorem deps_kind {K : List Kd} {r s : Nat} (h : s ∈ deps r K 0) : nthK K s = .via r ∨ nthK K s = .ref r := by simpa using (deps_mem K 0 s h).2
theorem depsAll_kind {K : List Kd} {s : Nat} : ∀ (rs : List Nat), s ∈ depsAll K rs → ∃ r ∈ rs, nthK K s = .via r ∨ nthK K s = .ref r
  | [], h => by simp [depsAll] at h
  | r :: rs, h => by
    simp only [depsAll, app_eq, List.mem_append] at h
    rcases h with h | h
    · exact ⟨r, by simp, deps_kind h⟩
    · obtain ⟨q, hq, hk⟩ := depsAll_kind rs h
      exact ⟨q, by simp [hq], hk⟩

/-! ### the invariant -/
def isRoot (K : List Kd) (r : Nat) : Prop :=
  match nthK K r with
  | .own _ _ _ => True
  | .box _ _ _ => True
  | _ => False
theorem root_notin {K : List Kd} {r q : Nat} (h : isRoot K r) : r ∉ deps q K 0 := by
  intro hm
  rcases deps_kind hm with e | e <;> simp [isRoot, e] at h
theorem root_notinAll {K : List Kd} {r : Nat} (h : isRoot K r) (rs : List Nat) : r ∉ depsAll K rs := by
  intro hm
  obtain ⟨q, _, e⟩ := depsAll_kind rs hm
  rcases e with e | e <;> simp [isRoot, e] at h
theorem isOwn_root {K : List Kd} {r : Nat} (h : isOwn K r = true) : isRoot K r := by
  unfold isOwn at h
  unfold isRoot
  split at h <;> simp_all
def av (a : Act) (s : Nat) : Value := a.tmps.getD s undef

def FB (F : Nat → Prop) (B : Nat) : Nat → Nat → Prop
  | 0, _ => False
  | 1, b => F b ∧ B ≤ b
  | _, b => F b

def OwnV (w : World) (F : Nat → Prop) (own : Nat → Prop) (z : Nat) (d : D) (y : Value) : Prop :=
  ∃ l, d = .arr z l ∧ (∀ e ∈ l, e.width = z) ∧ ((y = .slice none 0 0 ∧ l = []) ∨
    ∃ g o c us cs e, y = .slice (some ⟨g, o, none⟩) l.length c ∧ l.length ≤ c ∧ w.heap[g]? = some (.cells cs e (0, 0)) ∧ o + c * z ≤ cs.size ∧ RepL w F l us ∧
      (∀ (i : Nat) (u : Value), us[i]? = some u → cs[o + i]? = some u) ∧ own g)

def BoxV (w : World) (F : Nat → Prop) (own : Nat → Prop) (n : Nat) (d : D) (y : Value) : Prop :=
  ∃ l us g e, d = .agg l ∧ y = .pointer (some ⟨g, 0, none⟩) ∧ w.heap[g]? = some (.cells (List.toArray us) e (0, 0)) ∧ RepL w F l us ∧ l.all D.single = true ∧ l.length = n ∧ own g

def RefV (k : Kd) (y : Value) (i f : Nat) (p : Value) : Prop :=
  match k with
  | .own z _ _ => ∃ g o n c, y = .slice (some ⟨g, o, none⟩) n c ∧ p = .pointer (some ⟨g, o + i * z + f, none⟩)
  | .box _ _ _ => ∃ g, y = .pointer (some ⟨g, 0, none⟩) ∧ p = .pointer (some ⟨g, f, none⟩)
  | _ => False

theorem RefV_root {K : List Kd} {r i f : Nat} {y p : Value} (h : RefV (nthK K r) y i f p) : isRoot K r := by
  unfold RefV at h
  unfold isRoot
  split at h <;> simp_all


/-- What stands by itself: data, what is owned. -/
def Lone (B : Nat) (F : Nat → Prop) (O : Nat → Option (Nat × Nat)) (w : World) (id : Nat × Nat) (k : Kd) (d : D) (y : Value) : Prop :=
  d = .bad ∨ match k with
    | .dat lv => RepV w (FB F B lv) d y
    | .own z lv io => OwnV w (FB F B lv) (fun g => O g = some id ∧ (io = false → B ≤ g)) z d y
    | .box n lv io => BoxV w (FB F B lv) (fun g => O g = some id ∧ (io = false → B ≤ g)) n d y
    | _ => False

def SlotOk (K : List Kd) (B : Nat) (F : Nat → Prop) (O : Nat → Option (Nat × Nat)) (a : Act) (w : World) (δ : List D) (s : Nat) : Prop :=
  nth δ s = .bad ∨ match nthK K s with
    | .via r => av a s = av a r ∧ nth δ s = .ref 0 0 ∧ nth δ r ≠ .bad ∧ isOwn K r = true
    | .ref r => ∃ i f, nth δ s = .ref i f ∧ nth δ r ≠ .bad ∧ RefV (nthK K r) (av a r) i f (av a s)
    | .tup ms => ∃ l vs, nth δ s = .tup l ∧ av a s = .tuple vs ∧ ∀ i, Lone B F O w (s, i + 1) (nthK ms i) (nth l i) (vs.getD i undef)
    | .no => True
    | k => Lone B F O w (s, 0) k (nth δ s) (av a s)

/-- Facts of the world that hang on frozen blocks alone. -/
def gOk (G : List (Nat × (Obj → Prop))) (w : World) (F : Nat → Prop) : Prop := ∀ p ∈ G, F p.1 ∧ ∃ o, w.heap[p.1]? = some o ∧ p.2 o
theorem gOk_mono {G : List (Nat × (Obj → Prop))} {w w' : World} {F F' : Nat → Prop} (hF : ∀ b, F b → F' b) (hw : ∀ b, F b → w'.heap[b]? = w.heap[b]?) (h : gOk G w F) : gOk G w' F' := fun p hp => by
  obtain ⟨h1, o, h2, h3⟩ := h p hp
  exact ⟨hF _ h1, o, (hw _ h1).trans h2, h3⟩
theorem gOk_nil {w : World} {F : Nat → Prop} : gOk [] w F := fun p hp => by cases hp

structure Inv (c : Cx) (B : Nat) (X : Nat → Prop) (w0 : World) (F0 F : Nat → Prop) (O : Nat → Option (Nat × Nat)) (a : Act) (w : World) (δ : List D) : Prop where
  la : a.tmps.size = c.K.length
  ld : δ.length = c.K.length
  df : a.defers = []
  slot : ∀ s, SlotOk c.K B F O a w δ s
  fl : ∀ b, F b → b < w.heap.size ∧ O b = none
  ol : ∀ b p, O b = some p → b < w.heap.size ∧ (B ≤ b ∨ X b)
  f0 : ∀ b, F0 b → F b
  fn : ∀ b, F b → F0 b ∨ B ≤ b
  bb : B ≤ w.heap.size
  os : w.os = w0.os
  tape : w.tape = w0.tape
  output : w.output = w0.output
  keep : ∀ b, b < B → ¬ X b → w.heap[b]? = w0.heap[b]?
  gl : gOk c.G w F

theorem FB_mono {F F' : Nat → Prop} {B lv : Nat} (h : ∀ b, F b → F' b) : ∀ b, FB F B lv b → FB F' B lv b := by
  intro b hb
  unfold FB at *
  split at hb <;> simp_all
theorem FB_sub {F : Nat → Prop} {B lv : Nat} : ∀ b, FB F B lv b → F b := by
  intro b hb
  unfold FB at *
  split at hb <;> simp_all
theorem FB_le {F : Nat → Prop} {B lv lv' : Nat} (h : lv ≤ lv') : ∀ b, FB F B lv b → FB F B lv' b := by
  intro b hb
  match lv, lv', h with
  | 0, _, _ => exact hb.elim
  | 1, 1, _ => exact hb
  | 1, n + 2, _ => exact hb.1
  | m + 2, n + 2, _ => exact hb

theorem RepL_iff_mono {w w' : World} {F F' : Nat → Prop} (hF : ∀ b, F b → F' b) (hw : ∀ b, F b → w'.heap[b]? = w.heap[b]?) {l : List D} {us : List Value} (h : RepL w F l us) : RepL w' F' l us := RepL_mono hF hw l us h

theorem OwnV_mono {w w' : World} {F F' : Nat → Prop} {own own' : Nat → Prop} {z : Nat} {d : D} {y : Value} (hF : ∀ b, F b → F' b) (hw : ∀ b, F b → w'.heap[b]? = w.heap[b]?)
    (ho : ∀ g, own g → own' g ∧ w'.heap[g]? = w.heap[g]?) (h : OwnV w F own z d y) : OwnV w' F' own' z d y := by
  obtain ⟨l, h1, h2, h3⟩ := h
  refine ⟨l, h1, h2, ?_⟩
  rcases h3 with h3 | ⟨g, o, c, us, cs, e, a1, a2, a3, a4, a5, a6, a7⟩
  · exact .inl h3
  · exact .inr ⟨g, o, c, us, cs, e, a1, a2, (ho g a7).2.trans a3, a4, RepL_mono hF hw _ _ a5, a6, (ho g a7).1⟩
theorem BoxV_mono {w w' : World} {F F' : Nat → Prop} {own own' : Nat → Prop} {n : Nat} {d : D} {y : Value} (hF : ∀ b, F b → F' b) (hw : ∀ b, F b → w'.heap[b]? = w.heap[b]?)
    (ho : ∀ g, own g → own' g ∧ w'.heap[g]? = w.heap[g]?) (h : BoxV w F own n d y) : BoxV w' F' own' n d y := by
  obtain ⟨l, us, g, e, a1, a2, a3, a4, a5, a6, a7⟩ := h
  exact ⟨l, us, g, e, a1, a2, (ho g a7).2.trans a3, RepL_mono hF hw _ _ a4, a5, a6, (ho g a7).1⟩

theorem Lone_mono {B : Nat} {w w' : World} {F F' : Nat → Prop} {O O' : Nat → Option (Nat × Nat)} {id id' : Nat × Nat} {k : Kd} {d : D} {y : Value} (hF : ∀ b, F b → F' b) (hw : ∀ b, F b → w'.heap[b]? = w.heap[b]?)
    (ho : ∀ g, O g = some id → O' g = some id' ∧ w'.heap[g]? = w.heap[g]?) (h : Lone B F O w id k d y) : Lone B F' O' w' id' k d y := by
  rcases h with h | h
  · exact .inl h
  · refine .inr ?_
    cases k
    case dat lv => exact RepV_mono (FB_mono hF) (fun b hb => hw b (FB_sub b hb)) h
    case own z lv io => exact OwnV_mono (FB_mono hF) (fun b hb => hw b (FB_sub b hb)) (fun g hg => ⟨⟨(ho g hg.1).1, hg.2⟩, (ho g hg.1).2⟩) h
    case box n lv io => exact BoxV_mono (FB_mono hF) (fun b hb => hw b (FB_sub b hb)) (fun g hg => ⟨⟨(ho g hg.1).1, hg.2⟩, (ho g hg.1).2⟩) h
    all_goals exact h

/-- The step. 'U': the slots whose value or whose contents are new. -/
theorem Inv.step {c : Cx} {B : Nat} {X : Nat → Prop} {w0 : World} {F0 F F' : Nat → Prop} {O O' : Nat → Option (Nat × Nat)} {a a' : Act} {w w' : World} {δ δ' : List D}
    (h : Inv c B X w0 F0 F O a w δ) (U : Nat → Prop) (la : a'.tmps.size = a.tmps.size) (ld : δ'.length = δ.length) (df : a'.defers = a.defers)
    (hs : ∀ s, ¬ U s → av a' s = av a s ∧ (nth δ' s = nth δ s ∨ nth δ' s = .bad))
    (hF : ∀ b, F b → F' b) (hw : ∀ b, F b → w'.heap[b]? = w.heap[b]?)
    (ho : ∀ b p, O b = some p → ¬ U p.1 → O' b = some p ∧ w'.heap[b]? = w.heap[b]?)
    (hd : ∀ s r, ¬ U s → (nthK c.K s = .via r ∨ nthK c.K s = .ref r) → nth δ' s ≠ .bad → av a' r = av a r ∧ nth δ' r ≠ .bad)
    (hU : ∀ s, U s → SlotOk c.K B F' O' a' w' δ' s)
    (fl : ∀ b, F' b → b < w'.heap.size ∧ O' b = none) (ol : ∀ b p, O' b = some p → b < w'.heap.size ∧ (B ≤ b ∨ X b)) (fn : ∀ b, F' b → F b ∨ B ≤ b) (sz : w.heap.size ≤ w'.heap.size)
    (os : w'.os = w.os) (tape : w'.tape = w.tape) (output : w'.output = w.output) (keep : ∀ b, b < B → ¬ X b → w'.heap[b]? = w.heap[b]?) : Inv c B X w0 F0 F' O' a' w' δ' := by
  refine ⟨la.trans h.la, ld.trans h.ld, df.trans h.df, fun s => ?_, fl, ol, fun b hb => hF b (h.f0 b hb), fun b hb => ?_, Nat.le_trans h.bb sz, os.trans h.os, tape.trans h.tape, output.trans h.output, fun b h1 h2 => (keep b h1 h2).trans (h.keep b h1 h2), gOk_mono hF hw h.gl⟩
  · by_cases hu : U s
    · exact hU s hu
    · obtain ⟨e1, e2⟩ := hs s hu
      rcases e2 with e2 | e2
      case inr => exact .inl e2
      by_cases hb : nth δ s = .bad
      · exact .inl (e2.trans hb)
      have hb' : nth δ' s ≠ .bad := by rw [e2]; exact hb
      have h0 := (h.slot s).resolve_left hb
      refine .inr ?_
      have lone : ∀ (k : Kd) (i : Nat) (d : D) (y : Value), Lone B F O w (s, i) k d y → Lone B F' O' w' (s, i) k d y := fun k i d y hl => Lone_mono hF hw (fun g hg => ho g _ hg hu) hl
      have hdd := hd s
      rw [e1, e2]
      generalize hk : nthK c.K s = k at h0 hdd
      cases k
      case via r =>
        obtain ⟨b1, b2, b3, b4⟩ := h0
        obtain ⟨d1, d2⟩ := hdd r hu (.inl rfl) hb'
        exact ⟨b1.trans d1.symm, b2, d2, b4⟩
      case ref r =>
        obtain ⟨i, f, b1, b2, b3⟩ := h0
        obtain ⟨d1, d2⟩ := hdd r hu (.inr rfl) hb'
        exact ⟨i, f, b1, d2, by rw [d1]; exact b3⟩
      case tup ms =>
        obtain ⟨l, vs, b1, b2, b3⟩ := h0
        exact ⟨l, vs, b1, b2, fun i => lone _ _ _ _ (b3 i)⟩
      case no => trivial
      all_goals exact lone _ _ _ _ h0
  · rcases fn b hb with hb | hb
    · exact h.fn b hb
    · exact .inr hb

theorem av_put {a : Act} {d s : Nat} {v : Value} : av (a.put (some d) v) s = if s = d ∧ d < a.tmps.size then v else av a s := by
  simp only [av, Act.put, Array.getD_eq_getD_getElem?, Array.getElem?_setIfInBounds]
  by_cases hs : d = s
  · subst hs
    by_cases hd : d < a.tmps.size
    · simp [hd]
    · simp [hd]
  · simp [hs, Ne.symm hs]
theorem av_put_ne {a : Act} {d s : Nat} {v : Value} (h : s ≠ d) : av (a.put (some d) v) s = av a s := by rw [av_put, if_neg (by simp [h])]
theorem av_put_eq {a : Act} {d : Nat} {v : Value} (h : d < a.tmps.size) : av (a.put (some d) v) d = v := by rw [av_put, if_pos ⟨rfl, h⟩]
theorem size_put {a : Act} {d : Nat} {v : Value} : (a.put (some d) v).tmps.size = a.tmps.size := by simp [Act.put]

/-- A copy, or a place, leads to an owner. -/
theorem Inv.root {c : Cx} {B : Nat} {X : Nat → Prop} {w0 : World} {F0 F : Nat → Prop} {O : Nat → Option (Nat × Nat)} {a : Act} {w : World} {δ : List D}
    (h : Inv c B X w0 F0 F O a w δ) {s r : Nat} (hv : nthK c.K s = .via r ∨ nthK c.K s = .ref r) (hb : nth δ s ≠ .bad) : isRoot c.K r ∧ nth δ r ≠ .bad := by
  have h0 := (h.slot s).resolve_left hb
  rcases hv with hv | hv <;> rw [hv] at h0
  · exact ⟨isOwn_root h0.2.2.2, h0.2.2.1⟩
  · obtain ⟨_, _, _, h2, h3⟩ := h0
    exact ⟨RefV_root h3, h2⟩

/-- What may be written into one slot without any change of memory. -/
def PutOk (K : List Kd) (B : Nat) (F : Nat → Prop) (a : Act) (w : World) (δ : List D) (d : Nat) (z : D) (y : Value) : Prop :=
  z = .bad ∨ match nthK K d with
    | .dat lv => RepV w (FB F B lv) z y
    | .via r => y = av a r ∧ z = .ref 0 0 ∧ nth δ r ≠ .bad ∧ isOwn K r = true
    | .ref r => ∃ i f, z = .ref i f ∧ nth δ r ≠ .bad ∧ RefV (nthK K r) (av a r) i f y
    | .no => True
    | _ => False

/-- Data written into one slot. -/
theorem Inv.put {c : Cx} {B : Nat} {X : Nat → Prop} {w0 : World} {F0 F : Nat → Prop} {O : Nat → Option (Nat × Nat)} {a : Act} {w : World} {δ : List D}
    (h : Inv c B X w0 F0 F O a w δ) {d : Nat} {z : D} {y : Value} (hk : PutOk c.K B F a w δ d z y) :
    Inv c B X w0 F0 F O (a.put (some d) y) w (setMany δ (d :: deps d c.K 0) [z]) := by
  have e0 : setMany δ (d :: deps d c.K 0) [z] = setMany (setAt δ d z) (deps d c.K 0) [] := by simp [setMany]
  rw [e0]
  have keepr : ∀ r, isRoot c.K r → r ≠ d → nth (setMany (setAt δ d z) (deps d c.K 0) []) r = nth δ r := fun r hr hd => by
    rw [nth_setMany_notin _ _ _ _ (root_notin hr), nth_setAt_ne _ _ _ _ hd]
  refine h.step (fun s => s = d) size_put (by rw [len_setMany, len_setAt]) rfl (fun s hs => ⟨av_put_ne hs, ?_⟩) (fun _ hb => hb) (fun _ _ => rfl) (fun _ _ h _ => ⟨h, rfl⟩) (fun s r hs hv hb => ?_) (fun s hs => ?_) h.fl h.ol (fun _ hb => .inl hb) (Nat.le_refl _) rfl rfl rfl (fun _ _ _ => rfl)
  · rcases nth_setMany_or (deps d c.K 0) (setAt δ d z) s with e | e
    · exact .inl (e.trans (nth_setAt_ne _ _ _ _ hs))
    · exact .inr e
  · by_cases hr : r = d
    · subst hr
      exact absurd (nth_kill _ _ _ (by have := mem_deps c.K 0 s hv; simpa using this)) hb
    · refine ⟨av_put_ne hr, ?_⟩
      have hs' : s ∉ deps d c.K 0 := fun hm => hb (nth_kill _ _ _ hm)
      rw [nth_setMany_notin _ _ _ _ hs', nth_setAt_ne _ _ _ _ hs] at hb
      obtain ⟨h1, h2⟩ := h.root hv hb
      rw [keepr r h1 hr]
      exact h2
  · subst hs
    by_cases hdl : s < c.K.length
    case neg =>
      refine .inl ?_
      rcases nth_setMany_or (deps s c.K 0) (setAt δ s z) s with e | e
      · rw [e, nth_setAt_eq, if_neg (by rw [h.ld]; exact hdl)]
      · exact e
    have hav : av (a.put (some s) y) s = y := av_put_eq (by rw [h.la]; exact hdl)
    rcases nth_setMany_or (deps s c.K 0) (setAt δ s z) s with e | e
    case inr => exact .inl e
    have ez : nth (setMany (setAt δ s z) (deps s c.K 0) []) s = z := by rw [e, nth_setAt_eq, if_pos (by rw [h.ld]; exact hdl)]
    rcases hk with hk | hk
    · exact .inl (ez.trans hk)
    · refine .inr ?_
      rw [ez, hav]
      generalize hks : nthK c.K s = k at hk
      have hne : ∀ r, isRoot c.K r → (∀ z lv io, k ≠ .own z lv io) → (∀ n lv io, k ≠ .box n lv io) → r ≠ s := by
        intro r hr h1 h2 e
        subst e
        unfold isRoot at hr
        rw [hks] at hr
        cases k
        case own z lv io => exact h1 _ _ _ rfl
        case box n lv io => exact h2 _ _ _ rfl
        all_goals exact hr
      cases k
      case dat lv => exact .inr hk
      case via r =>
        obtain ⟨b1, b2, b3, b4⟩ := hk
        have hr := hne r (isOwn_root b4) (by intros; simp) (by intros; simp)
        exact ⟨by rw [av_put_ne hr]; exact b1, b2, by rw [keepr r (isOwn_root b4) hr]; exact b3, b4⟩
      case ref r =>
        obtain ⟨i, f, b1, b2, b3⟩ := hk
        have hr := hne r (RefV_root b3) (by intros; simp) (by intros; simp)
        exact ⟨i, f, b1, by rw [keepr r (RefV_root b3) hr]; exact b2, by rw [av_put_ne hr]; exact b3⟩
      case no => trivial
      all_goals exact hk.elim

/-- A slot's value is void. -/
theorem Inv.void {c : Cx} {B : Nat} {X : Nat → Prop} {w0 : World} {F0 F : Nat → Prop} {O : Nat → Option (Nat × Nat)} {a : Act} {w : World} {δ : List D}
    (h : Inv c B X w0 F0 F O a w δ) (d : Nat) (y : Value) : Inv c B X w0 F0 F O (a.put (some d) y) w (setMany δ (d :: deps d c.K 0) [.bad]) := h.put (.inl rfl)

/-- Fewer slots are known. -/
theorem Inv.forget {c : Cx} {B : Nat} {X : Nat → Prop} {w0 : World} {F0 F : Nat → Prop} {O : Nat → Option (Nat × Nat)} {a : Act} {w : World} {δ δ' : List D}
    (h : Inv c B X w0 F0 F O a w δ) (hl : δ'.length = δ.length) (hs : ∀ s, nth δ' s = nth δ s ∨ nth δ' s = .bad) (hr : ∀ s r, (nthK c.K s = .via r ∨ nthK c.K s = .ref r) → nth δ' s ≠ .bad → nth δ' r ≠ .bad) : Inv c B X w0 F0 F O a w δ' :=
  h.step (fun _ => False) rfl hl rfl (fun s _ => ⟨rfl, hs s⟩) (fun _ hb => hb) (fun _ _ => rfl) (fun _ _ h _ => ⟨h, rfl⟩) (fun s r _ hv hb => ⟨rfl, hr s r hv hb⟩) (fun _ h => h.elim) h.fl h.ol (fun _ hb => .inl hb) (Nat.le_refl _) rfl rfl rfl (fun _ _ _ => rfl)

/-- What a slot holds. -/
theorem Inv.dat {c : Cx} {B : Nat} {X : Nat → Prop} {w0 : World} {F0 F : Nat → Prop} {O : Nat → Option (Nat × Nat)} {a : Act} {w : World} {δ : List D}
    (h : Inv c B X w0 F0 F O a w δ) {s lv : Nat} (hk : nthK c.K s = .dat lv) : RepB w (FB F B lv) (nth δ s) (av a s) := by
  rcases h.slot s with hb | h0
  · exact .inl hb
  · rw [hk] at h0
    exact h0

end Go.V
