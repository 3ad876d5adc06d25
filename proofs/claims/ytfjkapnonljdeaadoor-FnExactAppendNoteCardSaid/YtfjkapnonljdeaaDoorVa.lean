/-
  A value-level evaluator of the model's Code: definitions. Data without memory; what each operation reads and writes; the evaluator itself.
-/
import Derived.Test.YtfjkapnonljdeaaDoorRows
import Derived.WalkKit
namespace Go.V

inductive D where
  | v (x : Value)
  | arr (z : Nat) (l : List D)
  | agg (l : List D)
  | ptr (l : List D)
  | clo (f : Nat) (l : List D)
  | ifc
  | tup (l : List D)
  | ref (i f : Nat)
  | bad
  deriving Inhabited

abbrev B (b : Bool) : D := .v (.bool b)
abbrev I (n : Int) : D := .v (.int .i64 n)
abbrev U (n : Int) : D := .v (.int .u8 n)
abbrev T (s : ByteArray) : D := .v (.string s)

inductive Out where
  | nrm (δ : List D)
  | ext (id : Nat) (δ : List D)
  | ret (rs us : List D)

/-- What is known of a type. -/
structure TI where
  agg : Bool := false
  n : Nat := 1
  zero : List D := []
  elem : Nat := 0
  ez : Nat := 0
  eb : Nat := 0
  fs : List (Nat × Nat) := []
  alen : Nat := 0
  eq : List Nat := []
  ik : Option IntKind := none
  str : Bool := false
  bl : Bool := false
  ifc : Bool := false

inductive Kd where
  | dat (lv : Nat)
  | own (z lv : Nat) (io : Bool)
  | box (n lv : Nat) (io : Bool)
  | via (r : Nat)
  | ref (r : Nat)
  | tup (l : List Kd)
  | no

/-- A function as its callers see it. -/
structure FS where
  pm : List Kd
  rm : List Kd
  f : List D → Option Out

structure Cx where
  K : List Kd
  T : List (Nat × TI)
  S : List (Nat × FS)
  H : List (Nat × (List Nat × List Nat)) := []
  res : List ResultVar
  ios : List Nat := []
  G : List (Nat × (Obj → Prop)) := []

section small
@[reducible] def nthO {α : Type} : List α → Nat → Option α
  | [], _ => none
  | a :: _, 0 => some a
  | _ :: l, n + 1 => nthO l n
@[reducible] def nth : List D → Nat → D
  | [], _ => .bad
  | a :: _, 0 => a
  | _ :: l, n + 1 => nth l n
@[reducible] def nthK : List Kd → Nat → Kd
  | [], _ => .no
  | a :: _, 0 => a
  | _ :: l, n + 1 => nthK l n
@[reducible] def setAt : List D → Nat → D → List D
  | [], _, _ => []
  | _ :: l, 0, b => b :: l
  | a :: l, n + 1, b => a :: setAt l n b
@[reducible] def eqN : Nat → Nat → Bool
  | a, b => Nat.beq a b
@[reducible] def look {α : Type} : List (Nat × α) → Nat → Option α
  | [], _ => none
  | (k, a) :: l, n => match Nat.beq k n with
    | true => some a
    | false => look l n
@[reducible] def app {α : Type} : List α → List α → List α
  | [], b => b
  | a :: l, b => a :: app l b
@[reducible] def mapD {α β : Type} (f : α → β) : List α → List β
  | [] => []
  | a :: l => f a :: mapD f l
@[reducible] def setMany : List D → List Nat → List D → List D
  | δ, [], _ => δ
  | δ, s :: ss, [] => setMany (setAt δ s .bad) ss []
  | δ, s :: ss, d :: ds => setMany (setAt δ s d) ss ds
@[reducible] def nthC {R : Type} : List D → Nat → (D → R) → R
  | [], _, k => k .bad
  | a :: _, 0, k => k a
  | _ :: l, n + 1, k => nthC l n k
@[reducible] def setC {R : Type} : List D → Nat → D → (List D → R) → R
  | [], _, _, k => k []
  | _ :: l, 0, b, k => k (b :: l)
  | a :: l, n + 1, b, k => setC l n b fun l' => k (a :: l')
@[reducible] def getC {R : Type} (δ : List D) : List Nat → (List D → R) → R
  | [], k => k []
  | s :: ss, k => nthC δ s fun a => getC δ ss fun l => k (a :: l)
@[reducible] def setManyC {R : Type} : List D → List Nat → List D → (List D → R) → R
  | δ, [], _, k => k δ
  | δ, s :: ss, [], k => setC δ s .bad fun δ => setManyC δ ss [] k
  | δ, s :: ss, d :: ds, k => setC δ s d fun δ => setManyC δ ss ds k
@[reducible] def memN : Nat → List Nat → Bool
  | _, [] => false
  | n, m :: l => match Nat.beq n m with
    | true => true
    | false => memN n l
end small

def D.cells : D → List D
  | .agg l => l
  | d => [d]
def D.single : D → Bool
  | .v _ | .arr .. | .ptr _ | .clo .. | .ifc => true
  | _ => false
def D.width (d : D) : Nat := d.cells.length
def D.isV : D → Bool
  | .v _ => true
  | .agg l => l.all fun | .v _ => true | _ => false
  | _ => false

/-- A value of one cell that leads to no memory. -/
def flat : Value → Bool
  | .bool _ | .int .. | .string _ | .nilFunc | .nilIface | .pointer none => true
  | _ => false

/-! ### what the operations compute, on data -/

def intBin (op : BinOp) (k : IntKind) (a b : Int) : Option D :=
  match op with
  | .add => some (.v (.int k (k.wrap (a + b))))
  | .sub => some (.v (.int k (k.wrap (a - b))))
  | .mul => some (.v (.int k (k.wrap (a * b))))
  | .quo => if b = 0 then none else some (.v (.int k (k.wrap (a.tdiv b))))
  | .rem => if b = 0 then none else some (.v (.int k (a.tmod b)))
  | .and | .or | .xor | .andNot => some (.v (.int k (bits op k a b)))
  | .eql => some (B (a == b))
  | .neq => some (B (a != b))
  | .lss => some (B (a < b))
  | .leq => some (B (a ≤ b))
  | .gtr => some (B (a > b))
  | .geq => some (B (a ≥ b))
  | .shl | .shr => none

def strBin (op : BinOp) (a b : ByteArray) : Option D :=
  match op with
  | .add => if a.size + b.size ≤ 1152921504606846976 then some (T (a ++ b)) else none
  | .eql => some (B (a.toList == b.toList))
  | .neq => some (B !(a.toList == b.toList))
  | .lss => some (B (Op.bytesLess a.toList b.toList))
  | .leq => some (B (Op.bytesLess a.toList b.toList || a.toList == b.toList))
  | .gtr => some (B !(Op.bytesLess a.toList b.toList || a.toList == b.toList))
  | .geq => some (B !(Op.bytesLess a.toList b.toList))
  | _ => none

/-- '==' of two structs of scalars. -/
def allEq : List Nat → List D → List D → Option Bool
  | [], [], [] => some true
  | 1 :: c, .v (.int k a) :: l, .v (.int k' b) :: m => if k = k' then (allEq c l m).map (a == b && ·) else none
  | 2 :: c, .v (.bool a) :: l, .v (.bool b) :: m => (allEq c l m).map (a == b && ·)
  | 3 :: c, .v (.string a) :: l, .v (.string b) :: m => (allEq c l m).map (a.toList == b.toList && ·)
  | _, _, _ => none

def bin (op : BinOp) (bl : Bool) (eq : List Nat) (x y : D) : Option D :=
  match op, x, y with
  | .shl, .v (.int k a), .v (.int _ b) => if 0 ≤ b then some (.v (.int k (k.wrap (a * 2 ^ min b.toNat k.bits)))) else none
  | .shr, .v (.int k a), .v (.int _ b) => if 0 ≤ b then some (.v (.int k (a.fdiv (2 ^ min b.toNat k.bits)))) else none
  | op, .v (.int k a), .v (.int k' b) => if k = k' then intBin op k a b else none
  | op, .v (.string a), .v (.string b) => strBin op a b
  | .eql, .v (.bool a), .v (.bool b) => if bl then some (B (a == b)) else none
  | .neq, .v (.bool a), .v (.bool b) => if bl then some (B !(a == b)) else none
  | .eql, .agg a, .agg b => if eq = [] then none else (allEq eq a b).map B
  | .neq, .agg a, .agg b => if eq = [] then none else (allEq eq a b).map fun q => B !q
  | _, _, _ => none

/-- A value of an interface's type held against the literal nil. -/
def binI (nc : Bool) (op : BinOp) (x y : D) : Option D :=
  match op, x, y with
  | .eql, .ifc, .v .nilIface => some (B false)
  | .neq, .ifc, .v .nilIface => some (B true)
  | .eql, .v .nilIface, .v .nilIface => if nc then some (B true) else none
  | .neq, .v .nilIface, .v .nilIface => if nc then some (B false) else none
  | _, _, _ => none

def un (op : UnOp) (x : D) : Option D :=
  match op, x with
  | .neg, .v (.int k n) => some (.v (.int k (k.wrap (0 - n))))
  | .not, .v (.bool b) => some (B !b)
  | _, _ => none

def pickD (c a b : D) : Option D :=
  match c with
  | .v (.bool true) => some a
  | .v (.bool false) => some b
  | _ => none

def lenD (str : Bool) (x : D) : Option D :=
  match str, x with
  | false, .arr _ l => some (I l.length)
  | true, .v (.string s) => some (I s.size)
  | _, _ => none

/-- The cells of element i. -/
def elemD (z : Nat) (x i : D) : Option (List D) :=
  match x, i with
  | .arr z' l, .v (.int _ n) => if z' = z ∧ 0 ≤ n then (l[n.toNat]?).map D.cells else none
  | _, _ => none

/-- A value of n cells (a struct where agg says so) at the head of some cells. -/
def takeD (ag : Bool) (n : Nat) (l : List D) : Option D :=
  if ag then (if n ≤ l.length then some (.agg (l.take n)) else none) else l.head?

def charD (x i : D) : Option D :=
  match x, i with
  | .v (.string s), .v (.int _ n) => if 0 ≤ n then (s.data.toList[n.toNat]?).map fun b => U b.toNat else none
  | _, _ => none

def sliceD (str : Bool) (z : Nat) (x lo hi : D) : Option D :=
  match str, x, lo, hi with
  | false, .arr z' l, .v (.int _ a), .v (.int _ b) => if z' = z ∧ 0 ≤ a ∧ a ≤ b ∧ b ≤ l.length then some (.arr z ((l.take b.toNat).drop a.toNat)) else none
  | true, .v (.string s), .v (.int _ a), .v (.int _ b) => if 0 ≤ a ∧ a ≤ b ∧ b ≤ s.size then some (T (s.extract a.toNat b.toNat)) else none
  | _, _, _, _ => none

/-- Only scalars. -/
def chkV (d : D) : Option D := if d.isV then some d else none

def appD (z eb : Nat) (x y : D) : Option D :=
  match x, y with
  | .arr a l, .arr b m => if (a = z ∨ l = []) ∧ (b = z ∨ m = []) ∧ (l.length + m.length) * eb ≤ 140737488355328 ∧ l.length + m.length ≤ 1152921504606846976 then some (.arr z (l ++ m)) else none
  | _, _ => none

end Go.V
