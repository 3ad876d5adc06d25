/-
  A value-level evaluator of the model's Code: what each operation does, and the evaluator.
-/
import Derived.Test.YtfjkapnonljdeaaDoorVb
namespace Go.V

def convD (ik : Option IntKind) (str : Bool) (x : D) : Option D :=
  match ik, str, x with
  | some k, _, .v (.int _ n) => some (.v (.int k (k.wrap n)))
  | none, true, .v (.string s) => some (T s)
  | _, _, _ => none
def bytesOf : List D → Option (List UInt8)
  | [] => some []
  | .v (.int .u8 n) :: l => (bytesOf l).map (UInt8.ofNat n.toNat :: ·)
  | _ => none
def strD (x : D) : Option D :=
  match x with
  | .arr _ l => (bytesOf l).map fun b => T ⟨b.toArray⟩
  | _ => none
def minD (x y : D) : Option D :=
  match x, y with
  | .v (.int k a), .v (.int _ b) => some (.v (.int k (if b < a then b else a)))
  | _, _ => none
def maxD (x y : D) : Option D :=
  match x, y with
  | .v (.int k a), .v (.int _ b) => some (.v (.int k (if a < b then b else a)))
  | _, _ => none
def nilD (x : D) : Option D :=
  match x with
  | .ptr l => some (.ptr l)
  | .clo f l => some (.clo f l)
  | _ => none
def refAdd (off : Nat) (r : D) : Option D :=
  match r with
  | .ref i f => some (.ref i (f + off))
  | _ => none
def ref0 (r x : D) : Option D :=
  match r with
  | .ref 0 0 => some x
  | _ => none
def ixD (len z : Nat) (x i : D) : Option D :=
  match x, i with
  | .ptr l, .v (.int _ n) => if 0 ≤ n ∧ n < len then some (.ptr (l.drop (n.toNat * z))) else none
  | _, _ => none
def ixA (ag : Bool) (len z : Nat) (x i : D) : Option D :=
  match x, i with
  | .agg l, .v (.int _ n) => if 0 ≤ n ∧ n < len then takeD ag z (l.drop (n.toNat * z)) else none
  | _, _ => none
def refIx (len z : Nat) (r i : D) : Option D :=
  match r, i with
  | .ref j f, .v (.int _ n) => if 0 ≤ n ∧ n < len then some (.ref j (f + n.toNat * z)) else none
  | _, _ => none
/-- A struct out of its parts: offset, number of cells, value. -/
def fillD : List (Nat × Nat) → List D → List D → Option (List D)
  | (off, n) :: ps, x :: xs, cs => if x.cells.length = n ∧ off + n ≤ cs.length ∧ x.cells.all D.single then fillD ps xs (putCells cs off x.cells) else none
  | [], [], cs => some cs
  | _, _, _ => none
def bldD (ps : List (Nat × Nat)) (z : List D) (xs : List D) : Option D := (fillD ps xs z).map .agg
def sliceHi (str : Bool) (z : Nat) (x lo : D) : Option D :=
  match str, x, lo with
  | false, .arr z' l, .v (.int _ a) => if z' = z ∧ 0 ≤ a ∧ a ≤ l.length then some (.arr z (l.drop a.toNat)) else none
  | true, .v (.string s), .v (.int _ a) => if 0 ≤ a ∧ a ≤ s.size then some (T (s.extract a.toNat s.size)) else none
  | _, _, _ => none

@[reducible] def zeroD (e : TI) : D :=
  match e.agg with
  | true => .agg e.zero
  | false => match e.zero with
    | v :: _ => v
    | [] => .bad

@[reducible] def sameKs : List Kd → List Kd → Bool
  | [], [] => true
  | .dat a :: l, .dat b :: m => match Nat.beq a b with
    | true => sameKs l m
    | false => false
  | .own z a false :: l, .own y b false :: m => match Nat.beq a b, Nat.beq z y with
    | true, true => sameKs l m
    | _, _ => false
  | _, _ => false
/-- A copy, or a change of owner. 'z': the size of the elements, where the type is a slice. -/
@[reducible] def mvOf (c : Cx) (dst : Option Nat) (x : Operand) (ty : Nat) : Option Ac :=
  match x with
  | .tmp t => match nthK c.K t with
    | .own z lv io => match dst with
      | none => none
      | some d => match nthK c.K d with
        | .via r => match Nat.beq r t with
          | true => some (.one [t] d fun is => (arg1 fun x => liveD x (.ref 0 0)) is)
          | false => none
        | .own z' lv' false => match io, Nat.beq z z', Nat.ble lv lv' with
          | false, true, true => some (.many [t] [d, t] [] fun is k => nthC is 0 fun x => k [x, .bad])
          | _, _, _ => none
        | .dat lv' => match io, Nat.ble 1 lv', Nat.ble lv lv' with
          | false, true, true => some (.many [t] [d, t] [] fun is k => nthC is 0 fun x => k [x, .bad])
          | _, _, _ => none
        | _ => none
    | .via r => match dst with
      | none => none
      | some d => match nthK c.K r with
        | .own z lv io => match nthK c.K d with
          | .via r' => match Nat.beq r r' with
            | true => some (.one [t] d fun is => (arg1 fun x => liveD x (.ref 0 0)) is)
            | false => none
          | .own z' lv' false => match io, Nat.beq z z', Nat.ble lv lv' with
            | false, true, true => some (.many [t, r] [d, r] [] fun is k => nthC is 0 fun p => nthC is 1 fun x => (liveD p x).bind fun y => k [y, .bad])
            | _, _, _ => none
          | .dat lv' => match io, Nat.ble 1 lv', Nat.ble lv lv' with
            | false, true, true => some (.many [t, r] [d, r] [] fun is k => nthC is 0 fun p => nthC is 1 fun x => (liveD p x).bind fun y => k [y, .bad])
            | _, _, _ => none
          | _ => none
        | _ => none
    | .box _ _ _ => match dst with
      | none => none
      | some d => match nthK c.K d with
        | .ref r => match Nat.beq r t with
          | true => some (.one [t] d fun is => (arg1 fun x => liveD x (.ref 0 0)) is)
          | false => none
        | _ => none
    | .ref r => match dst with
      | none => none
      | some d => match nthK c.K d with
        | .ref r' => match Nat.beq r r' with
          | true => some (.one [t] d fun is => (arg1 fun x => liveD x x) is)
          | false => none
        | _ => none
    | .dat lv => dataOp c dst [x] lv (arg1 some)
    | .tup ms => match dst with
      | none => none
      | some d => match nthK c.K d with
        | .tup ns => match sameKs ms ns, Nat.beq d t with
          | true, false => some (.many [t] [d, t] [] fun is k => nthC is 0 fun x => k [x, .bad])
          | _, _ => none
        | _ => none
    | _ => none
  | .const (.slice none 0 0) => match dst with
    | none => none
    | some d => match nthK c.K d with
      | .own z _ false => some (.many [] [d] [] fun _ k => k [.arr z []])
      | .dat _ => withT c ty fun i => dataOp c dst [x] 0 (fun _ => some (.arr i.ez []))
      | _ => none
  | x => dataOp c dst [x] (lvOf c.K x) (arg1 some)

@[reducible] def mapO {α β : Type} (f : α → β) : Option α → Option β
  | none => none
  | some a => some (f a)
/-- A load through an owner's slot: 'chk' where the level falls. -/
@[reducible] def lvFit (lv l : Nat) (h : List D → Option D) : Option (List D → Option D) :=
  match Nat.ble lv l with
  | true => some h
  | false => match Nat.beq l 0 with
    | true => some fun is => (h is).bind chkV
    | false => none

@[reducible] def rootLv (K : List Kd) (r : Nat) : Nat :=
  match nthK K r with
  | .own _ lv _ => lv
  | .box _ lv _ => lv
  | _ => 9
@[reducible] def isOwn (K : List Kd) (r : Nat) : Bool :=
  match nthK K r with
  | .own _ _ _ => true
  | _ => false
@[reducible] def ownZ (K : List Kd) (r : Nat) : Nat :=
  match nthK K r with
  | .own z _ _ => z
  | _ => 0
@[reducible] def isBox (K : List Kd) (r : Nat) : Bool :=
  match nthK K r with
  | .box _ _ _ => true
  | _ => false
@[reducible] def mayGive (K : List Kd) (r : Nat) : Bool :=
  match nthK K r with
  | .own _ _ false => true
  | _ => false

@[reducible] def ldOf (c : Cx) (dst : Option Nat) (i : TI) (p : Operand) : Option Ac :=
  match p with
  | .tmp q => match nthK c.K q with
    | .dat lv => dataOp c dst [p] lv (arg1 (ldD i.agg i.n))
    | .box _ lv _ => match dst with
      | none => none
      | some d => match nthK c.K d with
        | .dat l => mapO (fun h => .one [q] d h) (lvFit lv l (fun is => fldD i.agg i.n 0 (nth is 0)))
        | _ => none
    | .ref r => match dst with
      | none => none
      | some d => match nthK c.K d with
        | .dat l => mapO (fun h => .one [q, r] d h) (lvFit (rootLv c.K r) l (fun is => (atD (nth is 1) (nth is 0)).bind (takeD i.agg i.n)))
        | _ => none
    | _ => none
  | _ => none

@[reducible] def rdP (q r : Nat) : List Nat :=
  match Nat.beq q r with
  | true => [r]
  | false => [q, r]
@[reducible] def goP (q r : Nat) (is : List D) (k : D → D → List D → Option Out) : Option Out :=
  match Nat.beq q r with
  | true => match is with
    | b :: is => k b (.ref 0 0) is
    | [] => none
  | false => match is with
    | p :: b :: is => k b p is
    | _ => none
@[reducible] def stK (chk : Bool) (n : Nat) (b p y : D) (k : D → Option Out) : Option Out :=
  match chk with
  | true => (chkV y).bind fun y => (stD n b p y).bind k
  | false => (stD n b p y).bind k

/-- What is stored: data, or an owned slice that is given up. -/
@[reducible] def stTo (c : Cx) (i : TI) (q r lv : Nat) (x : Operand) : Option Ac :=
  match x with
  | .tmp s => match nthK c.K s with
    | .dat l => match Nat.ble l lv, Nat.beq lv 0 with
      | true, _ => some (.many (app (rdP q r) [s]) [] [r] fun is k => goP q r is fun b p is => nthC is 0 fun y => stK false i.n b p y fun b => k [b])
      | false, true => some (.many (app (rdP q r) [s]) [] [r] fun is k => goP q r is fun b p is => nthC is 0 fun y => stK true i.n b p y fun b => k [b])
      | false, false => none
    | .own _ l false => match Nat.ble 1 lv, Nat.ble l lv, Nat.beq s r with
      | true, true, false => some (.many (app (rdP q r) [s]) [s] [r] fun is k => goP q r is fun b p is => nthC is 0 fun y => stK false i.n b p y fun b => k [.bad, b])
      | _, _, _ => none
    | _ => none
  | .global _ => none
  | .const v => match okC v with
    | true => some (.many (app (rdP q r) []) [] [r] fun is k => goP q r is fun b p _ => stK false i.n b p (constD v) fun b => k [b])
    | false => none
  | .func f => some (.many (app (rdP q r) []) [] [r] fun is k => goP q r is fun b p _ => stK false i.n b p (.clo f []) fun b => k [b])
@[reducible] def stOf (c : Cx) (i : TI) (p x : Operand) : Option Ac :=
  match p with
  | .tmp q => match nthK c.K q with
    | .box _ lv _ => stTo c i q q lv x
    | .ref r => stTo c i q r (rootLv c.K r) x
    | _ => none
  | _ => none

@[reducible] def faOf (c : Cx) (dst : Option Nat) (i : TI) (f : Nat) (p : Operand) : Option Ac :=
  match p, fieldOf c i f with
  | .tmp q, some (off, _) => match nthK c.K q with
    | .dat lv => dataOp c dst [p] lv (arg1 (offD off))
    | .box _ _ _ => match dst with
      | none => none
      | some d => match nthK c.K d with
        | .ref r => match Nat.beq r q with
          | true => some (.one [q] d (arg1 fun b => liveD b (.ref 0 off)))
          | false => none
        | _ => none
    | .ref r => match dst with
      | none => none
      | some d => match nthK c.K d with
        | .ref r' => match Nat.beq r r' with
          | true => some (.one [q] d (arg1 (refAdd off)))
          | false => none
        | _ => none
    | _ => none
  | _, _ => none

@[reducible] def okDat (K : List Kd) (x : Operand) : Bool := Nat.ble (lvOf K x) 2

@[reducible] def isSl (i : TI) : Bool :=
  match i.alen, i.ez with
  | 0, 0 => false
  | 0, _ => true
  | _, _ => false

@[reducible] def iaOf (c : Cx) (dst : Option Nat) (i : TI) (x ix : Operand) : Option Ac :=
  match x, okDat c.K ix with
  | .tmp q, true => match isSl i with
    | true => match nthK c.K q with
      | .dat lv => dataOp c dst [x, ix] lv (arg2 fun x j => (elemD i.ez x j).map .ptr)
      | .own _ _ _ => match dst with
        | none => none
        | some d => match nthK c.K d with
          | .ref r => match Nat.beq r q with
            | true => some (.one (q :: rdOf [ix]) d fun is => match is with
              | b :: is => arg1 (refI i.ez b) (valsOf [ix] is)
              | [] => none)
            | false => none
          | _ => none
      | .via r => match dst with
        | none => none
        | some d => match nthK c.K d with
          | .ref r' => match Nat.beq r r', isOwn c.K r with
            | true, true => some (.one (q :: r :: rdOf [ix]) d fun is => match is with
              | p :: b :: is => (liveD p b).bind fun b => arg1 (refI i.ez b) (valsOf [ix] is)
              | _ => none)
            | _, _ => none
          | _ => none
      | _ => none
    | false => match i.alen with
     | 0 => none
     | len => match nthK c.K q with
      | .dat lv => dataOp c dst [x, ix] lv (arg2 (ixD len i.ez))
      | .box _ _ _ => match dst with
        | none => none
        | some d => match nthK c.K d with
          | .ref r => match Nat.beq r q with
            | true => some (.one (q :: rdOf [ix]) d fun is => match is with
              | b :: is => (liveD b (.ref 0 0)).bind fun p => arg1 (refIx len i.ez p) (valsOf [ix] is)
              | [] => none)
            | false => none
          | _ => none
      | .ref r => match dst with
        | none => none
        | some d => match nthK c.K d with
          | .ref r' => match Nat.beq r r' with
            | true => some (.one (q :: rdOf [ix]) d fun is => match is with
              | p :: is => arg1 (refIx len i.ez p) (valsOf [ix] is)
              | [] => none)
            | false => none
          | _ => none
      | _ => none
  | _, _ => none

/-- What a new owned slice may lie in. -/
@[reducible] def newIn (K : List Kd) (d z lv : Nat) : Bool :=
  match nthK K d with
  | .own z' l false => match Nat.beq z z' with
    | true => Nat.ble lv l
    | false => false
  | .dat l => match Nat.ble 1 l with
    | true => Nat.ble lv l
    | false => false
  | _ => false

@[reducible] def iotaN : Nat → List (Nat × Operand) → Nat → Bool
  | k, [], n => Nat.beq k n
  | k, (i, _) :: ps, n => match Nat.beq i k with
    | true => iotaN (Nat.succ k) ps n
    | false => false

@[reducible] def bsOf (c : Cx) (dst : Option Nat) (i : TI) (n : Nat) (parts : List (Nat × Operand)) : Option Ac :=
  let xs := mapD (fun p => p.2) parts
  match dst with
  | none => none
  | some d =>
    match iotaN 0 parts n, Nat.ble (n * i.ez) 16777216, newIn c.K d i.ez (lvAll c.K xs), Nat.ble (lvAll c.K xs) 2 with
    | true, true, true, true => some (.many (rdOf xs) [d] [] fun is k => (mkArr i.ez (valsOf xs is)).bind fun a => k [a])
    | _, _, _, _ => none

/-- A slice that is read as a whole: data, or what a slot owns. -/
@[reducible] def srcOf (K : List Kd) (x : Operand) : Option (List Nat × Nat × Option Nat) :=
  match x with
  | .tmp t => match nthK K t with
    | .dat lv => some ([t], lv, none)
    | .own _ lv _ => some ([t], lv, some t)
    | .via r => match nthK K r with
      | .own _ lv _ => some ([t, r], lv, some r)
      | _ => none
    | _ => none
  | .const (.slice none 0 0) => some ([], 0, none)
  | _ => none
@[reducible] def srcVal (rd : List Nat) (is : List D) (k : D → Option Out) : Option Out :=
  match rd with
  | [] => k (.arr 0 [])
  | [_] => nthC is 0 k
  | _ => nthC is 0 fun p => nthC is 1 fun x => (liveD p x).bind k
@[reducible] def dropN {α : Type} : Nat → List α → List α
  | 0, l => l
  | _ + 1, [] => []
  | n + 1, _ :: l => dropN n l
@[reducible] def lenN {α : Type} : List α → Nat
  | [] => 0
  | _ :: l => Nat.succ (lenN l)

@[reducible] def neO : Option Nat → Option Nat → Bool
  | some a, some b => match Nat.beq a b with
    | true => false
    | false => true
  | _, _ => true

/-- A slice of scalars, or of structs of scalars. -/
def chkA (d : D) : Option D :=
  match d with
  | .arr z l => if l.all D.isV then some (.arr z l) else none
  | _ => none
@[reducible] def chkK (chk : Bool) (b : D) (k : D → Option Out) : Option Out :=
  match chk with
  | true => (chkA b).bind k
  | false => k b
@[reducible] def apTo (c : Cx) (d : Nat) (i : TI) (chk : Bool) (rs rx : List Nat) (os : Option Nat) : Option Ac :=
  match os with
  | some r => match mayGive c.K r, Nat.beq (ownZ c.K r) i.ez with
    | true, true => some (.many (app rs rx) [d, r] [] fun is k => srcVal rs is fun a => srcVal rx (dropN (lenN rs) is) fun b => chkK chk b fun b => (appD i.ez i.eb a b).bind fun y => k [y, .bad])
    | _, _ => none
  | none => match rs with
    | [] => some (.many rx [d] [] fun is k => srcVal rx is fun b => chkK chk b fun b => (appD i.ez i.eb (.arr 0 []) b).bind fun y => k [y])
    | _ => none
@[reducible] def apOf (c : Cx) (dst : Option Nat) (i : TI) (s x : Operand) : Option Ac :=
  match dst, srcOf c.K s, srcOf c.K x with
  | some d, some (rs, ls, os), some (rx, lx, ox) =>
    match neO os ox, newIn c.K d i.ez (maxN ls lx), newIn c.K d i.ez ls with
    | true, true, _ => apTo c d i false rs rx os
    | true, false, true => apTo c d i true rs rx os
    | _, _, _ => none
  | _, _, _ => none

@[reducible] def lnOf (c : Cx) (dst : Option Nat) (str : Bool) (x : Operand) : Option Ac :=
  match x with
  | .tmp t => match nthK c.K t with
    | .dat _ => dataOp c dst [x] 0 (arg1 (lenD str))
    | _ => match dst, srcOf c.K x with
      | some d, some (rd, _, _) => match nthK c.K d with
        | .dat _ => some (.one rd d fun is => match rd with
          | [_] => lenD str (nth is 0)
          | _ => (liveD (nth is 0) (nth is 1)).bind (lenD str))
        | _ => none
      | _, _ => none
  | _ => dataOp c dst [x] 0 (arg1 (lenD str))

@[reducible] def loOf : Option Operand → Operand
  | some l => l
  | none => .const (.int .i64 0)
/-- A part of an owned slice. -/
@[reducible] def slOwn (c : Cx) (dst : Option Nat) (i : TI) (x : Operand) (lo hi : Option Operand) : Option Ac :=
  match dst, srcOf c.K x with
  | some d, some (rd, lv, some r) => match mayGive c.K r, newIn c.K d i.ez lv, okDat c.K (loOf lo), i.str with
    | true, true, true, false => match hi with
      | some h => match okDat c.K h with
        | true => some (.many (app rd (rdOf [loOf lo, h])) [d, r] [] fun is k => srcVal rd is fun b =>
            (arg2 (sliceD false i.ez b) (valsOf [loOf lo, h] (dropN (lenN rd) is))).bind fun y => k [y, .bad])
        | false => none
      | none => some (.many (app rd (rdOf [loOf lo])) [d, r] [] fun is k => srcVal rd is fun b =>
            (arg1 (sliceHi false i.ez b) (valsOf [loOf lo] (dropN (lenN rd) is))).bind fun y => k [y, .bad])
    | _, _, _, _ => none
  | _, _ => none
/-- A part of a slice. -/
@[reducible] def slOf (c : Cx) (dst : Option Nat) (i : TI) (x : Operand) (lo hi : Option Operand) : Option Ac :=
  match x with
  | .tmp q => match nthK c.K q with
    | .dat lv => match hi with
      | some h => dataOp c dst [x, loOf lo, h] lv (arg3 (sliceD i.str i.ez))
      | none => dataOp c dst [x, loOf lo] lv (arg2 (sliceHi i.str i.ez))
    | .own _ _ _ => slOwn c dst i x lo hi
    | .via _ => slOwn c dst i x lo hi
    | _ => none
  | _ => none

@[reducible] def mkOf (c : Cx) (dst : Option Nat) (i e : TI) (n m : Operand) : Option Ac :=
  match dst, okDat c.K n, okDat c.K m with
  | some d, true, true => match newIn c.K d i.ez 0 with
    | true => some (.many (rdOf [n, m]) [d] [] fun is k => (match valsOf [n, m] is with
        | [a, b] => makD i.ez i.eb (zeroD e) a b
        | _ => none).bind fun y => k [y])
    | false => none
  | _, _, _ => none

@[reducible] def bxOf (c : Cx) (dst : Option Nat) (i : TI) (x : Operand) : Option Ac :=
  match dst with
  | none => none
  | some d => match nthK c.K d with
    | .box n l false => match Nat.beq n i.n, okDat c.K x with
      | true, true => match Nat.ble (lvOf c.K x) l with
        | true => some (.many (rdOf [x]) [d] [] fun is k => (arg1 (boxD n) (valsOf [x] is)).bind fun y => k [y])
        | false => match Nat.beq l 0 with
          | true => some (.many (rdOf [x]) [d] [] fun is k => (arg1 (fun x => (chkV x).bind (boxD n)) (valsOf [x] is)).bind fun y => k [y])
          | false => none
      | _, _ => none
    | _ => none
@[reducible] def alOf (c : Cx) (dst : Option Nat) (i : TI) : Option Ac :=
  match dst with
  | none => none
  | some d => match nthK c.K d with
    | .box n _ false => match Nat.beq n i.n with
      | true => some (.many [] [d] [] fun _ k => k [.agg i.zero])
      | false => none
    | _ => none

@[reducible] def exOf (c : Cx) (dst : Option Nat) (x : Operand) (i : Nat) : Option Ac :=
  match dst, x with
  | some d, .tmp t => match nthK c.K t with
    | .tup ms => match nthK ms i with
      | .dat lv => match nthK c.K d with
        | .dat l => match Nat.ble lv l with
          | true => some (.one [t] d fun is => tupAt (nth is 0) i)
          | false => none
        | _ => none
      | .own z lv false => match newIn c.K d z lv with
        | true => some (.many [t] [d, t] [] fun is k => nthC is 0 fun t => (tupAt t i).bind fun y => k [y, tupCut t i])
        | false => none
      | _ => none
    | _ => none
  | _, _ => none

/-! ### calls -/
inductive Ag where
  | d (x : Operand) (chk : Bool)
  | bor (t r : Nat)
  | io (t r : Nat)

@[reducible] def agOf (K : List Kd) (x : Operand) (m : Kd) : Option Ag :=
  match m with
  | .dat l => match x with
    | .tmp t => match nthK K t with
      | .dat lv => match Nat.ble lv l with
        | true => some (.d x false)
        | false => match Nat.beq l 0 with
          | true => some (.d x true)
          | false => none
      | .own _ _ _ => match Nat.beq l 2 with
        | true => some (.bor t t)
        | false => none
      | .via r => match Nat.beq l 2, isOwn K r with
        | true, true => some (.bor t r)
        | _, _ => none
      | _ => none
    | .global _ => none
    | .func _ => some (.d x false)
    | .const v => match okC v with
      | true => some (.d x false)
      | false => none
  | .own z l true => match x with
    | .tmp t => match nthK K t with
      | .own z' lv _ => match Nat.beq z z', Nat.beq l lv with
        | true, true => some (.io t t)
        | _, _ => none
      | .via r => match nthK K r with
        | .own z' lv _ => match Nat.beq z z', Nat.beq l lv with
          | true, true => some (.io t r)
          | _, _ => none
        | _ => none
      | _ => none
    | _ => none
  | .box n l true => match x with
    | .tmp t => match nthK K t with
      | .box n' lv _ => match Nat.beq n n', Nat.beq l lv with
        | true, true => some (.io t t)
        | _, _ => none
      | .ref r => match nthK K r with
        | .box n' lv _ => match Nat.beq n n', Nat.beq l lv with
          | true, true => some (.io t r)
          | _, _ => none
        | _ => none
      | _ => none
    | _ => none
  | _ => none
@[reducible] def agsOf (K : List Kd) : List Operand → List Kd → Option (List Ag)
  | [], [] => some []
  | x :: xs, m :: ms => match agOf K x m, agsOf K xs ms with
    | some a, some l => some (a :: l)
    | _, _ => none
  | _, _ => none
@[reducible] def agRd : List Ag → List Nat
  | [] => []
  | .d x _ :: l => app (rdOf [x]) (agRd l)
  | .bor t r :: l => match Nat.beq t r with
    | true => t :: agRd l
    | false => t :: r :: agRd l
  | .io t r :: l => match Nat.beq t r with
    | true => t :: agRd l
    | false => t :: r :: agRd l
@[reducible] def agIo : List Ag → List Nat
  | [] => []
  | .io _ r :: l => r :: agIo l
  | _ :: l => agIo l
@[reducible] def agBor : List Ag → List Nat
  | [] => []
  | .bor _ r :: l => r :: agBor l
  | _ :: l => agBor l
@[reducible] def nodupN : List Nat → Bool
  | [] => true
  | a :: l => match memN a l with
    | true => false
    | false => nodupN l
@[reducible] def apartN : List Nat → List Nat → Bool
  | [], _ => true
  | a :: l, m => match memN a m with
    | true => false
    | false => apartN l m
@[reducible] def asmK (acc : List D) : List Ag → List D → (List D → Option Out) → Option Out
  | [], _, k => k acc
  | .d x chk :: l, is, k => match x with
    | .tmp _ => match is with
      | i :: is => match chk with
        | false => asmK (app acc [i]) l is k
        | true => (chkV i).bind fun i => asmK (app acc [i]) l is k
      | [] => none
    | .const v => asmK (app acc [constD v]) l is k
    | .func f => asmK (app acc [.clo f []]) l is k
    | .global _ => none
  | .bor t r :: l, is, k => match Nat.beq t r with
    | true => match is with
      | i :: is => asmK (app acc [i]) l is k
      | _ => none
    | false => match is with
      | p :: i :: is => (liveD p i).bind fun i => asmK (app acc [i]) l is k
      | _ => none
  | .io t r :: l, is, k => match Nat.beq t r with
    | true => match is with
      | i :: is => (liveD i i).bind fun i => asmK (app acc [i]) l is k
      | _ => none
    | false => match is with
      | p :: i :: is => (ref0 p i).bind fun i => (liveD i i).bind fun i => asmK (app acc [i]) l is k
      | _ => none

@[reducible] def rmFit (K : List Kd) (d : Nat) : List Kd → Bool
  | [.dat lv] => match nthK K d with
    | .dat l => Nat.ble lv l
    | _ => false
  | [.own z lv false] => newIn K d z lv
  | [] => true
  | ms => match nthK K d with
    | .tup ns => sameKs ms ns
    | _ => false
@[reducible] def noAny : List Kd → Bool
  | [] => true
  | .dat lv :: l => match Nat.ble lv 1 with
    | true => noAny l
    | false => false
  | .own _ lv _ :: l => match Nat.ble lv 1 with
    | true => noAny l
    | false => false
  | _ => false

/-- What a parameter may be. -/
@[reducible] def okPm : List Kd → Bool
  | [] => true
  | .dat lv :: l => match Nat.beq lv 1, Nat.ble lv 2 with
    | false, true => okPm l
    | _, _ => false
  | .own _ lv true :: l => match Nat.beq lv 1, Nat.ble lv 2 with
    | false, true => okPm l
    | _, _ => false
  | .box _ lv true :: l => match Nat.beq lv 1, Nat.ble lv 2 with
    | false, true => okPm l
    | _, _ => false
  | _ => false
@[reducible] def io0 : List Kd → Bool
  | [] => true
  | .own _ lv _ :: l => match Nat.beq lv 0 with
    | true => io0 l
    | false => false
  | .box _ lv _ :: l => match Nat.beq lv 0 with
    | true => io0 l
    | false => false
  | _ :: l => io0 l

@[reducible] def clOf (c : Cx) (dst : Option Nat) (S : FS) (xs : List Operand) : Option Ac :=
  match agsOf c.K xs S.pm with
  | none => none
  | some ags =>
    let ios := agIo ags
    let bor := agBor ags
    let okB := match bor with
      | [] => true
      | _ => match noAny S.rm, io0 S.pm with
        | true, true => apartN bor ios
        | _, _ => false
    match okB, nodupN ios, okPm S.pm with
    | true, true, true => match dst with
      | none => match S.rm with
        | [] => some (.many (agRd ags) [] ios fun is k => asmK [] ags is fun ds => callK (S.f ds) fun _ us => k (outs us ios))
        | _ => none
      | some d => match rmFit c.K d S.rm, memN d ios, S.rm with
        | true, false, [] => some (.many (agRd ags) [d] ios fun is k => asmK [] ags is fun ds => callK (S.f ds) fun _ us => k (.bad :: outs us ios))
        | true, false, [_] => some (.many (agRd ags) [d] ios fun is k => asmK [] ags is fun ds => callK (S.f ds) fun rs us => k (nth rs 0 :: outs us ios))
        | true, false, _ => some (.many (agRd ags) [d] ios fun is k => asmK [] ags is fun ds => callK (S.f ds) fun rs us => k (.tup rs :: outs us ios))
        | _, _, _ => none
    | _, _, _ => none
where
  @[reducible] outs (us : List D) (ios : List Nat) : List D := go us 0 ios
  @[reducible] go (us : List D) : Nat → List Nat → List D
    | _, [] => []
    | j, _ :: l => nth us j :: go us (Nat.succ j) l

@[reducible] def partsFs (c : Cx) (t : TI) : List (Nat × Operand) → Option (List (Nat × Nat))
  | [] => some []
  | (i, _) :: ps => match fieldOf c t i, partsFs c t ps with
    | some (off, ti), some l => some ((off, ti.n) :: l)
    | _, _ => none
@[reducible] def partsAs (z : Nat) : List (Nat × Operand) → List (Nat × Nat)
  | [] => []
  | (i, _) :: ps => (i * z, z) :: partsAs z ps

@[reducible] def foldB (f : D → D → Option D) : D → List D → Option D
  | x, [] => some x
  | x, y :: ys => (f x y).bind fun z => foldB f z ys
@[reducible] def fold1 (f : D → D → Option D) : List D → Option D
  | x :: y :: xs => foldB f x (y :: xs)
  | _ => none

/-- A slice of bytes. -/
@[reducible] def byteE (c : Cx) (i : TI) : Bool :=
  match isSl i with
  | true => match look c.T i.elem with
    | some e => match e.ik with
      | some .u8 => true
      | _ => false
    | none => false
  | false => false
@[reducible] def cvOf (c : Cx) (dst : Option Nat) (si di : TI) (x : Operand) : Option Ac :=
  match di.str, si.str, si.ez with
  | true, false, 1 => match dst, srcOf c.K x with
    | some d, some (rd, _, _) => match nthK c.K d, byteE c si with
      | .dat _, true => some (.one rd d fun is => match rd with
        | [] => none
        | [_] => strD (nth is 0)
        | _ => (liveD (nth is 0) (nth is 1)).bind strD)
      | _, _ => none
    | _, _ => none
  | _, _, _ => dataOp c dst [x] 0 (arg1 (convD di.ik (match di.str with
    | true => si.str
    | false => false)))

@[reducible] def ixOf (c : Cx) (dst : Option Nat) (t : TI) (x i : Operand) : Option Ac :=
  match t.str with
  | true => dataOp c dst [x, i] 0 (arg2 charD)
  | false => match t.alen with
    | 0 => none
    | n => withT c t.elem fun e => dataOp c dst [x, i] (lvOf c.K x) (arg2 (ixA e.agg n t.ez))

@[reducible] def caOf (c : Cx) (dst : Option Nat) (q : Call) : Option Ac :=
  match q.callee, q.args.toList, q.argTypes.toList with
  | .builtin .len, [x], [t] => withT c t fun i => match isSl i, i.str with
    | true, false => lnOf c dst false x
    | false, true => lnOf c dst true x
    | _, _ => none
  | .builtin .append, [s, x], [t, u] => match Nat.beq t u with
    | true => withT c t fun i => withT c i.elem fun _ => match isSl i with
      | true => apOf c dst i s x
      | false => none
    | false => none
  | .builtin .min, xs, _ => dataOp c dst xs 0 (fold1 minD)
  | .builtin .max, xs, _ => dataOp c dst xs 0 (fold1 maxD)
  | .value (.func f), xs, _ => match look c.S f with
    | some S => clOf c dst S xs
    | none => none
  | _, _, _ => none

@[reducible] def buOf (c : Cx) (dst : Option Nat) (i : TI) (parts : List (Nat × Operand)) : Option Ac :=
  let xs := mapD (fun p => p.2) parts
  match i.alen, i.agg with
  | 0, true => match partsFs c i parts with
    | some ps => dataOp c dst xs (lvAll c.K xs) (bldD ps i.zero)
    | none => none
  | 0, false => none
  | _, _ => dataOp c dst xs (lvAll c.K xs) (bldD (partsAs i.ez parts) i.zero)

/-- A pointer that is looked at. -/
@[reducible] def ncOf (c : Cx) (dst : Option Nat) (x : Operand) : Option Ac :=
  match x with
  | .tmp t => match nthK c.K t with
    | .box _ _ _ => match dst with
      | none => none
      | some d => match nthK c.K d with
        | .ref r => match Nat.beq r t with
          | true => some (.one [t] d fun is => (arg1 fun x => liveD x (.ref 0 0)) is)
          | false => none
        | _ => none
    | .ref r => match dst with
      | none => none
      | some d => match nthK c.K d with
        | .ref r' => match Nat.beq r r' with
          | true => some (.one [t] d fun is => (arg1 fun x => liveD x x) is)
          | false => none
        | _ => none
    | _ => dataOp c dst [x] (lvOf c.K x) (arg1 nilD)
  | x => dataOp c dst [x] (lvOf c.K x) (arg1 nilD)

@[reducible] def isNilI : Operand → Bool
  | .const .nilIface => true
  | _ => false

@[reducible] def actOf (c : Cx) (o : Oper) : Option Ac :=
  match o.op with
  | .move x => mvOf c o.dst x o.type
  | .assign x => mvOf c o.dst x o.type
  | .pick q a b => dataOp c o.dst [q, a, b] (maxN (lvOf c.K a) (lvOf c.K b)) (arg3 pickD)
  | .alloc t => withT c t fun i => alOf c o.dst i
  | .box t x => withT c t fun i => bxOf c o.dst i x
  | .build t parts => withT c t fun i => buOf c o.dst i parts.toList
  | .buildSlice t n parts => withT c t fun i => withT c i.elem fun _ => match isSl i with
    | true => bsOf c o.dst i n parts.toList
    | false => none
  | .load t p => withT c t fun i => ldOf c o.dst i p
  | .store t p x => match o.dst with
    | none => withT c t fun i => stOf c i p x
    | some _ => none
  | .nilCheck x => ncOf c o.dst x
  | .binOp op t x y _ => withT c t fun i => match i.ifc with
    | true => dataOp c o.dst [x, y] 0 (arg2 (binI (isNilI y) op))
    | false => dataOp c o.dst [x, y] 0 (arg2 (bin op i.bl i.eq))
  | .unOp op _ x => dataOp c o.dst [x] 0 (arg1 (un op))
  | .convert src dt x => withT c src fun si => withT c dt fun di => cvOf c o.dst si di x
  | .makeFunc (.func f) first cap => match first.toList, cap.toList with
    | [], [] => dataOp c o.dst [] 0 (fun _ => some (.clo f []))
    | _, _ => none
  | .makeSlice t n m => withT c t fun i => withT c i.elem fun e => match isSl i with
    | true => mkOf c o.dst i e n m
    | false => none
  | .slice t x lo hi none => withT c t fun i => match isSl i, i.str with
    | true, false => slOf c o.dst i x lo hi
    | false, true => slOf c o.dst i x lo hi
    | _, _ => none
  | .fieldAddr t x f => withT c t fun i => faOf c o.dst i f x
  | .field t x f => withT c t fun i => match fieldOf c i f with
    | some (off, ti) => dataOp c o.dst [x] (lvOf c.K x) (arg1 (fldD ti.agg ti.n off))
    | none => none
  | .indexAddr t x i => withT c t fun ti => iaOf c o.dst ti x i
  | .index t x i => withT c t fun ti => ixOf c o.dst ti x i
  | .extract x i => exOf c o.dst x i
  | .call q => caOf c o.dst q
  | _ => none

/-! ### what is written -/
@[reducible] def wrOf (c : Cx) : Ac → List Nat
  | .one _ d _ => d :: deps d c.K 0
  | .many _ hw cw _ => app hw (app cw (depsAll c.K hw))
@[reducible] def rdAc : Ac → List Nat
  | .one rd _ _ => rd
  | .many rd _ _ _ => rd

@[reducible] def gslot (ops : List Oper) (j : Nat) : Option Nat :=
  match nthO ops j with
  | some o => o.dst
  | none => none

/-- What stands in a slot whose operation is passed over. -/
@[reducible] def skipD : Kd → D
  | .dat _ => .tup []
  | _ => .bad
/-- The values of what an operation would write, if it is passed over: its own slot is void. -/
@[reducible] def altC (K : List Kd) (δ : List D) (dst : Option Nat) : List Nat → (List D → Option Out) → Option Out
  | [], k => k []
  | s :: ss, k => match dst with
    | some d => match memN s (d :: deps d K 0) with
      | true => altC K δ dst ss fun l => k (skipD (nthK K s) :: l)
      | false => nthC δ s fun a => altC K δ dst ss fun l => k (a :: l)
    | none => nthC δ s fun a => altC K δ dst ss fun l => k (a :: l)

/-- The first values of a list, as many as a list of slots has. -/
@[reducible] def fit (l : List D) : Nat → List Nat → List D
  | _, [] => []
  | j, _ :: ss => nth l j :: fit l (Nat.succ j) ss

@[reducible] def stepK (c : Cx) (ops : List Oper) (o : Oper) (δ : List D) (k : List D → Option Out) : Option Out :=
  match actOf c o with
  | none => none
  | some A => match o.guard with
    | none => match A with
      | .one rd d h => getC δ rd fun is => (h is).bind fun z => setManyC δ (d :: deps d c.K 0) [z] k
      | .many rd hw cw fn => getC δ rd fun is => fn is fun outs => setManyC δ (app hw (app cw (depsAll c.K hw))) outs k
    | some (j, pol) => match gslot ops j with
      | none => none
      | some g => nthC δ g fun gv => match A with
        | .one rd d h => getC δ rd fun is => (gate (skipD (nthK c.K d)) gv pol (h is)).bind fun z => setManyC δ (d :: deps d c.K 0) [z] k
        | .many rd hw cw fn => getC δ rd fun is => altC c.K δ o.dst (app hw cw) fun alt =>
          gateC gv pol (fn is fun outs => some (.nrm (fit outs 0 (app hw cw)))) alt fun outs =>
            setManyC δ (app hw (app cw (depsAll c.K hw))) (fit outs 0 (app hw cw)) k

@[reducible] def runOps (c : Cx) (ops : List Oper) : List Oper → List D → (List D → Option Out) → Option Out
  | [], δ, k => k δ
  | o :: os, δ, k => stepK c ops o δ fun δ' => runOps c ops os δ' k

/-! ### code -/
@[reducible] def voidL : Nat → List D
  | 0 => []
  | n + 1 => .bad :: voidL n
@[reducible] def padTo : Nat → List D → List D
  | 0, _ => []
  | n + 1, [] => .bad :: padTo n []
  | n + 1, a :: l => a :: padTo n l
/-- A list of slots' values laid out over n slots. -/
@[reducible] def expandC (n : Nat) (hl : List Nat) (s : List D) (k : List D → Option Out) : Option Out :=
  setManyC (voidL n) hl (fit s 0 hl) k

def iter (body : List D → Option Out) : Nat → List D → Option Out
  | 0, _ => none
  | n + 1, s => match body s with
    | some (.nrm s') => iter body n s'
    | r => r

open Classical in
/-- The loop's outcome, if there is one. -/
noncomputable def loopC (body : List D → Option Out) (s : List D) : Option Out :=
  if h : ∃ n, (iter body n s).isSome = true then iter body (Classical.choose h) s else none

@[reducible] def shrinkK (hl xl : List Nat) (o : Out) : Option Out :=
  match o with
  | .nrm δ => getC δ hl fun l => some (.nrm l)
  | .ext i δ => getC δ xl fun l => some (.ext i l)
  | .ret a b => some (.ret a b)

@[reducible] def resC (c : Cx) (δ : List D) : List ResultVar → (List D → Option Out) → Option Out
  | [], k => k []
  | .tmp t :: l, k => nthC δ t fun a => resC c δ l fun as' => k (a :: as')
  | .cell a t :: l, k => match look c.T t with
    | some i => nthC δ a fun b => (fldD i.agg i.n 0 b).bind fun y => resC c δ l fun as' => k (y :: as')
    | none => none
/-- What the caller owns must be known at the end. -/
@[reducible] def usK : List D → Option Out → Option Out
  | [], o => o
  | u :: us, o => (liveD u u).bind fun _ => usK us o

@[reducible] def opC (δ : List D) (x : Operand) (k : D → Option Out) : Option Out :=
  match x with
  | .tmp t => nthC δ t k
  | .const c => k (constD c)
  | .func f => k (.clo f [])
  | .global _ => none

@[reducible] def seqK (o : Out) (f : List D → Option Out) (k : Out → Option Out) : Option Out :=
  match o with
  | .nrm δ => f δ
  | .ext i δ => k (.ext i δ)
  | .ret a b => k (.ret a b)
@[reducible] def blkK (id : Nat) (o : Out) (k : Out → Option Out) : Option Out :=
  match o with
  | .nrm δ => k (.nrm δ)
  | .ext i δ => match Nat.beq i id with
    | true => k (.nrm δ)
    | false => k (.ext i δ)
  | .ret a b => k (.ret a b)
/-- Behind a loop. -/
def outK (o : Out) (x : Nat → List D → Option Out) (r : List D → List D → Option Out) : Option Out :=
  match o with
  | .nrm _ => none
  | .ext i s => x i s
  | .ret a b => r a b

@[reducible] noncomputable def den (c : Cx) : Nat → Code → List D → (Out → Option Out) → Option Out
  | _, .skip, δ, k => k (.nrm δ)
  | _, .region _ ops _, δ, k => runOps c ops.toList ops.toList δ fun δ' => k (.nrm δ')
  | bid, .seq a b, δ, k => den c bid a δ fun o => seqK o (fun δ' => den c bid b δ' k) k
  | bid, .cond x t e, δ, k => opC δ x fun q => ifD q (den c bid t δ k) (den c bid e δ k)
  | _, .block id b, δ, k => den c id b δ fun o => blkK id o k
  | bid, .loop b, δ, k => match look c.H bid with
    | none => none
    | some (hl, xl) =>
      getC δ hl fun s => (loopC (fun s => expandC (lenN c.K) hl s fun δ => den c bid b δ (shrinkK hl xl)) s).bind fun o =>
        outK o (fun i s => expandC (lenN c.K) xl s fun δ => k (.ext i δ)) (fun a b => k (.ret a b))
  | _, .exit id, δ, k => k (.ext id δ)
  | _, .ret, δ, k => resC c δ c.res fun rs => getC δ c.ios fun us => usK us (k (.ret rs us))
  | _, _, _, _ => none

/-- A whole function. -/
@[reducible] noncomputable def denF (c : Cx) (fn : Func) (ds : List D) : Option Out :=
  match fn.body with
  | none => none
  | some b => den c 0 b (padTo fn.ntmps ds) fun o => match o with
    | .nrm δ => resC c δ c.res fun rs => getC δ c.ios fun us => usK us (some (.ret rs us))
    | .ext _ _ => none
    | .ret rs us => some (.ret rs us)

end Go.V
