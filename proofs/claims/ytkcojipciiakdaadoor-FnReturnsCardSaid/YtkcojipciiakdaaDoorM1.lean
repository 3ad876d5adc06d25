/-
  A part of the proof: contracts and plain forms of functions beneath the statement, made small by a program (names shortened, what is not needed left out).
-/
import Derived.Test.YtkcojipciiakdaaDoorRows
import Derived.Test.YtkcojipciiakdaaDoorTie
import Derived.Test.YtkcojipciiakdaaDoorCards
import Derived.WalkKit
open Nat renaming beq → JI, ble → JN, eq_of_beq_eq_true → JX, succ → Kf, le_refl → Kn, add_assoc → KD, lt_or_ge → KG, min_eq_left → KL
open Go.Result renaming andThen_ok → JJ
open Bool renaming and_eq_true → JK, not_eq_true' → JR, false_eq_true → Kg
open Go.Sem renaming run_bind → JL, run_pure → JQ
open List.cons renaming injEq → JM
open List renaming map_cons → JO, map_nil → JS, getElem?_eq_some_iff → JT, mem_of_mem_take → JV, length_take → JZ, all_eq_true → Ka, mem_cons → Kc, drop_eq_nil_of_le → Kh, all_cons → Kj, mem_of_mem_drop → Kk, eq_nil_of_length_eq_zero → Kl, length_drop → Kr, nil_append → Ks, mem_append → Kt, take_of_length_le → Kw, take_append_drop → KA, mem_cons_of_mem → KC, getElem?_drop → KF, cons_append → KJ, length_cons → KK, foldl_cons → KM
open Option renaming map_eq_some_iff → JP, bind_eq_some_iff → JU
open Go.Op renaming equalIn → JW, equal → Kb, maxDepth → Ki, bytesLess → Kp, eqFields → Kx, intArith → Ky, stringOp → KI
open Go.Addr renaming add_lit → JY
open Go.Instr renaming indexAt → Ke, sureAddr → Km, loadAt → Kq, index → Kz, fieldAt → KE, sliceAt → KO
open Option.some renaming injEq → Ko
open UInt8 renaming ofNat → Ku
open Go.Value renaming cells → Kv, int → KN
open Go.World renaming cell?_of_block → KB
open Go.Builtin renaming len_ → KH, min2 → KQ, max2 → KR
open Go.Program renaming elem → KP
set_option maxRecDepth 100000
set_option linter.unusedSimpArgs false
set_option linter.unusedVariables false
noncomputable section
namespace Go.V
set_option maxRecDepth 100000
inductive D where
 | v (x:Value)
 | arr (z:Nat) (l:List D)
 | agg (l:List D)
 | ptr (l:List D)
 | clo (f:Nat) (l:List D)
 | ifc
 | raw (x:Value)
 | tup (l:List D)
 | ref (i f:Nat)
 | bad
 deriving Inhabited
abbrev B (b:Bool):D:=.v (.bool b)
abbrev I (n:Int):D:=.v (.int .i64 n)
abbrev U (n:Int):D:=.v (.int .u8 n)
abbrev T (s:ByteArray):D:=.v (.string s)
inductive Out where
 | nrm (δ:List D)
 | ext (id:Nat) (δ:List D)
 | ret (rs us:List D)
structure TI where
 agg:Bool:=false
 n:Nat:=1
 zero:List D:=[]
 elem:Nat:=0
 ez:Nat:=0
 eb:Nat:=0
 fs:List (Nat × Nat):=[]
 alen:Nat:=0
 eq:List Nat:=[]
 ik:Option IntKind:=none
 str:Bool:=false
 bl:Bool:=false
 ifc:Bool:=false
inductive Kd where
 | dat (lv:Nat)
 | own (z lv:Nat) (io:Bool)
 | box (n lv:Nat) (io:Bool)
 | via (r:Nat)
 | ref (r:Nat)
 | tup (l:List Kd)
 | no
structure FS where
 pm:List Kd
 rm:List Kd
 f:List D→Option Out
structure Cx where
 K:List Kd
 T:List (Nat × TI)
 S:List (Nat × FS)
 H:List (Nat × (List Nat × List Nat)):=[]
 res:List ResultVar
 ios:List Nat:=[]
 G:List (Nat × (Obj→Prop)):=[]
 N:List Nat:=[]
 C:List (Nat × Nat):=[]
section small
@[reducible] def Au {α:Type}:List α→Nat→Option α
 | [],_=>none
 | a::_,0=>some a
 | _::l,n+1=>Au l n
@[reducible] def nth:List D→Nat→D
 | [],_=>.bad
 | a::_,0=>a
 | _::l,n+1=>nth l n
@[reducible] def an:List Kd→Nat→Kd
 | [],_=>.no
 | a::_,0=>a
 | _::l,n+1=>an l n
@[reducible] def eJ:List D→Nat→D→List D
 | [],_,_=>[]
 | _::l,0,b=>b::l
 | a::l,n+1,b=>a::eJ l n b
@[reducible] def cR {α:Type}:List (Nat × α)→Nat→Option α
 | [],_=>none
 | (k,a)::l,n=>match JI k n with
  | true=>some a
  | false=>cR l n
@[reducible] def app {α:Type}:List α→List α→List α
 | [],b=>b
 | a::l,b=>a::app l b
@[reducible] def kT {α β:Type} (f:α→β):List α→List β
 | []=>[]
 | a::l=>f a::kT f l
@[reducible] def ai:List D→List Nat→List D→List D
 | δ,[],_=>δ
 | δ,s::ss,[]=>ai (eJ δ s .bad) ss []
 | δ,s::ss,d::ds=>ai (eJ δ s d) ss ds
@[reducible] def eY {R:Type}:List D→Nat→(D→R)→R
 | [],_,k=>k .bad
 | a::_,0,k=>k a
 | _::l,n+1,k=>eY l n k
@[reducible] def Bb {R:Type}:List D→Nat→D→(List D→R)→R
 | [],_,_,k=>k []
 | _::l,0,b,k=>k (b::l)
 | a::l,n+1,b,k=>Bb l n b fun l'=>k (a::l')
@[reducible] def mI {R:Type} (δ:List D):List Nat→(List D→R)→R
 | [],k=>k []
 | s::ss,k=>eY δ s fun a=>mI δ ss fun l=>k (a::l)
@[reducible] def dH {R:Type}:List D→List Nat→List D→(List D→R)→R
 | δ,[],_,k=>k δ
 | δ,s::ss,[],k=>Bb δ s .bad fun δ=>dH δ ss [] k
 | δ,s::ss,d::ds,k=>Bb δ s d fun δ=>dH δ ss ds k
@[reducible] def kY:Nat→List Nat→Bool
 | _,[]=>false
 | n,m::l=>match JI n m with
  | true=>true
  | false=>kY n l
end small
def D.cells:D→List D
 | .agg l=>l
 | d=>[d]
def D.single:D→Bool
 | .v _ | .arr .. | .ptr _ | .clo .. | .ifc | .raw _=>true
 | _=>false
def D.width (d:D):Nat:=d.cells.length
def D.isV:D→Bool
 | .v _=>true
 | .agg l=>l.all fun | .v _=>true | _=>false
 | _=>false
def flat:Value→Bool
 | .bool _ | .int .. | .string _ | .nilFunc | .nilIface | .pointer none=>true
 | .slice none 0 0=>true
 | _=>false
def gf (op:BinOp) (k:IntKind) (a b:Int):Option D :=
 match op with
 | .add=>some (.v (.int k (k.wrap (a+b))))
 | .sub=>some (.v (.int k (k.wrap (a - b))))
 | .mul=>some (.v (.int k (k.wrap (a*b))))
 | .quo=>if b=0 then none else some (.v (.int k (k.wrap (a.tdiv b))))
 | .rem=>if b=0 then none else some (.v (.int k (a.tmod b)))
 | .and | .or | .xor | .andNot=>some (.v (.int k (bits op k a b)))
 | .eql=>some (B (a==b))
 | .neq=>some (B (a != b))
 | .lss=>some (B (a<b))
 | .leq=>some (B (a≤b))
 | .gtr=>some (B (a>b))
 | .geq=>some (B (a≥b))
 | .shl | .shr=>none
def qb (op:BinOp) (a b:ByteArray):Option D :=
 match op with
 | .add=>if a.size+b.size≤1152921504606846976 then some (T (a++b)) else none
 | .eql=>some (B (a.toList==b.toList))
 | .neq=>some (B !(a.toList==b.toList))
 | .lss=>some (B (Kp a.toList b.toList))
 | .leq=>some (B (Kp a.toList b.toList||a.toList==b.toList))
 | .gtr=>some (B !(Kp a.toList b.toList||a.toList==b.toList))
 | .geq=>some (B !(Kp a.toList b.toList))
 | _=>none
def pj:List Nat→List D→List D→Option Bool
 | [],[],[]=>some true
 | 1::c,.v (.int k a)::l,.v (.int k' b)::m=>if k=k' then(pj c l m).map (a==b&&·) else none
 | 2::c,.v (.bool a)::l,.v (.bool b)::m=>(pj c l m).map (a==b&&·)
 | 3::c,.v (.string a)::l,.v (.string b)::m=>(pj c l m).map (a.toList==b.toList&&·)
 | _,_,_=>none
def bin (op:BinOp) (bl:Bool) (eq:List Nat) (x y:D):Option D :=
 match op,x,y with
 | .shl,.v (.int k a),.v (.int _ b)=>if 0≤b then some (.v (.int k (k.wrap (a*2 ^ min b.toNat k.bits)))) else none
 | .shr,.v (.int k a),.v (.int _ b)=>if 0≤b then some (.v (.int k (a.fdiv (2 ^ min b.toNat k.bits)))) else none
 | op,.v (.int k a),.v (.int k' b)=>if k=k' then gf op k a b else none
 | op,.v (.string a),.v (.string b)=>qb op a b
 | .eql,.v (.bool a),.v (.bool b)=>if bl then some (B (a==b)) else none
 | .neq,.v (.bool a),.v (.bool b)=>if bl then some (B !(a==b)) else none
 | .eql,.agg a,.agg b=>if eq=[] then none else(pj eq a b).map B
 | .neq,.agg a,.agg b=>if eq=[] then none else(pj eq a b).map fun q=>B !q
 | _,_,_=>none
def Ig (nc:Bool) (op:BinOp) (x y:D):Option D :=
 match op,x,y with
 | .eql,.ifc,.v .nilIface=>some (B false)
 | .neq,.ifc,.v .nilIface=>some (B true)
 | .eql,.v .nilIface,.v .nilIface=>if nc then some (B true) else none
 | .neq,.v .nilIface,.v .nilIface=>if nc then some (B false) else none
 | _,_,_=>none
def Ii (op:BinOp) (x:D):Option D :=
 match op,x with
 | .eql,.v (.slice none 0 0)=>some (B true)
 | .neq,.v (.slice none 0 0)=>some (B false)
 | .eql,.arr _ (_::_)=>some (B false)
 | .neq,.arr _ (_::_)=>some (B true)
 | _,_=>none
def un (op:UnOp) (x:D):Option D :=
 match op,x with
 | .neg,.v (.int k n)=>some (.v (.int k (k.wrap (0 - n))))
 | .not,.v (.bool b)=>some (B !b)
 | _,_=>none
def aR (c a b:D):Option D :=
 match c with
 | .v (.bool true)=>some a
 | .v (.bool false)=>some b
 | _=>none
def lenD (str:Bool) (x:D):Option D :=
 match str,x with
 | false,.arr _ l=>some (I l.length)
 | true,.v (.string s)=>some (I s.size)
 | _,_=>none
def bm (z:Nat) (x i:D):Option (List D) :=
 match x,i with
 | .arr z' l,.v (.int _ n)=>if z'=z∧0≤n then(l[n.toNat]?).map D.cells else none
 | _,_=>none
def ak (ag:Bool) (n:Nat) (l:List D):Option D :=
 if ag then(if n≤l.length then some (.agg (l.take n)) else none) else l.head?
def qY (x i:D):Option D :=
 match x,i with
 | .v (.string s),.v (.int _ n)=>if 0≤n then(s.data.toList[n.toNat]?).map fun b=>U b.toNat else none
 | _,_=>none
def hD (str:Bool) (z:Nat) (x lo hi:D):Option D :=
 match str,x,lo,hi with
 | false,.arr z' l,.v (.int _ a),.v (.int _ b)=>if z'=z∧0≤a∧a≤b∧b≤l.length then some (.arr z ((l.take b.toNat).drop a.toNat)) else none
 | true,.v (.string s),.v (.int _ a),.v (.int _ b)=>if 0≤a∧a≤b∧b≤s.size then some (T (s.extract a.toNat b.toNat)) else none
 | _,_,_,_=>none
def aV (d:D):Option D:=if d.isV then some d else none
def iq (z eb:Nat) (x y:D):Option D :=
 match x,y with
 | .arr a l,.arr b m=>if (a=z∨l=[])∧(b=z∨m=[])∧(l.length+m.length)*eb≤140737488355328∧l.length+m.length≤1152921504606846976 then some (.arr z (l++m)) else none
 | _,_=>none
abbrev Y:Kd:=.dat 0
abbrev Yb:Kd:=.dat 1
abbrev Yc:Kd:=.dat 2
abbrev Yo (z l:Nat):Kd:=.own z l false
abbrev Yr (r:Nat):Kd:=.ref r
end Go.V

namespace Go.V
set_option maxRecDepth 100000
inductive Ac where
 | one (rd:List Nat) (d:Nat) (h:List D→Option D)
 | many (rd hw cw:List Nat) (fn:List D→(List D→Option Out)→Option Out)
def ifD (c:D) (t e:Option Out):Option Out :=
 match c with
 | .v (.bool true)=>t
 | .v (.bool false)=>e
 | _=>none
def ae (v:D) (g:D) (pol:Bool) (r:Option D):Option D :=
 match g with
 | .v (.bool b)=>if b=pol then r else some v
 | .tup _=>some v
 | _=>none
def dF (g:D) (pol:Bool) (r:Option Out) (alt:List D) (k:List D→Option Out):Option Out :=
 match g with
 | .v (.bool b)=>if b=pol then(match r with
  | some (.nrm l)=>k l
  | _=>none) else k alt
 | .tup _=>k alt
 | _=>none
def ao (r:Option Out) (k:List D→List D→Option Out):Option Out :=
 match r with
 | some (.ret rs us)=>k rs us
 | _=>none
def bF (ag:Bool) (n off:Nat) (d:D):Option D :=
 match d with
 | .agg l=>ak ag n (l.drop off)
 | _=>none
def ldD (ag:Bool) (n:Nat) (d:D):Option D :=
 match d with
 | .ptr l=>ak ag n l
 | _=>none
def sE (off:Nat) (d:D):Option D :=
 match d with
 | .ptr l=>some (.ptr (l.drop off))
 | _=>none
def atD (o r:D):Option (List D) :=
 match o,r with
 | .arr _ l,.ref i f=>(l[i]?).map fun d=>d.cells.drop f
 | .agg l,.ref _ f=>some (l.drop f)
 | _,_=>none
def D.ofCells (old:D) (cs:List D):D :=
 match old,cs with
 | .agg _,cs=>.agg cs
 | _,c::_=>c
 | d,[]=>d
def bO (l:List D) (f:Nat) (vs:List D):List D:=l.take f++vs++l.drop (f+vs.length)
def stD (n:Nat) (o r x:D):Option D :=
 match o,r with
 | .arr z l,.ref i f=>match l[i]? with
  | some d=>if x.cells.length=n∧f+n≤d.width∧x.cells.all D.single then some (.arr z (l.set i (d.ofCells (bO d.cells f x.cells)))) else none
  | none=>none
 | .agg l,.ref _ f=>if x.cells.length=n∧f+n≤l.length∧x.cells.all D.single then some (.agg (bO l f x.cells)) else none
 | _,_=>none
def tV (z:Nat) (o i:D):Option D :=
 match o,i with
 | .arr z' l,.v (.int _ n)=>if z'=z∧0≤n∧n<l.length then some (.ref n.toNat 0) else none
 | _,_=>none
def aa (d:D) (x:D):Option D :=
 match d with
 | .bad=>none
 | _=>some x
def gg (z n:Nat) (l:List D):Bool:=l.all fun d=>d.width==z&&(d.single||(match d with | .agg c=>c.all D.single | _=>false))&&decide (l.length=n)
def bj (z:Nat) (l:List D):Option D:=if gg z l.length l then some (.arr z l) else none
def Ga (z eb:Nat) (x:D) (n c:D):Option D :=
 match n,c with
 | .v (.int _ a),.v (.int _ b)=>if 0≤a∧a≤b∧b*(eb:Int)≤140737488355328∧b≤140737488355328 then some (.arr z (List.replicate a.toNat x)) else none
 | _,_=>none
def fy (n:Nat) (x:D):Option D:=if x.cells.length=n∧x.cells.all D.single then some (.agg x.cells) else none
def IY (y:D):Option D :=
 match y with
 | .agg l=>some (.ptr l)
 | _=>none
def Jj (f:Nat) (ds:List D):Option D:=if ds.all D.single then some (.clo f ds) else none
def Hs (f n:Nat) (cl:D):Option (List D) :=
 match cl with
 | .clo g l=>if g=f∧l.length=n∧l.all D.single then some l else none
 | _=>none
def bU (t:D) (i:Nat):Option D :=
 match t with
 | .tup l=>match l[i]? with
  | some .bad=>none
  | some (.tup _)=>none
  | r=>r
 | _=>none
def qh (t:D) (i:Nat):D :=
 match t with
 | .tup l=>.tup (l.set i .bad)
 | d=>d
@[reducible] def qq:Value→D
 | .slice _ _ _=>.arr 0 []
 | v=>.v v
@[reducible] def okC:Value→Bool
 | .slice none 0 0=>true
 | .bool _=>true
 | .int _ _=>true
 | .string _=>true
 | .nilFunc=>true
 | .nilIface=>true
 | .pointer none=>true
 | _=>false
@[reducible] def lG:List Operand→List Nat
 | []=>[]
 | .tmp t::xs=>t::lG xs
 | _::xs=>lG xs
@[reducible] def dr:List Operand→List D→List D
 | [],_=>[]
 | .tmp _::xs,i::is=>i::dr xs is
 | .tmp _::xs,[]=>.bad::dr xs []
 | .const c::xs,is=>qq c::dr xs is
 | .func f::xs,is=>.clo f []::dr xs is
 | .global _::xs,is=>.bad::dr xs is
@[reducible] def opD (δ:List D):Operand→D
 | .tmp t=>nth δ t
 | .const c=>qq c
 | .func f=>.clo f []
 | .global _=>.bad
@[reducible] def DR (a b:Nat):Nat:=match JN a b with
 | true=>b
 | false=>a
@[reducible] def dA (K:List Kd):Operand→Nat
 | .tmp t=>match an K t with
  | .dat lv=>lv
  | _=>9
 | .const v=>match okC v with
  | true=>0
  | false=>9
 | .func _=>0
 | .global _=>9
@[reducible] def jt (K:List Kd):List Operand→Nat
 | []=>0
 | x::xs=>DR (dA K x) (jt K xs)
@[reducible] def bD (c:Cx) (dst:Option Nat) (xs:List Operand) (lv:Nat) (h:List D→Option D):Option Ac :=
 match dst with
 | none=>none
 | some d=>match an c.K d with
  | .dat l=>match JN (jt c.K xs) 2 with
   | false=>none
   | true=>match JN lv l with
    | true=>some (.one (lG xs) d fun is=>h (dr xs is))
    | false=>match JI l 0 with
     | true=>some (.one (lG xs) d fun is=>(h (dr xs is)).bind aV)
     | false=>none
  | _=>none
@[reducible] def ek (c:Cx) (t:Nat) (f:TI→Option Ac):Option Ac:=match cR c.T t with
 | some i=>f i
 | none=>none
@[reducible] def rh (c:Cx) (i:TI) (f:Nat):Option (Nat × TI):=match Au i.fs f with
 | some (off,ty)=>match cR c.T ty with
  | some j=>some (off,j)
  | none=>none
 | none=>none
@[reducible] def fg (h:D→Option D):List D→Option D
 | [a]=>h a
 | _=>none
@[reducible] def tX (h:D→D→Option D):List D→Option D
 | [a,b]=>h a b
 | _=>none
@[reducible] def Gk (h:D→D→D→Option D):List D→Option D
 | [a,b,x]=>h a b x
 | _=>none
@[reducible] def eh (r:Nat):List Kd→Nat→List Nat
 | [],_=>[]
 | .via q::K,s=>match JI q r with
  | true=>s::eh r K (Kf s)
  | false=>eh r K (Kf s)
 | .ref q::K,s=>match JI q r with
  | true=>s::eh r K (Kf s)
  | false=>eh r K (Kf s)
 | _::K,s=>eh r K (Kf s)
@[reducible] def br (K:List Kd):List Nat→List Nat
 | []=>[]
 | r::rs=>app (eh r K 0) (br K rs)
set_option maxRecDepth 100000
def kz (ik:Option IntKind) (str:Bool) (x:D):Option D :=
 match ik,str,x with
 | some k,_,.v (.int _ n)=>some (.v (.int k (k.wrap n)))
 | none,true,.v (.string s)=>some (T s)
 | _,_,_=>none
def kB:List D→Option (List UInt8)
 | []=>some []
 | .v (.int .u8 n)::l=>(kB l).map (Ku n.toNat::·)
 | _=>none
def wC (x:D):Option D :=
 match x with
 | .arr _ l=>(kB l).map fun b=>T ⟨b.toArray⟩
 | _=>none
def CM (x y:D):Option D :=
 match x,y with
 | .v (.int k a),.v (.int _ b)=>some (.v (.int k (if b<a then b else a)))
 | _,_=>none
def Dl (x y:D):Option D :=
 match x,y with
 | .v (.int k a),.v (.int _ b)=>some (.v (.int k (if a<b then b else a)))
 | _,_=>none
def EJ (x:D):Option D :=
 match x with
 | .ptr l=>some (.ptr l)
 | .clo f l=>some (.clo f l)
 | _=>none
def cQ (off:Nat) (r:D):Option D :=
 match r with
 | .ref i f=>some (.ref i (f+off))
 | _=>none
def cY (r x:D):Option D :=
 match r with
 | .ref 0 0=>some x
 | _=>none
def ixD (len z:Nat) (x i:D):Option D :=
 match x,i with
 | .ptr l,.v (.int _ n)=>if 0≤n∧n<len then some (.ptr (l.drop (n.toNat*z))) else none
 | _,_=>none
def ixA (ag:Bool) (len z:Nat) (x i:D):Option D :=
 match x,i with
 | .agg l,.v (.int _ n)=>if 0≤n∧n<len then ak ag z (l.drop (n.toNat*z)) else none
 | _,_=>none
def Ab (len z:Nat) (r i:D):Option D :=
 match r,i with
 | .ref j f,.v (.int _ n)=>if 0≤n∧n<len then some (.ref j (f+n.toNat*z)) else none
 | _,_=>none
def pI:List (Nat × Nat)→List D→List D→Option (List D)
 | (off,n)::ps,x::xs,cs=>if x.cells.length=n∧off+n≤cs.length∧x.cells.all D.single then pI ps xs (bO cs off x.cells) else none
 | [],[],cs=>some cs
 | _,_,_=>none
def kV (ps:List (Nat × Nat)) (z:List D) (xs:List D):Option D:=(pI ps xs z).map .agg
def qA (str:Bool) (z:Nat) (x lo:D):Option D :=
 match str,x,lo with
 | false,.arr z' l,.v (.int _ a)=>if z'=z∧0≤a∧a≤l.length then some (.arr z (l.drop a.toNat)) else none
 | true,.v (.string s),.v (.int _ a)=>if 0≤a∧a≤s.size then some (T (s.extract a.toNat s.size)) else none
 | _,_,_=>none
@[reducible] def tm (e:TI):D :=
 match e.agg with
 | true=>.agg e.zero
 | false=>match e.zero with
  | v::_=>v
  | []=>.bad
@[reducible] def eW:List Kd→List Kd→Bool
 | [],[]=>true
 | .dat a::l,.dat b::m=>match JI a b with
  | true=>eW l m
  | false=>false
 | .own z a false::l,.own y b false::m=>match JI a b,JI z y with
  | true,true=>eW l m
  | _,_=>false
 | _,_=>false
@[reducible] def yZ (c:Cx) (dst:Option Nat) (x:Operand) (ty:Nat):Option Ac :=
 match x with
 | .tmp t=>match an c.K t with
  | .own z lv io=>match dst with
   | none=>none
   | some d=>match an c.K d with
    | .via r=>match JI r t with
     | true=>some (.one [t] d fun is=>(fg fun x=>aa x (.ref 0 0)) is)
     | false=>none
    | .own z' lv' false=>match io,JI z z',JN lv lv' with
     | false,true,true=>some (.many [t] [d,t] [] fun is k=>eY is 0 fun x=>k [x,.bad])
     | _,_,_=>none
    | .dat lv'=>match io,JN 1 lv',JN lv lv' with
     | false,true,true=>some (.many [t] [d,t] [] fun is k=>eY is 0 fun x=>k [x,.bad])
     | _,_,_=>none
    | _=>none
  | .via r=>match dst with
   | none=>none
   | some d=>match an c.K r with
    | .own z lv io=>match an c.K d with
     | .via r'=>match JI r r' with
      | true=>some (.one [t] d fun is=>(fg fun x=>aa x (.ref 0 0)) is)
      | false=>none
     | .own z' lv' false=>match io,JI z z',JN lv lv' with
      | false,true,true=>some (.many [t,r] [d,r] [] fun is k=>eY is 0 fun p=>eY is 1 fun x=>(aa p x).bind fun y=>k [y,.bad])
      | _,_,_=>none
     | .dat lv'=>match io,JN 1 lv',JN lv lv' with
      | false,true,true=>some (.many [t,r] [d,r] [] fun is k=>eY is 0 fun p=>eY is 1 fun x=>(aa p x).bind fun y=>k [y,.bad])
      | _,_,_=>none
     | _=>none
    | _=>none
  | .box _ _ _=>match dst with
   | none=>none
   | some d=>match an c.K d with
    | .ref r=>match JI r t with
     | true=>some (.one [t] d fun is=>(fg fun x=>aa x (.ref 0 0)) is)
     | false=>none
    | _=>none
  | .ref r=>match dst with
   | none=>none
   | some d=>match an c.K d with
    | .ref r'=>match JI r r' with
     | true=>some (.one [t] d fun is=>(fg fun x=>aa x x) is)
     | false=>none
    | _=>none
  | .dat lv=>bD c dst [x] lv (fg some)
  | .tup ms=>match dst with
   | none=>none
   | some d=>match an c.K d with
    | .tup ns=>match eW ms ns,JI d t with
     | true,false=>some (.many [t] [d,t] [] fun is k=>eY is 0 fun x=>k [x,.bad])
     | _,_=>none
    | _=>none
  | _=>none
 | .const (.slice none 0 0)=>match dst with
  | none=>none
  | some d=>match an c.K d with
   | .own z _ false=>some (.many [] [d] [] fun _ k=>k [.arr z []])
   | .dat _=>match kY d c.N with
    | true=>bD c dst [x] 0 (fun _=>some (.v (.slice none 0 0)))
    | false=>ek c ty fun i=>bD c dst [x] 0 (fun _=>some (.arr i.ez []))
   | _=>none
 | x=>bD c dst [x] (dA c.K x) (fg some)
@[reducible] def GR {α β:Type} (f:α→β):Option α→Option β
 | none=>none
 | some a=>some (f a)
@[reducible] def xH (lv l:Nat) (h:List D→Option D):Option (List D→Option D) :=
 match JN lv l with
 | true=>some h
 | false=>match JI l 0 with
  | true=>some fun is=>(h is).bind aV
  | false=>none
@[reducible] def eU (K:List Kd) (r:Nat):Nat :=
 match an K r with
 | .own _ lv _=>lv
 | .box _ lv _=>lv
 | _=>9
@[reducible] def ku (K:List Kd) (r:Nat):Bool :=
 match an K r with
 | .own _ _ _=>true
 | _=>false
@[reducible] def IU (K:List Kd) (r:Nat):Nat :=
 match an K r with
 | .own z _ _=>z
 | _=>0
@[reducible] def ug (K:List Kd) (r:Nat):Bool :=
 match an K r with
 | .own _ _ false=>true
 | _=>false
@[reducible] def Gs (c:Cx) (dst:Option Nat) (i:TI) (p:Operand):Option Ac :=
 match p with
 | .tmp q=>match an c.K q with
  | .dat lv=>bD c dst [p] lv (fg (ldD i.agg i.n))
  | .box _ lv _=>match dst with
   | none=>none
   | some d=>match an c.K d with
    | .dat l=>GR (fun h=>.one [q] d h) (xH lv l (fun is=>bF i.agg i.n 0 (nth is 0)))
    | _=>none
  | .ref r=>match dst with
   | none=>none
   | some d=>match an c.K d with
    | .dat l=>GR (fun h=>.one [q,r] d h) (xH (eU c.K r) l (fun is=>(atD (nth is 1) (nth is 0)).bind (ak i.agg i.n)))
    | _=>none
  | _=>none
 | _=>none
@[reducible] def rdP (q r:Nat):List Nat :=
 match JI q r with
 | true=>[r]
 | false=>[q,r]
@[reducible] def goP (q r:Nat) (is:List D) (k:D→D→List D→Option Out):Option Out :=
 match JI q r with
 | true=>match is with
  | b::is=>k b (.ref 0 0) is
  | []=>none
 | false=>match is with
  | p::b::is=>k b p is
  | _=>none
@[reducible] def stK (chk:Bool) (n:Nat) (b p y:D) (k:D→Option Out):Option Out :=
 match chk with
 | true=>(aV y).bind fun y=>(stD n b p y).bind k
 | false=>(stD n b p y).bind k
@[reducible] def zU (c:Cx) (i:TI) (q r lv:Nat) (x:Operand):Option Ac :=
 match x with
 | .tmp s=>match an c.K s with
  | .dat l=>match JN l lv,JI lv 0 with
   | true,_=>some (.many (app (rdP q r) [s]) [] [r] fun is k=>goP q r is fun b p is=>eY is 0 fun y=>stK false i.n b p y fun b=>k [b])
   | false,true=>some (.many (app (rdP q r) [s]) [] [r] fun is k=>goP q r is fun b p is=>eY is 0 fun y=>stK true i.n b p y fun b=>k [b])
   | false,false=>none
  | .own _ l false=>match JN 1 lv,JN l lv,JI s r with
   | true,true,false=>some (.many (app (rdP q r) [s]) [s] [r] fun is k=>goP q r is fun b p is=>eY is 0 fun y=>stK false i.n b p y fun b=>k [.bad,b])
   | _,_,_=>none
  | _=>none
 | .global _=>none
 | .const v=>match okC v with
  | true=>some (.many (app (rdP q r) []) [] [r] fun is k=>goP q r is fun b p _=>stK false i.n b p (qq v) fun b=>k [b])
  | false=>none
 | .func f=>some (.many (app (rdP q r) []) [] [r] fun is k=>goP q r is fun b p _=>stK false i.n b p (.clo f []) fun b=>k [b])
@[reducible] def Eu (c:Cx) (i:TI) (p x:Operand):Option Ac :=
 match p with
 | .tmp q=>match an c.K q with
  | .box _ lv _=>zU c i q q lv x
  | .ref r=>zU c i q r (eU c.K r) x
  | _=>none
 | _=>none
@[reducible] def GJ (c:Cx) (dst:Option Nat) (i:TI) (f:Nat) (p:Operand):Option Ac :=
 match p,rh c i f with
 | .tmp q,some (off,_)=>match an c.K q with
  | .dat lv=>bD c dst [p] lv (fg (sE off))
  | .box _ _ _=>match dst with
   | none=>none
   | some d=>match an c.K d with
    | .ref r=>match JI r q with
     | true=>some (.one [q] d (fg fun b=>aa b (.ref 0 off)))
     | false=>none
    | _=>none
  | .ref r=>match dst with
   | none=>none
   | some d=>match an c.K d with
    | .ref r'=>match JI r r' with
     | true=>some (.one [q] d (fg (cQ off)))
     | false=>none
    | _=>none
  | _=>none
 | _,_=>none
@[reducible] def vn (K:List Kd) (x:Operand):Bool:=JN (dA K x) 2
@[reducible] def jB (i:TI):Bool :=
 match i.alen,i.ez with
 | 0,0=>false
 | 0,_=>true
 | _,_=>false
@[reducible] def Hh (c:Cx) (dst:Option Nat) (i:TI) (x ix:Operand):Option Ac :=
  match x,vn c.K ix with
  | .tmp q,true=>match jB i with
    | true=>match an c.K q with
      | .dat lv=>bD c dst [x,ix] lv (tX fun x j=>(bm i.ez x j).map .ptr)
      | .own _ _ _=>match dst with
        | none=>none
        | some d=>match an c.K d with
          | .ref r=>match JI r q with
            | true=>some (.one (q::lG [ix]) d fun is=>match is with
              | b::is=>fg (tV i.ez b) (dr [ix] is)
              | []=>none)
            | false=>none
          | _=>none
      | .via r=>match dst with
        | none=>none
        | some d=>match an c.K d with
          | .ref r'=>match JI r r',ku c.K r with
            | true,true=>some (.one (q::r::lG [ix]) d fun is=>match is with
              | p::b::is=>(aa p b).bind fun b=>fg (tV i.ez b) (dr [ix] is)
              | _=>none)
            | _,_=>none
          | _=>none
      | _=>none
    | false=>match i.alen with
     | 0=>none
     | len=>match an c.K q with
      | .dat lv=>bD c dst [x,ix] lv (tX (ixD len i.ez))
      | .box _ _ _=>match dst with
        | none=>none
        | some d=>match an c.K d with
          | .ref r=>match JI r q with
            | true=>some (.one (q::lG [ix]) d fun is=>match is with
              | b::is=>(aa b (.ref 0 0)).bind fun p=>fg (Ab len i.ez p) (dr [ix] is)
              | []=>none)
            | false=>none
          | _=>none
      | .ref r=>match dst with
        | none=>none
        | some d=>match an c.K d with
          | .ref r'=>match JI r r' with
            | true=>some (.one (q::lG [ix]) d fun is=>match is with
              | p::is=>fg (Ab len i.ez p) (dr [ix] is)
              | []=>none)
            | false=>none
          | _=>none
      | _=>none
  | _,_=>none
@[reducible] def fK (K:List Kd) (d z lv:Nat):Bool :=
 match an K d with
 | .own z' l false=>match JI z z' with
  | true=>JN lv l
  | false=>false
 | .dat l=>match JN 1 l with
  | true=>JN lv l
  | false=>false
 | _=>false
@[reducible] def AW:Nat→List (Nat × Operand)→Nat→Bool
 | k,[],n=>JI k n
 | k,(i,_)::ps,n=>match JI i k with
  | true=>AW (Kf k) ps n
  | false=>false
@[reducible] def Gl (c:Cx) (dst:Option Nat) (i:TI) (n:Nat) (parts:List (Nat × Operand)):Option Ac :=
 let xs:=kT (fun p=>p.2) parts
 match dst with
 | none=>none
 | some d =>
  match AW 0 parts n,JN (n*i.ez) 16777216,fK c.K d i.ez (jt c.K xs),JN (jt c.K xs) 2 with
  | true,true,true,true=>some (.many (lG xs) [d] [] fun is k=>(bj i.ez (dr xs is)).bind fun a=>k [a])
  | _,_,_,_=>none
@[reducible] def ka (K:List Kd) (x:Operand):Option (List Nat × Nat × Option Nat) :=
 match x with
 | .tmp t=>match an K t with
  | .dat lv=>some ([t],lv,none)
  | .own _ lv _=>some ([t],lv,some t)
  | .via r=>match an K r with
   | .own _ lv _=>some ([t,r],lv,some r)
   | _=>none
  | _=>none
 | .const (.slice none 0 0)=>some ([],0,none)
 | _=>none
@[reducible] def gU (rd:List Nat) (is:List D) (k:D→Option Out):Option Out :=
 match rd with
 | []=>k (.arr 0 [])
 | [_]=>eY is 0 k
 | _=>eY is 0 fun p=>eY is 1 fun x=>(aa p x).bind k
@[reducible] def mC {α:Type}:Nat→List α→List α
 | 0,l=>l
 | _+1,[]=>[]
 | n+1,_::l=>mC n l
@[reducible] def iD {α:Type}:List α→Nat
 | []=>0
 | _::l=>Kf (iD l)
@[reducible] def neO:Option Nat→Option Nat→Bool
 | some a,some b=>match JI a b with
  | true=>false
  | false=>true
 | _,_=>true
def jU (d:D):Option D :=
 match d with
 | .arr z l=>if l.all D.isV then some (.arr z l) else none
 | _=>none
@[reducible] def BT (chk:Bool) (b:D) (k:D→Option Out):Option Out :=
 match chk with
 | true=>(jU b).bind k
 | false=>k b
@[reducible] def Dw (c:Cx) (d:Nat) (i:TI) (chk:Bool) (rs rx:List Nat) (os:Option Nat):Option Ac :=
 match os with
 | some r=>match ug c.K r,JI (IU c.K r) i.ez with
  | true,true=>some (.many (app rs rx) [d,r] [] fun is k=>gU rs is fun a=>gU rx (mC (iD rs) is) fun b=>BT chk b fun b=>(iq i.ez i.eb a b).bind fun y=>k [y,.bad])
  | _,_=>none
 | none=>match rs with
  | []=>some (.many rx [d] [] fun is k=>gU rx is fun b=>BT chk b fun b=>(iq i.ez i.eb (.arr 0 []) b).bind fun y=>k [y])
  | _=>none
@[reducible] def Fr (c:Cx) (dst:Option Nat) (i:TI) (s x:Operand):Option Ac :=
 match dst,ka c.K s,ka c.K x with
 | some d,some (rs,ls,os),some (rx,lx,ox) =>
  match neO os ox,fK c.K d i.ez (DR ls lx),fK c.K d i.ez ls with
  | true,true,_=>Dw c d i false rs rx os
  | true,false,true=>Dw c d i true rs rx os
  | _,_,_=>none
 | _,_,_=>none
@[reducible] def CY (c:Cx) (dst:Option Nat) (str:Bool) (x:Operand):Option Ac :=
 match x with
 | .tmp t=>match an c.K t with
  | .dat _=>bD c dst [x] 0 (fg (lenD str))
  | _=>match dst,ka c.K x with
   | some d,some (rd,_,_)=>match an c.K d with
    | .dat _=>some (.one rd d fun is=>match rd with
     | [_]=>lenD str (nth is 0)
     | _=>(aa (nth is 0) (nth is 1)).bind (lenD str))
    | _=>none
   | _,_=>none
 | _=>bD c dst [x] 0 (fg (lenD str))
@[reducible] def qi:Option Operand→Operand
 | some l=>l
 | none=>.const (.int .i64 0)
@[reducible] def xu (c:Cx) (dst:Option Nat) (i:TI) (x:Operand) (lo hi:Option Operand):Option Ac :=
 match dst,ka c.K x with
 | some d,some (rd,lv,some r)=>match ug c.K r,fK c.K d i.ez lv,vn c.K (qi lo),i.str with
  | true,true,true,false=>match hi with
   | some h=>match vn c.K h with
    | true=>some (.many (app rd (lG [qi lo,h])) [d,r] [] fun is k=>gU rd is fun b =>
      (tX (hD false i.ez b) (dr [qi lo,h] (mC (iD rd) is))).bind fun y=>k [y,.bad])
    | false=>none
   | none=>some (.many (app rd (lG [qi lo])) [d,r] [] fun is k=>gU rd is fun b =>
      (fg (qA false i.ez b) (dr [qi lo] (mC (iD rd) is))).bind fun y=>k [y,.bad])
  | _,_,_,_=>none
 | _,_=>none
@[reducible] def AJ (c:Cx) (dst:Option Nat) (i:TI) (x:Operand) (lo hi:Option Operand):Option Ac :=
 match x with
 | .tmp q=>match an c.K q with
  | .dat lv=>match hi with
   | some h=>bD c dst [x,qi lo,h] lv (Gk (hD i.str i.ez))
   | none=>bD c dst [x,qi lo] lv (tX (qA i.str i.ez))
  | .own _ _ _=>xu c dst i x lo hi
  | .via _=>xu c dst i x lo hi
  | _=>none
 | _=>none
@[reducible] def GM (c:Cx) (dst:Option Nat) (i e:TI) (n m:Operand):Option Ac :=
 match dst,vn c.K n,vn c.K m with
 | some d,true,true=>match fK c.K d i.ez 0 with
  | true=>some (.many (lG [n,m]) [d] [] fun is k=>(match dr [n,m] is with
    | [a,b]=>Ga i.ez i.eb (tm e) a b
    | _=>none).bind fun y=>k [y])
  | false=>none
 | _,_,_=>none
@[reducible] def Hb (c:Cx) (dst:Option Nat) (i:TI) (x:Operand):Option Ac :=
 match dst with
 | none=>none
 | some d=>match an c.K d with
  | .box n l false=>match JI n i.n,vn c.K x with
   | true,true=>match JN (dA c.K x) l with
    | true=>some (.many (lG [x]) [d] [] fun is k=>(fg (fy n) (dr [x] is)).bind fun y=>k [y])
    | false=>match JI l 0 with
     | true=>some (.many (lG [x]) [d] [] fun is k=>(fg (fun x=>(aV x).bind (fy n)) (dr [x] is)).bind fun y=>k [y])
     | false=>none
   | _,_=>none
  | .dat l=>match vn c.K x,JN 1 l,JN (dA c.K x) l with
   | true,true,true=>some (.many (lG [x]) [d] [] fun is k=>(fg (fy i.n) (dr [x] is)).bind fun y=>(IY y).bind fun y=>k [y])
   | _,_,_=>none
  | _=>none
@[reducible] def Gq (c:Cx) (dst:Option Nat) (i:TI):Option Ac :=
 match dst with
 | none=>none
 | some d=>match an c.K d with
  | .box n _ false=>match JI n i.n with
   | true=>some (.many [] [d] [] fun _ k=>k [.agg i.zero])
   | false=>none
  | _=>none
@[reducible] def Hi (c:Cx) (dst:Option Nat) (x:Operand) (i:Nat):Option Ac :=
 match dst,x with
 | some d,.tmp t=>match an c.K t with
  | .tup ms=>match an ms i with
   | .dat lv=>match an c.K d with
    | .dat l=>match JN lv l with
     | true=>some (.one [t] d fun is=>bU (nth is 0) i)
     | false=>none
    | _=>none
   | .own z lv false=>match fK c.K d z lv with
    | true=>some (.many [t] [d,t] [] fun is k=>eY is 0 fun t=>(bU t i).bind fun y=>k [y,qh t i])
    | false=>none
   | _=>none
  | _=>none
 | _,_=>none
inductive Ag where
 | d (x:Operand) (chk:Bool)
 | bor (t r:Nat)
 | io (t r:Nat)
@[reducible] def nB (K:List Kd) (x:Operand) (m:Kd):Option Ag :=
 match m with
 | .dat l=>match x with
  | .tmp t=>match an K t with
   | .dat lv=>match JN lv l with
    | true=>some (.d x false)
    | false=>match JI l 0 with
     | true=>some (.d x true)
     | false=>none
   | .own _ _ _=>match JI l 2 with
    | true=>some (.bor t t)
    | false=>none
   | .via r=>match JI l 2,ku K r with
    | true,true=>some (.bor t r)
    | _,_=>none
   | _=>none
  | .global _=>none
  | .func _=>some (.d x false)
  | .const v=>match okC v with
   | true=>some (.d x false)
   | false=>none
 | .own z l true=>match x with
  | .tmp t=>match an K t with
   | .own z' lv _=>match JI z z',JI l lv with
    | true,true=>some (.io t t)
    | _,_=>none
   | .via r=>match an K r with
    | .own z' lv _=>match JI z z',JI l lv with
     | true,true=>some (.io t r)
     | _,_=>none
    | _=>none
   | _=>none
  | _=>none
 | .box n l true=>match x with
  | .tmp t=>match an K t with
   | .box n' lv _=>match JI n n',JI l lv with
    | true,true=>some (.io t t)
    | _,_=>none
   | .ref r=>match an K r with
    | .box n' lv _=>match JI n n',JI l lv with
     | true,true=>some (.io t r)
     | _,_=>none
    | _=>none
   | _=>none
  | _=>none
 | _=>none
@[reducible] def gM (K:List Kd):List Operand→List Kd→Option (List Ag)
 | [],[]=>some []
 | x::xs,m::ms=>match nB K x m,gM K xs ms with
  | some a,some l=>some (a::l)
  | _,_=>none
 | _,_=>none
@[reducible] def dR:List Ag→List Nat
 | []=>[]
 | .d x _::l=>app (lG [x]) (dR l)
 | .bor t r::l=>match JI t r with
  | true=>t::dR l
  | false=>t::r::dR l
 | .io t r::l=>match JI t r with
  | true=>t::dR l
  | false=>t::r::dR l
@[reducible] def dm:List Ag→List Nat
 | []=>[]
 | .io _ r::l=>r::dm l
 | _::l=>dm l
@[reducible] def eK:List Ag→List Nat
 | []=>[]
 | .bor _ r::l=>r::eK l
 | _::l=>eK l
@[reducible] def iB:List Nat→Bool
 | []=>true
 | a::l=>match kY a l with
  | true=>false
  | false=>iB l
@[reducible] def vb:List Nat→List Nat→Bool
 | [],_=>true
 | a::l,m=>match kY a m with
  | true=>false
  | false=>vb l m
@[reducible] def fH (acc:List D):List Ag→List D→(List D→Option Out)→Option Out
 | [],_,k=>k acc
 | .d x chk::l,is,k=>match x with
  | .tmp _=>match is with
   | i::is=>match chk with
    | false=>fH (app acc [i]) l is k
    | true=>(aV i).bind fun i=>fH (app acc [i]) l is k
   | []=>none
  | .const v=>fH (app acc [qq v]) l is k
  | .func f=>fH (app acc [.clo f []]) l is k
  | .global _=>none
 | .bor t r::l,is,k=>match JI t r with
  | true=>match is with
   | i::is=>fH (app acc [i]) l is k
   | _=>none
  | false=>match is with
   | p::i::is=>(aa p i).bind fun i=>fH (app acc [i]) l is k
   | _=>none
 | .io t r::l,is,k=>match JI t r with
  | true=>match is with
   | i::is=>(aa i i).bind fun i=>fH (app acc [i]) l is k
   | _=>none
  | false=>match is with
   | p::i::is=>(cY p i).bind fun i=>(aa i i).bind fun i=>fH (app acc [i]) l is k
   | _=>none
@[reducible] def AC (K:List Kd) (d:Nat):List Kd→Bool
 | [.dat lv]=>match an K d with
  | .dat l=>JN lv l
  | _=>false
 | [.own z lv false]=>fK K d z lv
 | []=>true
 | ms=>match an K d with
  | .tup ns=>eW ms ns
  | _=>false
@[reducible] def nA:List Kd→Bool
 | []=>true
 | .dat lv::l=>match JN lv 1 with
  | true=>nA l
  | false=>false
 | .own _ lv _::l=>match JN lv 1 with
  | true=>nA l
  | false=>false
 | _=>false
@[reducible] def gY:List Kd→Bool
 | []=>true
 | .dat lv::l=>match JI lv 1,JN lv 2 with
  | false,true=>gY l
  | _,_=>false
 | .own _ lv true::l=>match JI lv 1,JN lv 2 with
  | false,true=>gY l
  | _,_=>false
 | .box _ lv true::l=>match JI lv 1,JN lv 2 with
  | false,true=>gY l
  | _,_=>false
 | _=>false
@[reducible] def io0:List Kd→Bool
 | []=>true
 | .own _ lv _::l=>match JI lv 0 with
  | true=>io0 l
  | false=>false
 | .box _ lv _::l=>match JI lv 0 with
  | true=>io0 l
  | false=>false
 | _::l=>io0 l
@[reducible] def qc (c:Cx) (dst:Option Nat) (S:FS) (xs:List Operand):Option Ac :=
 match gM c.K xs S.pm with
 | none=>none
 | some ags =>
  let ios:=dm ags
  let bor:=eK ags
  let okB:=match bor with
   | []=>true
   | _=>match nA S.rm,io0 S.pm with
    | true,true=>vb bor ios
    | _,_=>false
  match okB,iB ios,gY S.pm with
  | true,true,true=>match dst with
   | none=>match S.rm with
    | []=>some (.many (dR ags) [] ios fun is k=>fH [] ags is fun ds=>ao (S.f ds) fun _ us=>k (outs us ios))
    | _=>none
   | some d=>match AC c.K d S.rm,kY d ios,S.rm with
    | true,false,[]=>some (.many (dR ags) [d] ios fun is k=>fH [] ags is fun ds=>ao (S.f ds) fun _ us=>k (.bad::outs us ios))
    | true,false,[_]=>some (.many (dR ags) [d] ios fun is k=>fH [] ags is fun ds=>ao (S.f ds) fun rs us=>k (nth rs 0::outs us ios))
    | true,false,_=>some (.many (dR ags) [d] ios fun is k=>fH [] ags is fun ds=>ao (S.f ds) fun rs us=>k (.tup rs::outs us ios))
    | _,_,_=>none
  | _,_,_=>none
where
 @[reducible] outs (us:List D) (ios:List Nat):List D:=go us 0 ios
 @[reducible] go (us:List D):Nat→List Nat→List D
  | _,[]=>[]
  | j,_::l=>nth us j::go us (Kf j) l
@[reducible] def ve {α:Type}:Nat→List α→List α
 | 0,_=>[]
 | _+1,[]=>[]
 | n+1,a::l=>a::ve n l
@[reducible] def jy:List Kd→Bool
 | []=>true
 | .dat lv::l=>match JI lv 2 with
  | true=>jy l
  | false=>false
 | _=>false
@[reducible] def zM (c:Cx) (dst:Option Nat) (t f:Nat) (S:FS) (xs:List Operand):Option Ac :=
 match dst,an c.K t,S.rm with
 | some d,.dat lt,[.dat lr]=>match gM c.K xs (ve (iD xs) S.pm),an c.K d with
  | some ags,.dat l=>match JN lr l,JN lt 2,gY (ve (iD xs) S.pm),jy (mC (iD xs) S.pm),dm ags,eK ags with
   | true,true,true,true,[],[]=>some (.many (t::dR ags) [d] [] fun is k=>match is with
    | cl::is=>(Hs f (iD (mC (iD xs) S.pm)) cl).bind fun caps=>fH [] ags is fun ds=>ao (S.f (ds++caps)) fun rs _=>k [nth rs 0]
    | []=>none)
   | _,_,_,_,_,_=>none
  | _,_=>none
 | _,_,_=>none
@[reducible] def qP (c:Cx) (t:TI):List (Nat × Operand)→Option (List (Nat × Nat))
 | []=>some []
 | (i,_)::ps=>match rh c t i,qP c t ps with
  | some (off,ti),some l=>some ((off,ti.n)::l)
  | _,_=>none
@[reducible] def ub (z:Nat):List (Nat × Operand)→List (Nat × Nat)
 | []=>[]
 | (i,_)::ps=>(i*z,z)::ub z ps
@[reducible] def uC (f:D→D→Option D):D→List D→Option D
 | x,[]=>some x
 | x,y::ys=>(f x y).bind fun z=>uC f z ys
@[reducible] def vd (f:D→D→Option D):List D→Option D
 | x::y::xs=>uC f x (y::xs)
 | _=>none
@[reducible] def Hm (c:Cx) (i:TI):Bool :=
 match jB i with
 | true=>match cR c.T i.elem with
  | some e=>match e.ik with
   | some .u8=>true
   | _=>false
  | none=>false
 | false=>false
@[reducible] def GN (c:Cx) (dst:Option Nat) (si di:TI) (x:Operand):Option Ac :=
 match di.str,si.str,si.ez with
 | true,false,1=>match dst,ka c.K x with
  | some d,some (rd,_,_)=>match an c.K d,Hm c si with
   | .dat _,true=>some (.one rd d fun is=>match rd with
    | []=>none
    | [_]=>wC (nth is 0)
    | _=>(aa (nth is 0) (nth is 1)).bind wC)
   | _,_=>none
  | _,_=>none
 | _,_,_=>bD c dst [x] 0 (fg (kz di.ik (match di.str with
  | true=>si.str
  | false=>false)))
@[reducible] def Gi (c:Cx) (dst:Option Nat) (t:TI) (x i:Operand):Option Ac :=
 match t.str with
 | true=>bD c dst [x,i] 0 (tX qY)
 | false=>match t.alen with
  | 0=>none
  | n=>ek c t.elem fun e=>bD c dst [x,i] (dA c.K x) (tX (ixA e.agg n t.ez))
@[reducible] def CO (c:Cx) (dst:Option Nat) (q:Call):Option Ac :=
 match q.callee,q.args.toList,q.argTypes.toList with
 | .builtin .len,[x],[t]=>ek c t fun i=>match jB i,i.str with
  | true,false=>CY c dst false x
  | false,true=>CY c dst true x
  | _,_=>none
 | .builtin .append,[s,x],[t,u]=>match JI t u with
  | true=>ek c t fun i=>ek c i.elem fun _=>match jB i with
   | true=>Fr c dst i s x
   | false=>none
  | false=>none
 | .builtin .min,xs,_=>bD c dst xs 0 (vd CM)
 | .builtin .max,xs,_=>bD c dst xs 0 (vd Dl)
 | .value (.func f),xs,_=>match cR c.S f with
  | some S=>qc c dst S xs
  | none=>none
 | .value (.tmp t),xs,_=>match cR c.C t with
  | some f=>match cR c.S f with
   | some S=>zM c dst t f S xs
   | none=>none
  | none=>none
 | _,_,_=>none
@[reducible] def GL (c:Cx) (dst:Option Nat) (i:TI) (parts:List (Nat × Operand)):Option Ac :=
 let xs:=kT (fun p=>p.2) parts
 match i.alen,i.agg with
 | 0,true=>match qP c i parts with
  | some ps=>bD c dst xs (jt c.K xs) (kV ps i.zero)
  | none=>none
 | 0,false=>none
 | _,_=>bD c dst xs (jt c.K xs) (kV (ub i.ez parts) i.zero)
@[reducible] def GC (c:Cx) (dst:Option Nat) (x:Operand):Option Ac :=
 match x with
 | .tmp t=>match an c.K t with
  | .box _ _ _=>match dst with
   | none=>none
   | some d=>match an c.K d with
    | .ref r=>match JI r t with
     | true=>some (.one [t] d fun is=>(fg fun x=>aa x (.ref 0 0)) is)
     | false=>none
    | _=>none
  | .ref r=>match dst with
   | none=>none
   | some d=>match an c.K d with
    | .ref r'=>match JI r r' with
     | true=>some (.one [t] d fun is=>(fg fun x=>aa x x) is)
     | false=>none
    | _=>none
  | _=>bD c dst [x] (dA c.K x) (fg EJ)
 | x=>bD c dst [x] (dA c.K x) (fg EJ)
@[reducible] def DS:Operand→Bool
 | .const .nilIface=>true
 | _=>false
@[reducible] def FL:Operand→Bool
 | .const (.slice none 0 0)=>true
 | _=>false
@[reducible] def cj (c:Cx) (o:Oper):Option Ac :=
 match o.op with
 | .move x=>yZ c o.dst x o.type
 | .assign x=>yZ c o.dst x o.type
 | .pick q a b=>bD c o.dst [q,a,b] (DR (dA c.K a) (dA c.K b)) (Gk aR)
 | .alloc t=>ek c t fun i=>Gq c o.dst i
 | .box t x=>ek c t fun i=>Hb c o.dst i x
 | .build t parts=>ek c t fun i=>GL c o.dst i parts.toList
 | .buildSlice t n parts=>ek c t fun i=>ek c i.elem fun _=>match jB i with
  | true=>Gl c o.dst i n parts.toList
  | false=>none
 | .load t p=>ek c t fun i=>Gs c o.dst i p
 | .store t p x=>match o.dst with
  | none=>ek c t fun i=>Eu c i p x
  | some _=>none
 | .nilCheck x=>GC c o.dst x
 | .binOp op t x y _=>ek c t fun i=>match i.ifc with
  | true=>bD c o.dst [x,y] 0 (tX (Ig (DS y) op))
  | false=>match jB i,FL y with
   | true,true=>bD c o.dst [x,y] 0 (tX fun x _=>Ii op x)
   | _,_=>bD c o.dst [x,y] 0 (tX (bin op i.bl i.eq))
 | .unOp op _ x=>bD c o.dst [x] 0 (fg (un op))
 | .convert src dt x=>ek c src fun si=>ek c dt fun di=>GN c o.dst si di x
 | .makeFunc (.func f) first cap=>match first.toList,cap.toList with
  | [],[]=>bD c o.dst [] 0 (fun _=>some (.clo f []))
  | [],x::xs=>bD c o.dst (x::xs) (jt c.K (x::xs)) (Jj f)
  | _,_=>none
 | .makeSlice t n m=>ek c t fun i=>ek c i.elem fun e=>match jB i with
  | true=>GM c o.dst i e n m
  | false=>none
 | .slice t x lo hi none=>ek c t fun i=>match jB i,i.str with
  | true,false=>AJ c o.dst i x lo hi
  | false,true=>AJ c o.dst i x lo hi
  | _,_=>none
 | .fieldAddr t x f=>ek c t fun i=>GJ c o.dst i f x
 | .field t x f=>ek c t fun i=>match rh c i f with
  | some (off,ti)=>bD c o.dst [x] (dA c.K x) (fg (bF ti.agg ti.n off))
  | none=>none
 | .indexAddr t x i=>ek c t fun ti=>Hh c o.dst ti x i
 | .index t x i=>ek c t fun ti=>Gi c o.dst ti x i
 | .extract x i=>Hi c o.dst x i
 | .call q=>CO c o.dst q
 | _=>none
@[reducible] def Hy:Ac→List Nat
 | .one rd _ _=>rd
 | .many rd _ _ _=>rd
@[reducible] def vE (ops:List Oper) (j:Nat):Option Nat :=
 match Au ops j with
 | some o=>o.dst
 | none=>none
@[reducible] def rG:Kd→D
 | .dat _=>.tup []
 | _=>.bad
@[reducible] def AD (K:List Kd) (δ:List D) (dst:Option Nat):List Nat→(List D→Option Out)→Option Out
 | [],k=>k []
 | s::ss,k=>match dst with
  | some d=>match kY s (d::eh d K 0) with
   | true=>AD K δ dst ss fun l=>k (rG (an K s)::l)
   | false=>eY δ s fun a=>AD K δ dst ss fun l=>k (a::l)
  | none=>eY δ s fun a=>AD K δ dst ss fun l=>k (a::l)
@[reducible] def fit (l:List D):Nat→List Nat→List D
 | _,[]=>[]
 | j,_::ss=>nth l j::fit l (Kf j) ss
@[reducible] def cK (c:Cx) (ops:List Oper) (o:Oper) (δ:List D) (k:List D→Option Out):Option Out :=
 match cj c o with
 | none=>none
 | some A=>match o.guard with
  | none=>match A with
   | .one rd d h=>mI δ rd fun is=>(h is).bind fun z=>dH δ (d::eh d c.K 0) [z] k
   | .many rd hw cw fn=>mI δ rd fun is=>fn is fun outs=>dH δ (app hw (app cw (br c.K hw))) outs k
  | some (j,pol)=>match vE ops j with
   | none=>none
   | some g=>eY δ g fun gv=>match A with
    | .one rd d h=>mI δ rd fun is=>(ae (rG (an c.K d)) gv pol (h is)).bind fun z=>dH δ (d::eh d c.K 0) [z] k
    | .many rd hw cw fn=>mI δ rd fun is=>AD c.K δ o.dst (app hw cw) fun alt =>
     dF gv pol (fn is fun outs=>some (.nrm (fit outs 0 (app hw cw)))) alt fun outs =>
      dH δ (app hw (app cw (br c.K hw))) (fit outs 0 (app hw cw)) k
@[reducible] def iE (c:Cx) (ops:List Oper):List Oper→List D→(List D→Option Out)→Option Out
 | [],δ,k=>k δ
 | o::os,δ,k=>cK c ops o δ fun δ'=>iE c ops os δ' k
@[reducible] def vL:Nat→List D
 | 0=>[]
 | n+1=>.bad::vL n
@[reducible] def ny:Nat→List D→List D
 | 0,_=>[]
 | n+1,[]=>.bad::ny n []
 | n+1,a::l=>a::ny n l
@[reducible] def gQ (n:Nat) (hl:List Nat) (s:List D) (k:List D→Option Out):Option Out :=
 dH (vL n) hl (fit s 0 hl) k
def iter (body:List D→Option Out):Nat→List D→Option Out
 | 0,_=>none
 | n+1,s=>match body s with
  | some (.nrm s')=>iter body n s'
  | r=>r
open Classical in
def bq (body:List D→Option Out) (s:List D):Option Out :=
 if h:∃n,(iter body n s).isSome=true then iter body (Classical.choose h) s else none
@[reducible] def cq (hl xl:List Nat) (o:Out):Option Out :=
 match o with
 | .nrm δ=>mI δ hl fun l=>some (.nrm l)
 | .ext i δ=>mI δ xl fun l=>some (.ext i l)
 | .ret a b=>some (.ret a b)
@[reducible] def kM (c:Cx) (δ:List D):List ResultVar→(List D→Option Out)→Option Out
 | [],k=>k []
 | .tmp t::l,k=>eY δ t fun a=>kM c δ l fun as'=>k (a::as')
 | .cell a t::l,k=>match cR c.T t with
  | some i=>eY δ a fun b=>(bF i.agg i.n 0 b).bind fun y=>kM c δ l fun as'=>k (y::as')
  | none=>none
@[reducible] def usK:List D→Option Out→Option Out
 | [],o=>o
 | u::us,o=>(aa u u).bind fun _=>usK us o
@[reducible] def opC (δ:List D) (x:Operand) (k:D→Option Out):Option Out :=
 match x with
 | .tmp t=>eY δ t k
 | .const c=>k (qq c)
 | .func f=>k (.clo f [])
 | .global _=>none
@[reducible] def Gu (o:Out) (f:List D→Option Out) (k:Out→Option Out):Option Out :=
 match o with
 | .nrm δ=>f δ
 | .ext i δ=>k (.ext i δ)
 | .ret a b=>k (.ret a b)
@[reducible] def Aq (id:Nat) (o:Out) (k:Out→Option Out):Option Out :=
 match o with
 | .nrm δ=>k (.nrm δ)
 | .ext i δ=>match JI i id with
  | true=>k (.nrm δ)
  | false=>k (.ext i δ)
 | .ret a b=>k (.ret a b)
def dw (o:Out) (x:Nat→List D→Option Out) (r:List D→List D→Option Out):Option Out :=
 match o with
 | .nrm _=>none
 | .ext i s=>x i s
 | .ret a b=>r a b
@[reducible] def den (c:Cx):Nat→Code→List D→(Out→Option Out)→Option Out
 | _,.skip,δ,k=>k (.nrm δ)
 | _,.region _ ops _,δ,k=>iE c ops.toList ops.toList δ fun δ'=>k (.nrm δ')
 | bid,.seq a b,δ,k=>den c bid a δ fun o=>Gu o (fun δ'=>den c bid b δ' k) k
 | bid,.cond x t e,δ,k=>opC δ x fun q=>ifD q (den c bid t δ k) (den c bid e δ k)
 | _,.block id b,δ,k=>den c id b δ fun o=>Aq id o k
 | bid,.loop b,δ,k=>match cR c.H bid with
  | none=>none
  | some (hl,xl) =>
   mI δ hl fun s=>(bq (fun s=>gQ (iD c.K) hl s fun δ=>den c bid b δ (cq hl xl)) s).bind fun o =>
    dw o (fun i s=>gQ (iD c.K) xl s fun δ=>k (.ext i δ)) (fun a b=>k (.ret a b))
 | _,.exit id,δ,k=>k (.ext id δ)
 | _,.ret,δ,k=>kM c δ c.res fun rs=>mI δ c.ios fun us=>usK us (k (.ret rs us))
 | _,_,_,_=>none
@[reducible] def bW (c:Cx) (fn:Func) (ds:List D):Option Out :=
 match fn.body with
 | none=>none
 | some b=>den c 0 b (ny fn.ntmps ds) fun o=>match o with
  | .nrm δ=>kM c δ c.res fun rs=>mI δ c.ios fun us=>usK us (some (.ret rs us))
  | .ext _ _=>none
  | .ret rs us=>some (.ret rs us)
open Go.RowKit
set_option maxRecDepth 100000
def cE (w:World) (b o:Nat) (us:List Value):Prop:=∀i u,us[i]?=some u→w.cell? ⟨b,o+i,none⟩=some u
mutual
def RepC (w:World) (F:Nat→Prop):D→List Value→Prop
 | .v x,vs=>vs=[x]∧flat x=true
 | .agg l,vs=>bs w F l vs∧l.all D.single=true
 | .arr z l,vs=>∃A c us,vs=[.slice A l.length c]∧l.length≤c∧bs w F l us∧(∀d∈l,d.width=z) ∧
   (l≠[]→∃b o,A=some ⟨b,o,none⟩∧F b∧cE w b o us)
 | .ptr l,vs=>∃b o us,vs=[.pointer (some ⟨b,o,none⟩)]∧bs w F l us∧l.all D.single=true∧F b∧cE w b o us
 | .clo f l,vs=>∃us:List Value,vs=[.func (.func f) #[] us.toArray]∧bs w F l us
 | .ifc,vs=>∃t x,vs=[.iface t x]
 | .raw x,vs=>vs=[x]∧∃A n c,x = .slice A n c
 | .tup _,_=>False
 | .ref _ _,_=>False
 | .bad,_=>False
def bs (w:World) (F:Nat→Prop):List D→List Value→Prop
 | [],vs=>vs=[]
 | d::ds,vs=>∃v1 v2,vs=v1++v2∧RepC w F d v1∧bs w F ds v2
end
def aT (w:World) (F:Nat→Prop) (d:D) (y:Value):Prop :=
 match d with
 | .agg l=>∃vs:List Value,y = .agg vs.toArray∧RepC w F (.agg l) vs
 | .tup l=>l=[]∧y = .tuple #[]
 | d=>RepC w F d [y]
theorem all_append {α:Type} (p:α→Bool) (a b:List α):(a++b).all p=(a.all p&&b.all p):=by simp
mutual
theorem RepC_mono {w w':World} {F F':Nat→Prop} (hF:∀b,F b→F' b) (hw:∀b,F b→w'.heap[b]?=w.heap[b]?) :
  ∀(d:D) (vs:List Value),RepC w F d vs→RepC w' F' d vs
 | .v _,_,h=>by simpa only [RepC] using h
 | .agg l,vs,h=>by
  simp only [RepC] at h ⊢;exact⟨aX hF hw l vs h.1,h.2⟩
 | .arr z l,vs,h=>by
  simp only [RepC] at h ⊢;obtain⟨A,c,us,h1,h2,h3,h4,h5⟩:=h;refine⟨A,c,us,h1,h2,aX hF hw l us h3,h4,fun hl=>?_⟩
  obtain⟨b,o,e,hb,hc⟩:=h5 hl;exact⟨b,o,e,hF b hb,fun i u hu=>(KB (w:=w) (hw b hb)).trans (hc i u hu)⟩
 | .ptr l,vs,h=>by
  simp only [RepC] at h ⊢;obtain⟨b,o,us,h1,h2,h3,h4,h5⟩:=h;exact⟨b,o,us,h1,aX hF hw l us h2,h3,hF b h4,fun i u hu=>(KB (w:=w) (hw b h4)).trans (h5 i u hu)⟩
 | .clo f l,vs,h=>by
  simp only [RepC] at h ⊢;obtain⟨us,h1,h2⟩:=h;exact⟨us,h1,aX hF hw l us h2⟩
 | .ifc,_,h=>by simpa only [RepC] using h
 | .raw _,_,h=>by simpa only [RepC] using h
 | .tup _,_,h=>by simp only [RepC] at h
 | .ref _ _,_,h=>by simp only [RepC] at h
 | .bad,_,h=>by simp only [RepC] at h
theorem aX {w w':World} {F F':Nat→Prop} (hF:∀b,F b→F' b) (hw:∀b,F b→w'.heap[b]?=w.heap[b]?) :
  ∀(l:List D) (vs:List Value),bs w F l vs→bs w' F' l vs
 | [],vs,h=>by simpa only [bs] using h
 | d::ds,vs,h=>by
  simp only [bs] at h ⊢;obtain⟨v1,v2,h1,h2,h3⟩:=h;exact⟨v1,v2,h1,RepC_mono hF hw d v1 h2,aX hF hw ds v2 h3⟩
end
theorem aQ {w w':World} {F F':Nat→Prop} (hF:∀b,F b→F' b) (hw:∀b,F b→w'.heap[b]?=w.heap[b]?) {d:D} {y:Value} (h:aT w F d y):aT w' F' d y:=by
 cases d<;>simp only [aT] at h ⊢<;>first
  | exact h
  | exact RepC_mono hF hw _ _ h
  | (obtain⟨vs,h1,h2⟩:=h;exact⟨vs,h1,RepC_mono hF hw _ _ h2⟩)
theorem je {w:World} {F:Nat→Prop}:∀(d:D) (vs:List Value),d.single=true→RepC w F d vs→∃y,vs=[y]∧y.cells=#[y]∧y.oneCell'=true:=by
 intro d vs hs h;cases d<;>simp only [RepC] at h<;>simp only [D.single] at hs
 case v x =>
  obtain⟨rfl,hf⟩:=h;cases x<;>simp_all [flat,Kv,Value.oneCell']
 case arr z l=>obtain⟨A,c,us,rfl,_⟩:=h;exact⟨_,rfl,rfl,rfl⟩
 case ptr l=>obtain⟨b,o,us,rfl,_⟩:=h;exact⟨_,rfl,rfl,rfl⟩
 case clo f l=>obtain⟨us,rfl,_⟩:=h;exact⟨_,rfl,rfl,rfl⟩
 case ifc=>obtain⟨t,x,rfl⟩:=h;exact⟨_,rfl,rfl,rfl⟩
 case raw x=>obtain⟨rfl,A,n,c,rfl⟩:=h;exact⟨_,rfl,rfl,rfl⟩
 all_goals exact absurd hs (by simp)
theorem dE {d:D} (h:d.single=true):d.width=1∧d.cells=[d]:=by cases d<;>simp_all [D.single,D.width,D.cells]
theorem aw {w:World} {F:Nat→Prop} {d:D} {ds:List D} {vs:List Value}:bs w F (d::ds) vs↔∃v1 v2,vs=v1++v2∧RepC w F d v1∧bs w F ds v2:=by rw [bs]
theorem aJ {w:World} {F:Nat→Prop} {vs:List Value}:bs w F [] vs↔vs=[]:=by rw [bs]
theorem cC {w:World} {F:Nat→Prop}:∀(l m:List D) (vs:List Value),bs w F (l++m) vs↔∃v1 v2,vs=v1++v2∧bs w F l v1∧bs w F m v2
 | [],m,vs=>by
  rw [Ks];exact⟨fun h=>⟨[],vs,rfl,aJ.2 rfl,h⟩,fun⟨v1,v2,e,h1,h2⟩=>by rw [aJ.1 h1] at e;rw [e];exact h2⟩
 | d::l,m,vs=>by
  rw [KJ,aw];constructor
  ·rintro⟨v1,v2,rfl,h1,h2⟩
   obtain⟨u1,u2,rfl,h3,h4⟩:=(cC l m v2).1 h2;exact⟨v1++u1,u2,by simp,aw.2 ⟨v1,u1,rfl,h1,h3⟩,h4⟩
  ·rintro⟨v1,v2,rfl,h1,h2⟩
   obtain⟨u1,u2,rfl,h3,h4⟩:=aw.1 h1;exact⟨u1,u2++v2,by simp,h3,(cC l m _).2 ⟨u2,v2,rfl,h4,h2⟩⟩
theorem ce {w:World} {F:Nat→Prop}:∀(l:List D) (vs:List Value),l.all D.single=true→bs w F l vs→vs.length=l.length∧(∀u∈vs,u.oneCell'=true∧u.cells=#[u])∧∀(i:Nat) (d:D),l[i]?=some d→∃u,vs[i]?=some u∧RepC w F d [u]
 | [],vs,_,h=>by rw [aJ] at h;subst h;simp
 | d::l,vs,hs,h=>by
  obtain⟨v1,v2,rfl,h1,h2⟩:=aw.1 h;simp only [Kj,JK] at hs;obtain⟨y,rfl,hy,hy'⟩:=je d v1 hs.1 h1;obtain⟨g1,g2,g3⟩:=ce l v2 hs.2 h2;refine⟨by simp [g1],?_,?_⟩
  ·intro u hu
   rcases Kt.1 hu with hu | hu
   ·simp at hu;subst hu;exact⟨hy',hy⟩
   ·exact g2 u hu
  ·intro i e he
   cases i with
   | zero=>simp at he;subst he;exact⟨y,rfl,h1⟩
   | succ i=>simpa using g3 i e (by simpa using he)
theorem jR {w:World} {F:Nat→Prop} {d:D} {vs:List Value} (h:RepC w F d vs):(∃l,d = .agg l)∨d.single=true:=by
 cases d
 case agg l=>exact .inl ⟨l,rfl⟩
 case tup l=>simp only [RepC] at h
 case ref i f=>simp only [RepC] at h
 case bad=>simp only [RepC] at h
 all_goals exact .inr rfl
theorem ma {w:World} {F:Nat→Prop} {d:D} {vs:List Value} (h:RepC w F d vs):vs.length=d.width:=by
 rcases jR h with ⟨l,rfl⟩ | hs
 ·simp only [RepC] at h
  simpa [D.width,D.cells] using (ce l vs h.2 h.1).1
 ·obtain⟨y,rfl,_⟩:=je _ _ hs h
  rw [(dE hs).1];rfl
theorem cP {w:World} {F:Nat→Prop} {z:Nat}:∀(l:List D) (vs:List Value),bs w F l vs→(∀d∈l,d.width=z)→vs.length=l.length*z
 | [],vs,h,_=>by rw [aJ] at h;subst h;simp
 | d::l,vs,h,hw=>by
  obtain⟨v1,v2,rfl,h1,h2⟩:=aw.1 h;rw [List.length_append,ma h1,cP l v2 h2 (fun d hd=>hw d (by simp [hd])),hw d (by simp)];simp [Nat.succ_mul,Nat.add_comm]
theorem nN {w:World} {F:Nat→Prop} {z:Nat} (l:List D) (vs:List Value) (h:bs w F l vs) (hw:∀d∈l,d.width=z) (i:Nat) (d:D) (hd:l[i]?=some d) :
  ∃p m q,vs=p++m++q∧p.length=i*z∧m.length=z∧RepC w F d m∧bs w F (l.take i) p∧bs w F (l.drop (i+1)) q:=by
 have hi:i<l.length:=(JT.1 hd).1;have e:l=l.take i++(d::l.drop (i+1)):=by
  have h1:l[i]=d:=(JT.1 hd).2
  conv=>lhs;rw [←KA i l,List.drop_eq_getElem_cons hi,h1]
 rw [e] at h;obtain⟨p,r,rfl,hp,hr⟩:=(cC _ _ _).1 h;obtain⟨m,q,rfl,hm,hq⟩:=aw.1 hr;refine⟨p,m,q,by simp,?_,?_,hm,hp,hq⟩
 ·rw [cP _ _ hp (fun d hd=>hw d (JV hd)),JZ]
  rw [KL (by omega)]
 ·rw [ma hm];exact hw d (List.mem_of_getElem? hd)
theorem iz {w:World} {F:Nat→Prop} {z:Nat} (l:List D) (vs:List Value) (h:bs w F l vs) (hw:∀d∈l,d.width=z) (i:Nat):bs w F (l.take i) (vs.take (i*z))∧bs w F (l.drop i) (vs.drop (i*z)):=by
 by_cases hi:i≤l.length
 ·rw [←KA i l] at h
  obtain⟨p,q,rfl,hp,hq⟩:=(cC _ _ _).1 h;have hl:p.length=i*z:=by
   rw [cP _ _ hp (fun d hd=>hw d (JV hd)),JZ,KL hi]
  exact⟨by rw [←hl];simpa using hp,by rw [←hl];simpa using hq⟩
 ·have hl:=cP l vs h hw
  have h2:vs.length≤i*z:=by rw [hl];exact Nat.mul_le_mul_right _ (by omega)
  rw [Kw h2,Kh h2,Kw (by omega),Kh (by omega)];exact⟨h,aJ.2 rfl⟩
theorem jb {w:World} {F:Nat→Prop} (l:List D) (vs:List Value) (hs:l.all D.single=true) (h:bs w F l vs) (i:Nat):bs w F (l.take i) (vs.take i)∧bs w F (l.drop i) (vs.drop i):=by
 have:=iz (z:=1) l vs h (fun d hd=>(dE (Ka.1 hs d hd)).1) i;simpa using this
theorem Av {α:Type} {p:α→Bool} {l:List α} (h:l.all p=true) (i:Nat):(l.take i).all p=true:=Ka.2 fun x hx=>Ka.1 h x (JV hx)
theorem lg {α:Type} {p:α→Bool} {l:List α} (h:l.all p=true) (i:Nat):(l.drop i).all p=true:=Ka.2 fun x hx=>Ka.1 h x (Kk hx)
theorem cE.take {w:World} {b o:Nat} {us:List Value} (h:cE w b o us) (n:Nat):cE w b o (us.take n):=fun i u hu=>h i u (by
 rw [List.getElem?_take] at hu;split at hu
 ·exact hu
 ·cases hu)
theorem cE.drop {w:World} {b o:Nat} {us:List Value} (h:cE w b o us) (n:Nat):cE w b (o+n) (us.drop n):=fun i u hu=>by
 rw [KF] at hu;rw [KD];exact h _ u hu
theorem cE.part {w:World} {b o:Nat} {p m q:List Value} (h:cE w b o (p++m++q)):cE w b (o+p.length) m:=fun i u hu=>by
 rw [KD];refine h _ u ?_
 have hi:i<m.length:=by
  rcases KG i m.length with hi | hi
  ·exact hi
  ·rw [List.getElem?_eq_none hi] at hu;cases hu
 rw [List.append_assoc,List.getElem?_append_right (by omega),Nat.add_sub_cancel_left,List.getElem?_append_left hi];exact hu
theorem gB {w:World} {F:Nat→Prop} {d:D} {y:Value} (hs:d.single=true):aT w F d y↔RepC w F d [y]:=by
 cases d<;>simp_all [D.single,aT]
theorem CQ {w:World} {F:Nat→Prop} {d:D} {y:Value} (h:aT w F d y) (hn:∀l,d ≠ .tup l):(∃l,d = .agg l)∨d.single=true:=by
 cases d
 case agg l=>exact .inl ⟨l,rfl⟩
 case tup l=>exact absurd rfl (hn l)
 all_goals exact(jR (vs:=[y]) h).elim (fun⟨_,e⟩=>by cases e) .inr
theorem lR {d:D} (h:d.cells.all D.single=true) (l:List D):d ≠ .tup l:=by
 rintro rfl;simp [D.cells,D.single] at h
theorem dK {w:World} {F:Nat→Prop} {d:D} {y:Value} (h:aT w F d y) (hn:∀l,d ≠ .tup l):RepC w F d y.cells.toList∧d.cells.all D.single=true∧bs w F d.cells y.cells.toList:=by
 rcases CQ h hn with ⟨l,rfl⟩ | hs
 ·obtain⟨vs,rfl,hr⟩:=h
  have hr':=hr;simp only [RepC] at hr';exact⟨by simpa [Kv] using hr,hr'.2,by simpa [Kv,D.cells] using hr'.1⟩
 ·rw [gB hs] at h
  obtain⟨u,hu,hc,_⟩:=je _ _ hs h;simp at hu;subst hu;rw [(dE hs).2,hc];exact⟨h,by simp [hs],aw.2 ⟨_,[],by simp,h,aJ.2 rfl⟩⟩
theorem eT {w:World} {F:Nat→Prop} {x y:Value}:aT w F (.v x) y↔y=x∧flat x=true:=by simp [aT,RepC]
theorem DU {w:World} {F:Nat→Prop} {y:Value}:¬aT w F .bad y:=by simp [aT,RepC]
theorem Gz {w:World} {F:Nat→Prop} {d:D} {y:Value} (h:aT w F d y):d ≠ .bad:=fun e=>DU (e ▸ h)
theorem qJ {w w':World} {F F':Nat→Prop}:∀(l:List D) (vs:List Value),(l.all fun | .v _=>true | _=>false)=true→bs w F l vs→bs w' F' l vs
 | [],vs,_,h=>by simpa only [bs] using h
 | d::l,vs,hv,h=>by
  obtain⟨v1,v2,rfl,h1,h2⟩:=aw.1 h;simp only [Kj,JK] at hv;refine aw.2 ⟨v1,v2,rfl,?_,qJ l v2 hv.2 h2⟩
  cases d<;>simp at hv;simpa only [RepC] using h1
theorem lL {w w':World} {F F':Nat→Prop} {d:D} {y:Value} (hv:d.isV=true) (h:aT w F d y):aT w' F' d y:=by
 cases d
 case v x=>exact eT.2 (eT.1 h)
 case agg l =>
  obtain⟨vs,rfl,hr⟩:=h;refine⟨vs,rfl,?_⟩
  simp only [RepC] at hr ⊢;exact⟨qJ l vs hv hr.1,hr.2⟩
 all_goals exact absurd hv (by simp [D.isV])
set_option maxRecDepth 100000
def eV:List D→List Value→Bool
 | [],[]=>true
 | .v (.int k a)::l,.int k' b::m=>k==k'&&a==b&&eV l m
 | .v (.bool a)::l,.bool b::m=>a==b&&eV l m
 | .v (.string a)::l,.string b::m=>a.data.toList==b.data.toList&&eV l m
 | .v .nilFunc::l,.nilFunc::m=>eV l m
 | .v .nilIface::l,.nilIface::m=>eV l m
 | .v (.pointer none)::l,.pointer none::m=>eV l m
 | .arr _ []::l,.slice none 0 0::m=>eV l m
 | _,_=>false
def wn (P:Program):List Field→List (Nat × Nat)→Bool
 | [],[]=>true
 | f::fs,(o,t)::l=>f.offset==o&&f.type==t&&(match P.info? t with
  | some x=>x.size != 0
  | none=>false)&&wn P fs l
 | _,_=>false
def GF (P:Program) (t c:Nat):Bool :=
 match P.underlying t with
 | some (.int _)=>c==1
 | some .bool=>c==2
 | some .string=>c==3
 | _=>false
def Bg (P:Program):Nat→List Field→List Nat→Bool
 | _,[],[]=>true
 | n,f::fs,c::cs=>f.name != "_"&&f.offset==n&&GF P f.type c&&Bg P (n+1) fs cs
 | _,_,_=>false
def rg:Value→Bool
 | .agg _=>true
 | _=>false
def Cm (P:Program) (t:Nat) (i:TI):Bool :=
 match P.info? t,P.underlying t with
 | some x,some u =>
  (!i.ifc||(match u with
   | .interface _=>true
   | _=>false))&&x.size==i.n&&(match x.zero with
   | some z=>eV i.zero z.cells.toList&&rg z==i.agg&&i.zero.length==i.n
   | none=>false) &&
  (match u with
   | .struct fs=>i.agg&&i.alen==0&&i.ez==0&&i.ik==none && !i.str && !i.bl&&wn P fs.toList i.fs &&
     (i.eq==[]||(Bg P 0 fs.toList i.eq&&fs.size==i.n && !P.eqGuardType P.depth t && !P.stoodInHeld t))
   | .array n e=>i.agg&&i.alen==n&&n != 0&&i.elem==e&&i.fs==[]&&i.ik==none && !i.str && !i.bl&&i.eq==[]&&(match P.info? e with
    | some y=>y.size==i.ez&&y.size != 0
    | none=>false)&&i.n==n*i.ez
   | .slice e=>!i.agg&&i.alen==0&&i.elem==e&&i.fs==[]&&i.ik==none && !i.str && !i.bl&&i.eq==[]&&(match P.info? e with
    | some y=>y.size==i.ez&&y.size != 0&&y.bytes==i.eb&&y.bytes != 0
    | none=>false)
   | .int k=>!i.agg&&i.alen==0&&i.ez==0&&i.fs==[]&&i.ik==some k && !i.str && !i.bl&&i.eq==[]
   | .string=>!i.agg&&i.alen==0&&i.ez==0&&i.fs==[]&&i.ik==none&&i.str && !i.bl&&i.eq==[]
   | .bool=>!i.agg&&i.alen==0&&i.ez==0&&i.fs==[]&&i.ik==none && !i.str&&i.bl&&i.eq==[]
   | _=>!i.agg&&i.alen==0&&i.ez==0&&i.fs==[]&&i.ik==none && !i.str && !i.bl&&i.eq==[])
 | _,_=>false
def okT (P:Program):List (Nat × TI)→Bool
 | []=>true
 | (t,i)::l=>Cm P t i&&okT P l
theorem Ap {α:Type}:∀(l:List (Nat × α)) (n:Nat) (a:α),cR l n=some a→(n,a)∈l
 | [],_,_,h=>by simp [cR] at h
 | (k,b)::l,n,a,h=>by
  simp only [cR] at h;split at h
  ·rename_i hb
   have:k=n:=JX hb;subst this;cases h;simp
  ·exact KC _ (Ap l n a h)
theorem EY {P:Program} {T:List (Nat × TI)} (h:okT P T=true) {t:Nat} {i:TI} (hl:cR T t=some i):Cm P t i=true:=by
 have:=Ap T t i hl;clear hl;induction T with
 | nil=>cases this
 | cons p T ih =>
  obtain⟨t',i'⟩:=p;simp only [okT,JK] at h;rcases Kc.1 this with e | e
  ·cases e;exact h.1
  ·exact ih h.2 e
structure TOk (P:Program) (t:Nat) (i:TI):Prop where
 info:∃x z,P.info? t=some x∧x.size=i.n∧x.zero=some z∧eV i.zero z.cells.toList=true∧rg z=i.agg
 zl:i.zero.length=i.n
 und:(P.underlying t).isSome=true
 agg:∀w:World,(isAgg t).run P w = .ok i.agg w
 sl:i.ez≠0→i.alen=0→P.underlying t=some (.slice i.elem)∧i.agg=false∧0<i.ez∧0<i.eb∧∃y,P.info? i.elem=some y∧y.size=i.ez∧y.bytes=i.eb
 ar:i.alen≠0→P.underlying t=some (.array i.alen i.elem)∧i.agg=true∧0<i.ez∧i.n=i.alen*i.ez∧∃y,P.info? i.elem=some y∧y.size=i.ez
 fs:∀(f:Nat) (o ty:Nat),i.fs[f]?=some (o,ty)→∃fs fl,P.underlying t=some (.struct fs)∧fs[f]?=some fl∧fl.offset=o∧fl.type=ty∧i.agg=true∧∃y,P.info? ty=some y∧y.size≠0
 st:i.agg=true→i.alen=0→∃fs,P.underlying t=some (.struct fs)∧wn P fs.toList i.fs=true
 eq:i.eq≠[]→∃fs,P.underlying t=some (.struct fs)∧Bg P 0 fs.toList i.eq=true∧fs.size=i.n∧P.eqGuardType P.depth t=false∧P.stoodInHeld t=false
 ik:∀k,i.ik=some k→P.underlying t=some (.int k)
 str:i.str=true→P.underlying t=some .string∧i.ez=0∧i.alen=0
 bl:i.bl=true→P.underlying t=some .bool
 ifc:i.ifc=true→∃ms,P.underlying t=some (.interface ms)
theorem zD {P:Program}:∀(fs:List Field) (l:List (Nat × Nat)),wn P fs l=true→∀(f o ty:Nat),l[f]?=some (o,ty)→∃fl,fs[f]?=some fl∧fl.offset=o∧fl.type=ty∧∃y,P.info? ty=some y∧y.size≠0
 | [],[],_,f,o,ty,h=>by simp at h
 | g::fs,(o',t')::l,hk,f,o,ty,h=>by
  simp only [wn,JK,beq_iff_eq] at hk;obtain⟨⟨⟨h1,h2⟩,h3⟩,h4⟩:=hk;cases f with
  | zero =>
   simp at h;obtain⟨rfl,rfl⟩:=h;refine⟨g,rfl,h1,h2,?_⟩
   split at h3
   ·rename_i x hx;exact⟨x,hx,by simpa using h3⟩
   ·cases h3
  | succ f=>exact zD fs l h4 f o ty (by simpa using h)
 | [],_::_,hk,_,_,_,_=>by simp [wn] at hk
 | _::_,[],hk,_,_,_,_=>by simp [wn] at hk
def Ef:TypeDesc→Bool
 | .struct _=>true
 | .array _ _=>true
 | _=>false
theorem uw {P:Program} {t:Nat} {i:TI} (h:Cm P t i=true):TOk P t i:=by
 unfold Cm at h;split at h
 case h_2=>cases h
 case h_1 x u hx hu =>
  simp only [JK] at h;obtain⟨⟨⟨hif,hn⟩,hz⟩,hk⟩:=h;have hifc:i.ifc=true→∃ms,P.underlying t=some (.interface ms):=by
   intro e;rw [e] at hif;simp only [Bool.not_true,Bool.false_or] at hif;split at hif
   ·rename_i ms;exact⟨ms,hu⟩
   ·cases hif
  clear hif;have hinfo:∃x z,P.info? t=some x∧x.size=i.n∧x.zero=some z∧eV i.zero z.cells.toList=true∧rg z=i.agg:=by
   split at hz
   ·rename_i z hzz
    simp only [JK,beq_iff_eq] at hz;exact⟨x,z,hx,by simpa using hn,hzz,hz.1.1,hz.1.2⟩
   ·cases hz
  have hzl:i.zero.length=i.n:=by
   split at hz
   ·simp only [JK,beq_iff_eq] at hz
    exact hz.2
   ·cases hz
  have hund:(P.underlying t).isSome=true:=by rw [hu];rfl
  have hagg:∀(w:World) (b:Bool),Ef u=b→(isAgg t).run P w = .ok b w:=by
   intro w b hb;subst hb;simp only [isAgg,JL,run_underlying hu,JJ];cases u<;>rfl
  have mk:∀(b:Bool),Ef u=false→i.agg=false→i.alen=0→i.ez=0→i.fs=[]→i.eq=[] →
    (∀k,i.ik=some k→P.underlying t=some (.int k))→(i.str=true→P.underlying t=some .string)→(i.bl=true→P.underlying t=some .bool)→TOk P t i:=by
   intro _ hb a1 a2 a3 a4 a5 a6 a7 a8;exact⟨hinfo,hzl,hund,fun w=>hagg w _ (hb.trans a1.symm),fun h=>absurd a3 h,fun h=>absurd a2 h,fun f o ty hf=>by(rw [a4] at hf;simp at hf),fun h=>by(rw [a1] at h;cases h),fun h=>absurd a5 h,a6,fun h=>⟨a7 h,a3,a2⟩,a8,hifc⟩
  have other:(!i.agg&&i.alen==0&&i.ez==0&&i.fs==[]&&i.ik==none && !i.str && !i.bl&&i.eq==[])=true →
    (i.agg=false→i.alen=0→i.ez=0→i.fs=[]→i.eq=[]→(∀k,i.ik=some k→P.underlying t=some (.int k))→(i.str=true→P.underlying t=some .string)→(i.bl=true→P.underlying t=some .bool)→TOk P t i)→TOk P t i:=by
   intro hk mk;simp only [JK,JR,beq_iff_eq] at hk;obtain⟨⟨⟨⟨⟨⟨⟨a1,a2⟩,a3⟩,a4⟩,a5⟩,a6⟩,a7⟩,a8⟩:=hk;exact mk a1 a2 a3 a4 a8 (fun k' hk=>by(rw [a5] at hk;cases hk)) (fun h=>by(rw [a6] at h;cases h)) (fun h=>by(rw [a7] at h;cases h))
  clear hz hn
  match u,hu,hk,hagg,mk with
  | .struct fs,hu,hk,hagg,_ =>
   simp only [JK,JR,beq_iff_eq] at hk;obtain⟨⟨⟨⟨⟨⟨⟨a1,a2⟩,a3⟩,a4⟩,a5⟩,a6⟩,a7⟩,a8⟩:=hk;refine⟨hinfo,hzl,hund,fun w=>hagg w _ a1.symm,fun h=>absurd a3 h,fun h=>absurd a2 h,fun f o ty hf=>?_,fun _ _=>⟨fs,hu,a7⟩,fun he=>?_,fun k hk=>by(rw [a4] at hk;cases hk),fun h=>by(rw [a5] at h;cases h),fun h=>by(rw [a6] at h;cases h),hifc⟩
   ·obtain⟨fl,h1,h2,h3,h4⟩:=zD _ _ a7 f o ty hf
    exact⟨fs,fl,hu,by simpa using h1,h2,h3,a1,h4⟩
   ·simp only [Bool.or_eq_true,beq_iff_eq,JK,JR] at a8
    rcases a8 with a8 | a8
    ·exact absurd a8 he
    ·exact⟨fs,hu,a8.1.1.1,a8.1.1.2,a8.1.2,a8.2⟩
  | .array n e,hu,hk,hagg,_ =>
   simp only [JK,JR,beq_iff_eq,bne_iff_ne,ne_eq] at hk;obtain⟨⟨⟨⟨⟨⟨⟨⟨⟨⟨a1,a2⟩,a3⟩,a4⟩,a5⟩,a6⟩,a7⟩,a8⟩,a9⟩,a10⟩,a11⟩:=hk;refine⟨hinfo,hzl,hund,fun w=>hagg w _ a1.symm,fun _ h=>absurd (a2 ▸ h) a3,fun _=>?_,fun f o ty hf=>by(rw [a5] at hf;simp at hf),fun _ h=>absurd (a2 ▸ h) a3,fun h=>absurd a9 h,fun k hk=>by(rw [a6] at hk;cases hk),fun h=>by(rw [a7] at h;cases h),fun h=>by(rw [a8] at h;cases h),hifc⟩
   split at a10
   ·rename_i y hy
    simp only [JK,beq_iff_eq,bne_iff_ne,ne_eq] at a10;refine⟨by rw [hu,a2,a4],a1,by omega,by rw [a2];exact a11,y,by rw [a4];exact hy,a10.1⟩
   ·cases a10
  | .slice e,hu,hk,hagg,_ =>
   simp only [JK,JR,beq_iff_eq] at hk;obtain⟨⟨⟨⟨⟨⟨⟨⟨a1,a2⟩,a3⟩,a4⟩,a5⟩,a6⟩,a7⟩,a8⟩,a9⟩:=hk;refine⟨hinfo,hzl,hund,fun w=>hagg w _ a1.symm,fun _ _=>?_,fun h=>absurd a2 h,fun f o ty hf=>by(rw [a4] at hf;simp at hf),fun h=>by(rw [a1] at h;cases h),fun h=>absurd a8 h,fun k hk=>by(rw [a5] at hk;cases hk),fun h=>by(rw [a6] at h;cases h),fun h=>by(rw [a7] at h;cases h),hifc⟩
   split at a9
   ·rename_i y hy
    simp only [JK,beq_iff_eq,bne_iff_ne,ne_eq] at a9;obtain⟨⟨⟨b1,b2⟩,b3⟩,b4⟩:=a9;exact⟨by rw [hu,a3],a1,by omega,by omega,y,by rw [a3];exact hy,b1,b3⟩
   ·cases a9
  | .int k,hu,hk,_,mk =>
   simp only [JK,JR,beq_iff_eq] at hk;obtain⟨⟨⟨⟨⟨⟨⟨a1,a2⟩,a3⟩,a4⟩,a5⟩,a6⟩,a7⟩,a8⟩:=hk;exact mk true rfl a1 a2 a3 a4 a8 (fun k' hk=>by rw [a5] at hk;cases hk;exact hu) (fun h=>by rw [a6] at h;cases h) (fun h=>by rw [a7] at h;cases h)
  | .string,hu,hk,_,mk =>
   simp only [JK,JR,beq_iff_eq] at hk;obtain⟨⟨⟨⟨⟨⟨⟨a1,a2⟩,a3⟩,a4⟩,a5⟩,a6⟩,a7⟩,a8⟩:=hk;exact mk true rfl a1 a2 a3 a4 a8 (fun k' hk=>by rw [a5] at hk;cases hk) (fun _=>hu) (fun h=>by rw [a7] at h;cases h)
  | .bool,hu,hk,_,mk =>
   simp only [JK,JR,beq_iff_eq] at hk;obtain⟨⟨⟨⟨⟨⟨⟨a1,a2⟩,a3⟩,a4⟩,a5⟩,a6⟩,a7⟩,a8⟩:=hk;exact mk true rfl a1 a2 a3 a4 a8 (fun k' hk=>by rw [a5] at hk;cases hk) (fun h=>by rw [a6] at h;cases h) (fun _=>hu)
  | .invalid,_,hk,_,mk=>exact other hk (mk true rfl)
  | .float _,_,hk,_,mk=>exact other hk (mk true rfl)
  | .complex _,_,hk,_,mk=>exact other hk (mk true rfl)
  | .unsafePointer,_,hk,_,mk=>exact other hk (mk true rfl)
  | .pointer _,_,hk,_,mk=>exact other hk (mk true rfl)
  | .map _ _,_,hk,_,mk=>exact other hk (mk true rfl)
  | .chan _ _,_,hk,_,mk=>exact other hk (mk true rfl)
  | .func _ _ _,_,hk,_,mk=>exact other hk (mk true rfl)
  | .interface _,_,hk,_,mk=>exact other hk (mk true rfl)
  | .tuple _,_,hk,_,mk=>exact other hk (mk true rfl)
  | .named _ _,_,hk,_,mk=>exact other hk (mk true rfl)
theorem TOk.size {P:Program} {t:Nat} {i:TI} (h:TOk P t i) (w:World):(sizeOf t).run P w = .ok i.n w:=by
 obtain⟨x,z,hx,hn,_⟩:=h.info;simp [sizeOf,typeInfo,hx,hn]
theorem cU {P:Program} {e:Nat} {y:TypeInfo} (h:P.info? e=some y) (w:World):(sizeOf e).run P w = .ok y.size w:=by simp [sizeOf,typeInfo,h]
theorem sx {w:World} {F:Nat→Prop} {x:Value} (h:flat x=true):RepC w F (.v x) [x]:=by simp only [RepC];exact⟨trivial,h⟩
theorem uJ {w:World} {F:Nat→Prop} {z:Nat}:RepC w F (.arr z []) [.slice none 0 0]:=by
 simp only [RepC];exact⟨none,0,[],rfl,Kn _,aJ.2 rfl,fun d hd=>(List.not_mem_nil hd).elim,fun h=>absurd rfl h⟩
theorem dp {w:World} {F:Nat→Prop}:∀(l:List D) (vs:List Value),eV l vs=true→bs w F l vs∧l.all D.single=true
 | [],[],_=>⟨aJ.2 rfl,rfl⟩
 | .v (.int k a)::l,.int k' b::m,h=>by
  simp only [eV,JK,beq_iff_eq] at h;obtain⟨⟨rfl,rfl⟩,h⟩:=h;obtain⟨g1,g2⟩:=dp (w:=w) (F:=F) l m h;exact⟨aw.2 ⟨_,_,rfl,sx rfl,g1⟩,by simp [D.single,g2]⟩
 | .v (.bool a)::l,.bool b::m,h=>by
  simp only [eV,JK,beq_iff_eq] at h;obtain⟨rfl,h⟩:=h;obtain⟨g1,g2⟩:=dp (w:=w) (F:=F) l m h;exact⟨aw.2 ⟨_,_,rfl,sx rfl,g1⟩,by simp [D.single,g2]⟩
 | .v (.string a)::l,.string b::m,h=>by
  simp only [eV,JK,beq_iff_eq] at h;obtain⟨h1,h⟩:=h;have e:a=b:=by
   obtain⟨⟨a⟩⟩:=a;obtain⟨⟨b⟩⟩:=b;simpa using h1
  subst e;obtain⟨g1,g2⟩:=dp (w:=w) (F:=F) l m h;exact⟨aw.2 ⟨_,_,rfl,sx rfl,g1⟩,by simp [D.single,g2]⟩
 | .v .nilFunc::l,.nilFunc::m,h=>by
  obtain⟨g1,g2⟩:=dp (w:=w) (F:=F) l m (by simpa [eV] using h);exact⟨aw.2 ⟨_,_,rfl,sx rfl,g1⟩,by simp [D.single,g2]⟩
 | .v .nilIface::l,.nilIface::m,h=>by
  obtain⟨g1,g2⟩:=dp (w:=w) (F:=F) l m (by simpa [eV] using h);exact⟨aw.2 ⟨_,_,rfl,sx rfl,g1⟩,by simp [D.single,g2]⟩
 | .v (.pointer none)::l,.pointer none::m,h=>by
  obtain⟨g1,g2⟩:=dp (w:=w) (F:=F) l m (by simpa [eV] using h);exact⟨aw.2 ⟨_,_,rfl,sx rfl,g1⟩,by simp [D.single,g2]⟩
 | .arr z []::l,.slice none 0 0::m,h=>by
  obtain⟨g1,g2⟩:=dp (w:=w) (F:=F) l m (by simpa [eV] using h);exact⟨aw.2 ⟨_,_,rfl,uJ,g1⟩,by simp [D.single,g2]⟩
theorem Dc {e:TI} (h:e.zero.all D.single=true) {m:List D} (hm:tm e = .tup m):False:=by
 unfold tm at hm;cases hg:e.agg<;>rw [hg] at hm<;>simp only at hm
 ·cases hz:e.zero with
  | nil=>rw [hz] at hm;cases hm
  | cons d l =>
   rw [hz] at h hm;simp only at hm;subst hm;simp [D.single] at h
 ·cases hm
theorem TOk.zero {P:Program} {t:Nat} {i:TI} (h:TOk P t i):∃z,(∀w:World,(zeroValue t).run P w = .ok z w)∧(∀(w:World) (F:Nat→Prop),aT w F (tm i) z∧bs w F i.zero z.cells.toList)∧i.zero.all D.single=true∧z.cells.size=i.zero.length:=by
 obtain⟨x,z,hx,hn,hz,h0,ha⟩:=h.info;obtain⟨_,hs⟩:=dp (w:=default) (F:=fun _=>True) _ _ h0;refine⟨z,fun w=>by simp [zeroValue,typeInfo,hx,hz],fun w F=>?_,hs,?_⟩
 ·obtain⟨g,_⟩:=dp (w:=w) (F:=F) _ _ h0
  refine⟨?_,g⟩
  unfold tm;cases hb:i.agg
  ·cases z<;>first
    | (simp only [rg] at ha;rw [hb] at ha;cases ha)
    | skip
   all_goals
    simp only [Kv] at g;generalize i.zero=l at g hs;cases l with
    | nil=>rw [aJ] at g;cases g
    | cons d l =>
     obtain⟨v1,v2,e,h1,h2⟩:=aw.1 g;simp only [Kj,JK] at hs;obtain⟨y,rfl,_⟩:=je d v1 hs.1 h1;simp at e;rw [gB hs.1,e.1];exact h1
  ·cases z<;>first
    | (simp only [rg] at ha;rw [hb] at ha;cases ha)
    | skip
   exact⟨_,rfl,by simp only [RepC];exact⟨g,hs⟩⟩
 ·obtain⟨g,_⟩:=dp (w:=default) (F:=fun _=>True) _ _ h0
  simpa using (ce _ _ hs g).1
set_option maxRecDepth 100000
def bY (w:World) (F:Nat→Prop) (d:D) (y:Value):Prop:=d = .bad∨aT w F d y
section
variable {P:Program} {w:World} {F G:Nat→Prop}
theorem bY.rep {d:D} {y:Value} (h:bY w F d y) (hd:d ≠ .bad):aT w F d y:=h.resolve_left hd
theorem ba {x y:Value} (h:bY w F (.v x) y):y=x∧flat x=true:=eT.1 (h.rep (by simp))
theorem gx {x:Value} (hx:flat x=true):aT w F (.v x) x:=eT.2 ⟨rfl,hx⟩
theorem sP:∀(fs:List Field) (n:Nat) (c:List Nat) (l m:List D) (us vs xs ys:List Value) (q:Bool),Bg P n fs c=true→pj c l m=some q→xs.length=n→ys.length=n→bs w F l us→bs w G m vs →
  (Kx 9999 (xs++us).toArray (ys++vs).toArray fs).run P w = .ok q w
 | [],n,[],l,m,us,vs,xs,ys,q,_,he,_,_,_,_=>by
  cases l<;>cases m<;>simp [pj] at he;subst he;simp [Kx]
 | f::fs,n,c::cs,l,m,us,vs,xs,ys,q,hk,he,hx,hy,hu,hv=>by
  simp only [Bg,JK,bne_iff_ne,ne_eq,beq_iff_eq] at hk;obtain⟨⟨⟨h1,h2⟩,h3⟩,h4⟩:=hk;have fin:∀(a b:Value) (l' m':List D) (us' vs':List Value) (r:Bool),us=a::us'→vs=b::vs'→bs w F l' us'→bs w G m' vs'→(pj cs l' m').map (r&&·)=some q →
    (isAgg f.type).run P w = .ok false w→(JW 9999 f.type a b).run P w = .ok r w→(Kx 9999 (xs++us).toArray (ys++vs).toArray (f::fs)).run P w = .ok q w:=by
   intro a b l' m' us' vs' r e1 e2 g1 g2 g4 p0 p3;subst e1 e2;have p1:(part f.type (xs++a::us').toArray f.offset).run P w = .ok a w:=by simp [part,p0,h2,hx]
   have p2:(part f.type (ys++b::vs').toArray f.offset).run P w = .ok b w:=by simp [part,p0,h2,hy]
   obtain⟨q',g3,g5⟩:=JP.1 g4;simp only [Kx,h1,not_false_eq_true,if_true,ne_eq,JL,p1,p2,p3,JJ,Sem.run_ite];cases r
   ·simp at g5;simp [g5]
   ·simp only [Bool.not_true,Kg,if_false,Bool.true_and] at g5 ⊢
    subst g5;have ih:=sP fs (n+1) cs l' m' us' vs' (xs++[a]) (ys++[b]) q' h4 g3 (by simp [hx]) (by simp [hy]) g1 g2;simpa using ih
  unfold pj at he;split at he
  ·cases ‹_::_=[]›
  ·rename_i c' k a l' k' b m' _
   split at he
   ·rename_i hkk
    subst hkk;obtain⟨v1,v2,rfl,r1,r2⟩:=aw.1 hu;obtain⟨u1,u2,rfl,s1,s2⟩:=aw.1 hv;simp only [RepC] at r1 s1;obtain⟨rfl,_⟩:=r1;obtain⟨rfl,_⟩:=s1;cases ‹c::cs=_›;unfold GF at h3;split at h3<;>simp at h3
    rename_i kk hu;exact fin _ _ _ _ _ _ _ rfl rfl r2 s2 he (by simp [isAgg,run_underlying hu]) (run_equalIn_int w _ _ _ _ _ _ hu)
   ·cases he
  ·rename_i c' a l' b m' _
   obtain⟨v1,v2,rfl,r1,r2⟩:=aw.1 hu;obtain⟨u1,u2,rfl,s1,s2⟩:=aw.1 hv;simp only [RepC] at r1 s1;obtain⟨rfl,_⟩:=r1;obtain⟨rfl,_⟩:=s1;cases ‹c::cs=_›;unfold GF at h3;split at h3<;>simp at h3
   rename_i hu;exact fin _ _ _ _ _ _ _ rfl rfl r2 s2 he (by simp [isAgg,run_underlying hu]) (run_equalIn_bool' w _ _ _ _ hu)
  ·rename_i c' a l' b m' _
   obtain⟨v1,v2,rfl,r1,r2⟩:=aw.1 hu;obtain⟨u1,u2,rfl,s1,s2⟩:=aw.1 hv;simp only [RepC] at r1 s1;obtain⟨rfl,_⟩:=r1;obtain⟨rfl,_⟩:=s1;cases ‹c::cs=_›;unfold GF at h3;split at h3<;>simp at h3
   rename_i hu;exact fin _ _ _ _ _ _ _ rfl rfl r2 s2 he (by simp [isAgg,run_underlying hu]) (run_equalIn_string w _ _ _ _ hu)
  ·cases he
 | [],n,_::_,_,_,_,_,_,_,_,hk,_,_,_,_,_=>by simp [Bg] at hk
 | _::_,n,[],_,_,_,_,_,_,_,hk,_,_,_,_,_=>by simp [Bg] at hk
theorem GX {op:BinOp} {t:Nat} {k:IntKind} {a b:Int} {z:D} (h:gf op k a b=some z):∃v,(binOp op t (.int k a) (.int k b)).run P w = .ok v w∧z = .v v∧flat v=true:=by
 cases op<;>simp only [gf,Ko] at h
 case quo =>
  split at h<;>simp at h
  rename_i hb;exact⟨_,by simp [binOp_quo,Op.intDiv,hb],h.symm,rfl⟩
 case rem =>
  split at h<;>simp at h
  rename_i hb;exact⟨_,by simp [binOp_rem,Op.intDiv,hb],h.symm,rfl⟩
 case shl=>cases h
 case shr=>cases h
 all_goals
  subst h;refine⟨_,?_,rfl,rfl⟩
  first
  | simp [binOp_add,Ky];done
  | simp [binOp_sub,Ky];done
  | simp [binOp_mul,Ky];done
  | simp [binOp_and,intBits_and];done
  | simp [binOp_or,intBits_or];done
  | simp [binOp_xor,intBits_xor];done
  | simp [binOp_andNot,intBits_andNot];done
  | simp [binOp_eql];done
  | simp [binOp_neq];done
  | simp [binOp_lss];done
  | simp [binOp_leq];done
  | simp [binOp_gtr];done
  | simp [binOp_geq];done
theorem Gy {op:BinOp} {t:Nat} {a b:ByteArray} {z:D} (h:qb op a b=some z):∃v,(binOp op t (.string a) (.string b)).run P w = .ok v w∧z = .v v∧flat v=true:=by
 have e:binOp op t (.string a) (.string b)=KI op a b:=by cases op<;>rfl
 rw [e];cases op<;>simp only [qb,Ko] at h<;>try (cases h;done)
 case add =>
  split at h<;>simp at h
  rename_i hb;subst h;refine⟨_,?_,rfl,rfl⟩
  have:¬(((a.size+b.size:Nat):Int)>IntKind.i64.max):=by rw [IntKind.max_i64];omega
  simp only [KI,if_neg this,JQ]
 all_goals
  subst h;exact⟨_,by simp [KI],rfl,rfl⟩
theorem GP {op:BinOp} {t:Nat} {i:TI} (hi:TOk P t i) {a b z:D} {x y:Value} (ox oy:Operand) (ha:bY w F a x) (hb:bY w G b y) (h:bin op i.bl i.eq a b=some z) :
  ∃v,(do eqGuard op t ox oy x y;binOp op t x y:Sem Value).run P w = .ok v w∧z = .v v∧flat v=true:=by
 unfold bin at h;split at h
 ·rename_i k a' _ b'
  obtain⟨rfl,_⟩:=ba ha;obtain⟨rfl,_⟩:=ba hb;split at h<;>simp at h
  rename_i h0;subst h;refine⟨_,?_,rfl,rfl⟩
  rw [eqGuard_at_int];simp [binOp_shl,Op.shift,Int.not_lt.2 h0]
 ·rename_i k a' _ b'
  obtain⟨rfl,_⟩:=ba ha;obtain⟨rfl,_⟩:=ba hb;split at h<;>simp at h
  rename_i h0;subst h;refine⟨_,?_,rfl,rfl⟩
  rw [eqGuard_at_int];simp [binOp_shr,Op.shift,Int.not_lt.2 h0]
 ·rename_i k a' k' b' _ _
  obtain⟨rfl,_⟩:=ba ha;obtain⟨rfl,_⟩:=ba hb;by_cases hk:k=k'
  case neg=>rw [if_neg hk] at h;cases h
  rw [if_pos hk] at h;subst hk;obtain⟨v,h1,h2,h3⟩:=GX (P:=P) (w:=w) (t:=t) h;refine⟨v,?_,h2,h3⟩
  rw [eqGuard_at_int];simpa using h1
 ·obtain⟨rfl,_⟩:=ba ha
  obtain⟨rfl,_⟩:=ba hb;obtain⟨v,h1,h2,h3⟩:=Gy (P:=P) (w:=w) (t:=t) h;refine⟨v,?_,h2,h3⟩
  rw [eqGuard_at_string];simpa using h1
 ·obtain⟨rfl,_⟩:=ba ha
  obtain⟨rfl,_⟩:=ba hb;split at h<;>simp at h
  rename_i hbl;subst h;refine⟨_,?_,rfl,rfl⟩
  rw [eqGuard_at_bool];simp [binOp,Kb,Ki,run_equalIn_bool' w _ t _ _ (hi.bl hbl)]
 ·obtain⟨rfl,_⟩:=ba ha
  obtain⟨rfl,_⟩:=ba hb;split at h<;>simp at h
  rename_i hbl;subst h;refine⟨_,?_,rfl,rfl⟩
  rw [eqGuard_at_bool];simp [binOp,Kb,Ki,run_equalIn_bool' w _ t _ _ (hi.bl hbl)]
 ·split at h
  ·cases h
  ·rename_i he
   obtain⟨q,hq,rfl⟩:=JP.1 h;obtain⟨us,rfl,r1⟩:=ha.rep (by simp);obtain⟨vs,rfl,s1⟩:=hb.rep (by simp);simp only [RepC] at r1 s1;obtain⟨fs,f1,f2,f3,f4,f5⟩:=hi.eq he;have hfs:P.fieldsOf t=fs:=by simp [Program.fieldsOf,f1]
   refine⟨_,?_,rfl,rfl⟩
   have key:=sP (P:=P) fs.toList 0 i.eq _ _ us vs [] [] q f2 hq rfl rfl r1.1 s1.1;simp only [Ks] at key;simp only [JL,run_eqGuard_agg w _ _ _ _ _ _ f4,JJ,run_eql_struct,run_equalIn_agg w 9999 t _ _ (by rw [hfs];exact f1) f5,hfs,key]
 ·split at h
  ·cases h
  ·rename_i he
   obtain⟨q,hq,rfl⟩:=JP.1 h;obtain⟨us,rfl,r1⟩:=ha.rep (by simp);obtain⟨vs,rfl,s1⟩:=hb.rep (by simp);simp only [RepC] at r1 s1;obtain⟨fs,f1,f2,f3,f4,f5⟩:=hi.eq he;have hfs:P.fieldsOf t=fs:=by simp [Program.fieldsOf,f1]
   refine⟨_,?_,rfl,rfl⟩
   have key:=sP (P:=P) fs.toList 0 i.eq _ _ us vs [] [] q f2 hq rfl rfl r1.1 s1.1;simp only [Ks] at key;simp only [JL,run_eqGuard_agg w _ _ _ _ _ _ f4,JJ,run_neq_struct,run_equalIn_agg w 9999 t _ _ (by rw [hfs];exact f1) f5,hfs,key]
 ·cases h
theorem Em {op:BinOp} {t:Nat} {i:TI} (hi:TOk P t i) (hs:jB i=true) {a z:D} {x:Value} (ox oy:Operand) (ha:bY w F a x) (h:Ii op a=some z) :
  ∃v,(do eqGuard op t ox oy x (.slice none 0 0);binOp op t x (.slice none 0 0):Sem Value).run P w = .ok v w∧z = .v v∧flat v=true:=by
 have hez:i.ez≠0∧i.alen=0:=by
  unfold jB at hs;split at hs
  ·cases hs
  ·rename_i e1 h2
   exact⟨h2,e1⟩
  ·cases hs
 obtain⟨hu,_⟩:=hi.sl hez.1 hez.2;have eq1:∀(b:Addr) (n c:Nat),(Kb t (.slice (some b) n c) (.slice none 0 0)).run P w = .ok false w:=fun b n c=>by
  have h:∀d:Nat,(JW (d+1) t (.slice (some b) n c) (.slice none 0 0)).run P w = .ok false w:=fun d=>by
   simp [JW,run_underlying hu]
  simp [Kb,Ki,h 9999]
 have eq2:(Kb t (.slice none 0 0) (.slice none 0 0)).run P w = .ok true w:=by
  have h:∀d:Nat,(JW (d+1) t (.slice none 0 0) (.slice none 0 0)).run P w = .ok true w:=fun d=>by
   simp [JW,run_underlying hu]
  simp [Kb,Ki,h 9999]
 have g1:∀(op:BinOp) (b:Option Addr) (n c:Nat),(eqGuard op t ox oy (.slice b n c) (.slice none 0 0)).run P w = .ok () w:=fun op b n c=>by
  cases op<;>simp [eqGuard]
 unfold Ii at h;split at h
 ·obtain⟨rfl,_⟩:=ba ha
  cases h;refine⟨_,?_,rfl,rfl⟩
  simp only [JL,g1,JJ,binOp,eq2];rfl
 ·obtain⟨rfl,_⟩:=ba ha
  cases h;refine⟨_,?_,rfl,rfl⟩
  simp only [JL,g1,JJ,binOp,eq2];rfl
 ·have hr:=ha.rep (by simp)
  simp only [aT,RepC] at hr;obtain⟨A,c,us,e,_,_,_,hA⟩:=hr;obtain⟨b,o,rfl,_⟩:=hA (by simp);simp only [JM,and_true] at e;subst e;cases h;refine⟨_,?_,rfl,rfl⟩
  simp only [JL,g1,JJ,binOp,eq1];rfl
 ·have hr:=ha.rep (by simp)
  simp only [aT,RepC] at hr;obtain⟨A,c,us,e,_,_,_,hA⟩:=hr;obtain⟨b,o,rfl,_⟩:=hA (by simp);simp only [JM,and_true] at e;subst e;cases h;refine⟨_,?_,rfl,rfl⟩
  simp only [JL,g1,JJ,binOp,eq1];rfl
 ·cases h
theorem EH {op:BinOp} {t:Nat} {i:TI} (hi:TOk P t i) (hf:i.ifc=true) {a b z:D} {x y:Value} {nc:Bool} (ox oy:Operand) (hc:nc=true→∃v,oy = .const v) (ha:bY w F a x) (hb:bY w G b y) (h:Ig nc op a b=some z) :
  ∃v,(do eqGuard op t ox oy x y;binOp op t x y:Sem Value).run P w = .ok v w∧z = .v v∧flat v=true:=by
 obtain⟨ms,hu⟩:=hi.ifc hf;have eq1:∀(tx:TypeId) (v:Value),(Kb t (.iface tx v) .nilIface).run P w = .ok false w:=fun tx v=>by
  have h:∀d:Nat,(JW (d+1) t (.iface tx v) .nilIface).run P w = .ok false w:=fun d=>by
   simp [JW,run_underlying hu]
  simp [Kb,Ki,h 9999]
 have eq2:(Kb t .nilIface .nilIface).run P w = .ok true w:=by
  have h:∀d:Nat,(JW (d+1) t .nilIface .nilIface).run P w = .ok true w:=fun d=>by
   simp [JW,run_underlying hu]
  simp [Kb,Ki,h 9999]
 have g1:∀(op:BinOp) (tx:TypeId) (v:Value),(eqGuard op t ox oy (.iface tx v) .nilIface).run P w = .ok () w:=fun op tx v=>by
  cases op<;>simp [eqGuard]
 have g2:nc=true→∀op:BinOp,(eqGuard op t ox oy .nilIface .nilIface).run P w = .ok () w:=fun hn op=>by
  obtain⟨v,rfl⟩:=hc hn;cases op<;>simp [eqGuard]
 unfold Ig at h;split at h
 ·obtain⟨tx,v,e⟩:=ha.rep (by simp)
  obtain⟨rfl,_⟩:=ba hb;simp only [JM,and_true] at e;subst e;cases h;refine⟨_,?_,rfl,rfl⟩
  simp only [JL,g1,JJ,binOp,eq1];rfl
 ·obtain⟨tx,v,e⟩:=ha.rep (by simp)
  obtain⟨rfl,_⟩:=ba hb;simp only [JM,and_true] at e;subst e;cases h;refine⟨_,?_,rfl,rfl⟩
  simp only [JL,g1,JJ,binOp,eq1];rfl
 ·obtain⟨rfl,_⟩:=ba ha
  obtain⟨rfl,_⟩:=ba hb;split at h
  case isFalse=>cases h
  rename_i hn;cases h;refine⟨_,?_,rfl,rfl⟩
  simp only [JL,g2 hn,JJ,binOp,eq2];rfl
 ·obtain⟨rfl,_⟩:=ba ha
  obtain⟨rfl,_⟩:=ba hb;split at h
  case isFalse=>cases h
  rename_i hn;cases h;refine⟨_,?_,rfl,rfl⟩
  simp only [JL,g2 hn,JJ,binOp,eq2];rfl
 ·cases h
theorem HR {op:UnOp} {a z:D} {x:Value} (ha:bY w F a x) (h:un op a=some z):∃v,(Op.unary op x).run P w = .ok v w∧z = .v v∧flat v=true:=by
 unfold un at h;split at h
 ·obtain⟨rfl,_⟩:=ba ha
  simp at h;subst h;exact⟨_,by simp [Op.unary,Ky],rfl,rfl⟩
 ·obtain⟨rfl,_⟩:=ba ha
  simp at h;subst h;exact⟨_,by simp [Op.unary],rfl,rfl⟩
 ·cases h
theorem EB {q a b z:D} {xq xa xb:Value} (hq:bY w F q xq) (ha:bY w G a xa) (hb:bY w G b xb) (h:aR q a b=some z):∃y,(do pure (if ←asBool xq then xa else xb):Sem Value).run P w = .ok y w∧bY w G z y:=by
 unfold aR at h;split at h
 ·obtain⟨rfl,_⟩:=ba hq
  simp at h;subst h;exact⟨xa,by simp [asBool],ha⟩
 ·obtain⟨rfl,_⟩:=ba hq
  simp at h;subst h;exact⟨xb,by simp [asBool],hb⟩
 ·cases h
theorem FK {src dst:Nat} {si di:TI} (hs:TOk P src si) (hd:TOk P dst di) {a z:D} {x:Value} (ha:bY w F a x) (h:kz di.ik (match di.str with | true=>si.str | false=>false) a=some z) :
  ∃v,(convert src dst x).run P w = .ok v w∧z = .v v∧flat v=true:=by
 unfold kz at h;split at h
 ·rename_i k kk n hk
  obtain⟨rfl,_⟩:=ba ha;simp at h;subst h;obtain⟨d,hu⟩:=Option.isSome_iff_exists.1 hs.und;refine⟨_,?_,rfl,rfl⟩
  simp [convert,run_underlying hu,run_underlying (hd.ik k hk),Conv.intToInt]
 ·rename_i s hk
  obtain⟨rfl,_⟩:=ba ha;simp at h;subst h;split at hk
  ·rename_i hdd
   have h1:=(hd.str hdd).1;have h2:=(hs.str hk).1;refine⟨_,?_,rfl,rfl⟩
   simp [convert,run_underlying h1,run_underlying h2]
  ·cases hk
 ·cases h
theorem jC {t:Nat} {i:TI} (hi:TOk P t i) (h:jB i=true):P.underlying t=some (.slice i.elem)∧i.agg=false∧0<i.ez∧0<i.eb∧∃y,P.info? i.elem=some y∧y.size=i.ez∧y.bytes=i.eb:=by
 unfold jB at h;split at h
 ·cases h
 ·rename_i h1 h2
  exact hi.sl (by intro h0;exact h2 h0) h1
 ·cases h
theorem ly {z:Nat} {l:List D} {y:Value} (h:aT w F (.arr z l) y):∃A c us,y = .slice A l.length c∧l.length≤c∧bs w F l us∧(∀d∈l,d.width=z)∧(l≠[]→∃b o,A=some ⟨b,o,none⟩∧F b∧cE w b o us):=by
 simp only [aT,RepC] at h;obtain⟨A,c,us,h1,h2⟩:=h;simp at h1;exact⟨A,c,us,h1,h2⟩
theorem qM {l:List D} {y:Value} (h:aT w F (.ptr l) y):∃b o us,y = .pointer (some ⟨b,o,none⟩)∧bs w F l us∧l.all D.single=true∧F b∧cE w b o us:=by
 simp only [aT,RepC] at h;obtain⟨b,o,us,h1,h2⟩:=h;simp at h1;exact⟨b,o,us,h1,h2⟩
theorem FN {t ty:Nat} {str:Bool} {a z:D} {x:Value} (ha:bY w F a x) (hs:str=false→∃e,P.underlying t=some (.slice e)) (ht:str=true→P.underlying t=some .string) (h:lenD str a=some z) :
  ∃v,(KH #[t] ty #[x]).run P w = .ok v w∧z = .v v∧flat v=true:=by
 unfold lenD at h;split at h
 ·obtain⟨e,hu⟩:=hs rfl
  obtain⟨A,c,us,rfl,_⟩:=ly (ha.rep (by simp));simp at h;subst h;exact⟨_,by simp [KH,run_underlying hu,goInt],rfl,rfl⟩
 ·have hu:=ht rfl
  obtain⟨rfl,_⟩:=ba ha;simp at h;subst h;exact⟨_,by simp [KH,run_underlying hu,goInt],rfl,rfl⟩
 ·cases h
theorem xo {ag:Bool} {n:Nat} {l:List D} {us:List Value} {z:D} (hr:bs w F l us) (hs:l.all D.single=true) (h:ak ag n l=some z) :
  (ag=true→n≤us.length∧aT w F z (.agg (us.take n).toArray))∧(ag=false→∃u,us[0]?=some u∧aT w F z u):=by
 have hl:=(ce l us hs hr).1;unfold ak at h;constructor
 ·rintro rfl
  simp only [if_true] at h;split at h
  ·rename_i hn
   simp at h;subst h;refine⟨by omega,_,rfl,?_⟩
   simp only [RepC];exact⟨(jb l us hs hr n).1,Av hs n⟩
  ·cases h
 ·rintro rfl
  simp only [Kg,if_false] at h;cases l with
  | nil=>cases h
  | cons d l =>
   simp at h;subst h;simp only [Kj,JK] at hs;obtain⟨v1,v2,rfl,h1,h2⟩:=aw.1 hr;obtain⟨y,rfl,_⟩:=je _ _ hs.1 h1;exact⟨y,rfl,(gB hs.1).2 h1⟩
theorem Ar {t:Nat} {i:TI} (hi:TOk P t i) {off:Nat} {l:List D} {us:List Value} {z:D} (hr:bs w F l us) (hs:l.all D.single=true) (h:ak i.agg i.n (l.drop off)=some z) :
  ∃y,(part t us.toArray off).run P w = .ok y w∧aT w F z y:=by
 obtain⟨h1,h2⟩:=xo (jb l us hs hr off).2 (lg hs off) h;cases ha:i.agg
 ·obtain⟨u,hu,hv⟩:=h2 ha
  refine⟨u,?_,hv⟩
  rw [KF] at hu;simp only [part,JL,hi.agg,ha,JJ,Kg,if_false];have:us.toArray[off]?=some u:=by simpa using hu
  rw [this];rfl
 ·obtain⟨hn,hv⟩:=h1 ha
  refine⟨_,?_,hv⟩
  simp only [part,JL,hi.agg,ha,JJ,if_true,hi.size,JQ];congr 2
  apply Array.ext';simp
theorem Ge {t ft f off:Nat} {i ti:TI} (hi:TOk P t i) (hf:TOk P ft ti) {a z:D} {x:Value} (hl:i.fs[f]?=some (off,ft)) (ha:bY w F a x) (h:bF ti.agg ti.n off a=some z) :
  ∃y,(Instr.field t x f).run P w = .ok y w∧aT w F z y:=by
 unfold bF at h;split at h
 ·rename_i l
  obtain⟨us,rfl,hr⟩:=ha.rep (by simp);simp only [RepC] at hr;obtain⟨fs,fl,h1,h2,h3,h4,_⟩:=hi.fs f off ft hl;obtain⟨y,hy,hv⟩:=Ar hf hr.1 hr.2 h;refine⟨y,?_,hv⟩
  simp only [Instr.field,JL,run_underlying h1,JJ,h2,asAgg,JQ,h3,h4,hy]
 ·cases h
theorem qX {t:Nat} {i:TI} (hi:TOk P t i) {b o:Nat} {l:List D} {us:List Value} {z:D} (hr:bs w F l us) (hs:l.all D.single=true) (hc:cE w b o us) (h:ak i.agg i.n l=some z) :
  ∃y,(Kq t (.pointer (some ⟨b,o,none⟩))).run P w = .ok y w∧aT w F z y:=by
 obtain⟨h1,h2⟩:=xo hr hs h;cases ha:i.agg
 ·obtain⟨u,hu,hv⟩:=h2 ha
  refine⟨u,?_,hv⟩
  have hcell:=hc 0 u hu;rw [Nat.add_zero] at hcell;simp only [Kq,Km,JL,JQ,JJ,loadVar,hi.agg,ha,Kg,if_false,run_load,hcell]
 ·obtain⟨hn,hv⟩:=h1 ha
  refine⟨_,?_,hv⟩
  have hlc:(loadCells ⟨b,o,none⟩ i.n).run P w = .ok (us.take i.n).toArray w:=by
   have hlen:(us.take i.n).length=i.n:=by rw [JZ];omega
   have:=run_loadCells_list (P:=P) w ⟨b,o,none⟩ (us.take i.n) (fun j v hj=>by rw [JY];exact(hc.take i.n) j v hj);rwa [hlen] at this
  simp only [Kq,Km,JL,JQ,JJ,loadVar,hi.agg,ha,if_true,hi.size,hlc]
theorem Hw {t:Nat} {i:TI} (hi:TOk P t i) {a z:D} {x:Value} (ha:bY w F a x) (h:ldD i.agg i.n a=some z):∃y,(Kq t x).run P w = .ok y w∧aT w F z y:=by
 unfold ldD at h;split at h
 ·obtain⟨b,o,us,rfl,h1,h2,_,h4⟩:=qM (ha.rep (by simp))
  exact qX hi h1 h2 h4 h
 ·cases h
theorem nu {t f off ft:Nat} {i:TI} (hi:TOk P t i) (hl:i.fs[f]?=some (off,ft)) (b o:Nat):(KE t (.pointer (some ⟨b,o,none⟩)) f).run P w = .ok (.pointer (some ⟨b,o+off,none⟩)) w:=by
 obtain⟨fs,fl,h1,h2,h3,h4,_,y,h5,h6⟩:=hi.fs f off ft hl;simp only [KE,JL,run_underlying h1,JJ,h2,Km,JQ,fieldPlace,h4,cU h5,if_neg h6,h3,JY]
theorem FV {t f off ft:Nat} {i:TI} (hi:TOk P t i) (hl:i.fs[f]?=some (off,ft)) {a z:D} {x:Value} (ha:bY w F a x) (h:sE off a=some z):∃y,(KE t x f).run P w = .ok y w∧aT w F z y:=by
 unfold sE at h;split at h
 ·rename_i l
  obtain⟨b,o,us,rfl,h1,h2,h3,h4⟩:=qM (ha.rep (by simp));simp at h;subst h;refine⟨_,nu hi hl b o,?_⟩
  simp only [aT,RepC];exact⟨b,o+off,us.drop off,rfl,(jb l us h2 h1 off).2,lg h2 off,h3,h4.drop off⟩
 ·cases h
theorem tb {t:Nat} {i:TI} (hi:TOk P t i) (hsl:jB i=true) (b o len c:Nat) (k:IntKind) (n:Int) (h0:0≤n) (h1:n<len) :
  (Ke t (.slice (some ⟨b,o,none⟩) len c) (.int k n)).run P w = .ok (.pointer (some ⟨b,o+n.toNat*i.ez,none⟩)) w:=by
 obtain⟨hu,_,_,_,y,hy,hz,_⟩:=jC hi hsl;simp only [Ke,asIntOf,JL,JQ,JJ,run_underlying hu,h0,h1,and_self,if_true,cU hy,hz,JY]
theorem th {t:Nat} {i:TI} (hi:TOk P t i) (ha:i.alen≠0) (b o:Nat) (k:IntKind) (n:Int) (h0:0≤n) (h1:n<i.alen) :
  (Ke t (.pointer (some ⟨b,o,none⟩)) (.int k n)).run P w = .ok (.pointer (some ⟨b,o+n.toNat*i.ez,none⟩)) w:=by
 obtain⟨hu,_,_,_,y,hy,hz⟩:=hi.ar ha;simp only [Ke,asIntOf,JL,JQ,JJ,run_underlying hu,Km,h0,h1,and_self,if_true,cU hy,hz,JY]
theorem ES {t:Nat} {i:TI} (hi:TOk P t i) (hsl:jB i=true) {a j:D} {x y:Value} {l:List D} (ha:bY w F a x) (hj:bY w G j y) (h:bm i.ez a j=some l) :
  ∃v,(Ke t x y).run P w = .ok v w∧aT w F (.ptr l) v:=by
 unfold bm at h;split at h
 ·rename_i z' m k n
  split at h
  ·rename_i hz
   obtain⟨rfl,h0⟩:=hz;obtain⟨d,hd,rfl⟩:=JP.1 h;obtain⟨rfl,_⟩:=ba hj;obtain⟨A,c,us,rfl,h1,h2,h3,h4⟩:=ly (ha.rep (by simp));have hn:n.toNat<m.length:=(JT.1 hd).1;obtain⟨b,o,rfl,hb,hc⟩:=h4 (by intro e;subst e;simp at hn);refine⟨_,tb hi hsl b o _ c k n h0 (by omega),?_⟩
   obtain⟨p,q,r,rfl,hp,hq,hr,_⟩:=nN m us h2 h3 _ d hd;simp only [aT,RepC];have hrr:bs w F d.cells q∧d.cells.all D.single=true:=by
    rcases jR hr with ⟨l,rfl⟩ | hs
    ·simpa only [RepC,D.cells] using hr
    ·rw [(dE hs).2]
     exact⟨aw.2 ⟨q,[],by simp,hr,aJ.2 rfl⟩,by simp [hs]⟩
   refine⟨b,_,q,rfl,hrr.1,hrr.2,hb,?_⟩
   rw [←hp];exact hc.part
  ·cases h
 ·cases h
theorem Gn {t:Nat} {i:TI} (hi:TOk P t i) (hal:i.alen≠0) {a j z:D} {x y:Value} (ha:bY w F a x) (hj:bY w G j y) (h:ixD i.alen i.ez a j=some z):∃v,(Ke t x y).run P w = .ok v w∧aT w F z v:=by
 unfold ixD at h;split at h
 ·rename_i l k n
  split at h
  ·rename_i hn
   simp at h;subst h;obtain⟨rfl,_⟩:=ba hj;obtain⟨b,o,us,rfl,h1,h2,h3,h4⟩:=qM (ha.rep (by simp));refine⟨_,th hi hal b o k n hn.1 hn.2,?_⟩
   simp only [aT,RepC];exact⟨b,_,_,rfl,(jb l us h2 h1 _).2,lg h2 _,h3,h4.drop _⟩
  ·cases h
 ·cases h
theorem GU {t et:Nat} {i e:TI} (hi:TOk P t i) (he:TOk P et e) (hal:i.alen≠0) (hel:i.elem=et) {a j z:D} {x y:Value} (ha:bY w F a x) (hj:bY w G j y) (h:ixA e.agg i.alen i.ez a j=some z):∃v,(Kz t x y).run P w = .ok v w∧aT w F z v:=by
 unfold ixA at h;split at h
 ·rename_i l k n
  split at h
  ·rename_i hn
   obtain⟨rfl,_⟩:=ba hj;obtain⟨us,rfl,hr⟩:=ha.rep (by simp);simp only [RepC] at hr;obtain⟨hu,_,_,_,y,hy,hz⟩:=hi.ar hal;have hen:e.n=i.ez:=by
    obtain⟨x',_,h1,h2,_⟩:=he.info;rw [hel] at hy;rw [hy] at h1;cases h1;omega
   rw [←hen] at h;obtain⟨v,hv,hrep⟩:=Ar he hr.1 hr.2 h;refine⟨v,?_,hrep⟩
   subst hel;simp only [Kz,asIntOf,JL,JQ,JJ,run_underlying hu,hn.1,hn.2,and_self,if_true,cU hy,hz];rw [←hen];exact hv
  ·cases h
 ·cases h
theorem EX {t:Nat} {i:TI} (hi:TOk P t i) (hs:i.str=true) {a j z:D} {x y:Value} (ha:bY w F a x) (hj:bY w G j y) (h:qY a j=some z):∃v,(Kz t x y).run P w = .ok v w∧z = .v v∧flat v=true:=by
 unfold qY at h;split at h
 ·rename_i s k n
  split at h
  ·rename_i h0
   obtain⟨b,hb,rfl⟩:=JP.1 h;obtain⟨rfl,_⟩:=ba ha;obtain⟨rfl,_⟩:=ba hj;refine⟨_,?_,rfl,rfl⟩
   have hb':s[n.toNat]?=some b:=by
    have hlt:n.toNat<s.data.toList.length:=(JT.1 hb).1;have hlt':n.toNat<s.size:=by rw [Array.length_toList] at hlt;exact hlt
    rw [getElem?_pos s n.toNat hlt'];have h2:=(JT.1 hb).2;refine congrArg some ?_
    rw [←h2,Array.getElem_toList];rfl
   simp only [Kz,asIntOf,JL,JQ,JJ,run_underlying (hi.str hs).1];rw [if_pos h0,hb'];rfl
  ·cases h
 ·cases h
def LoV (w:World) (F:Nat→Prop) (lo:D) (v:Option Value):Prop:=(∃y,v=some y∧bY w F lo y)∨(v=none∧lo=I 0)
theorem ot {k:IntKind} {p:Int} {v:Option Value} (h:LoV w F (.v (.int k p)) v):v=some (.int k p)∨(v=none∧p=0):=by
 rcases h with ⟨y,rfl,hy⟩ | ⟨rfl,e⟩
 ·obtain⟨rfl,_⟩:=ba hy
  exact .inl rfl
 ·simp at e
  exact .inr ⟨rfl,e.2⟩
theorem CE {t:Nat} {i:TI} (hi:TOk P t i) (hsl:i.str=false→jB i=true) {a lo hi' z:D} {x yh:Value} {yl:Option Value} (ha:bY w F a x) (hl:LoV w G lo yl) (hh:bY w G hi' yh) (h:hD i.str i.ez a lo hi'=some z) :
  ∃v,(KO t x yl (some yh) none).run P w = .ok v w∧aT w F z v:=by
 unfold hD at h;split at h
 ·rename_i z' l k p k' q hs
  split at h
  ·rename_i hc
   obtain⟨rfl,h0,h1,h2⟩:=hc;simp at h;subst h;have hl:=ot hl;obtain⟨rfl,_⟩:=ba hh;obtain⟨hu,_,hez,_,y,hy,hz,_⟩:=jC hi (hsl hs);obtain⟨A,c,us,rfl,g1,g2,g3,g4⟩:=ly (ha.rep (by simp));have he:P.elem t=i.elem:=by simp [KP,hu]
   refine⟨sliced A p.toNat q.toNat c i.ez,?_,?_⟩
   ·rcases hl with rfl | ⟨rfl,rfl⟩
    ·rw [run_sliceAt_slice w t _ _ _ _ (by rw [he];exact hu),run_slice_lh w t A _ c (by rw [he];exact hu) k k' p q h0 h1 (by omega),he,cU hy,hz]
     rfl
    ·rw [run_sliceAt_slice w t _ _ _ _ (by rw [he];exact hu),run_slice_h w t A _ c (by rw [he];exact hu) k' q (by omega) (by omega),he,cU hy,hz]
     rfl
   ·simp only [aT,RepC,sliced]
    have hlen:((l.take q.toNat).drop p.toNat).length=q.toNat - p.toNat:=by rw [Kr,JZ];omega
    obtain⟨t1,_⟩:=iz l us g2 g3 q.toNat;obtain⟨_,t2⟩:=iz (l.take q.toNat) (us.take (q.toNat*i.ez)) t1 (fun d hd=>g3 d (JV hd)) p.toNat;refine⟨_,c - p.toNat,_,by rw [hlen],by rw [hlen];omega,t2,fun d hd=>g3 d (JV (Kk hd)),fun hne=>?_⟩
    have hpos:p.toNat<q.toNat:=by
     rcases KG p.toNat q.toNat with hlt | hge
     ·exact hlt
     ·exact absurd (Kl (by rw [hlen];omega)) hne
    obtain⟨b,o,rfl,hb,hcell⟩:=g4 (by intro e;subst e;simp at h2;omega);refine⟨b,o+p.toNat*i.ez,?_,hb,(hcell.take _).drop _⟩
    rw [if_neg (by omega)];simp [JY]
  ·cases h
 ·rename_i s k p k' q hs
  split at h
  ·rename_i hc
   obtain⟨h0,h1,h2⟩:=hc;simp at h;subst h;obtain⟨rfl,_⟩:=ba ha;have hl:=ot hl;obtain⟨rfl,_⟩:=ba hh;have hu:=(hi.str hs).1;refine⟨_,?_,gx rfl⟩
   have e1:((q.toNat:Nat):Int)=q:=by omega
   rcases hl with rfl | ⟨rfl,rfl⟩
   case inr=>rw [run_sliceAt_string w t _ _ _ _ hu,run_slice_string_h w t s hu k' q (by omega) (by omega)];rfl
   simp [run_sliceAt_string w t _ _ _ _ hu,Instr.slice,run_underlying hu,Instr.sliceBounds,run_sliceBound w k' q s.size _ (by omega) h2,run_sliceBound w k p q.toNat _ h0 (by omega)]
  ·cases h
 ·cases h
theorem zZ {t:Nat} {i:TI} (hi:TOk P t i) (hsl:i.str=false→jB i=true) {a lo z:D} {x:Value} {yl:Option Value} (ha:bY w F a x) (hl:LoV w G lo yl) (h:qA i.str i.ez a lo=some z) :
  ∃v,(KO t x yl none none).run P w = .ok v w∧aT w F z v:=by
 unfold qA at h;split at h
 ·rename_i z' l k p hs
  split at h
  ·rename_i hc
   obtain⟨rfl,h0,h1⟩:=hc;simp at h;subst h;have hl:=ot hl;obtain⟨hu,_,hez,_,y,hy,hz,_⟩:=jC hi (hsl hs);obtain⟨A,c,us,rfl,g1,g2,g3,g4⟩:=ly (ha.rep (by simp));have he:P.elem t=i.elem:=by simp [KP,hu]
   refine⟨sliced A p.toNat l.length c i.ez,?_,?_⟩
   ·rcases hl with rfl | ⟨rfl,rfl⟩
    ·rw [run_sliceAt_slice w t _ _ _ _ (by rw [he];exact hu),run_slice_l w t A _ c (by rw [he];exact hu) k p h0 h1,he,cU hy,hz]
     rfl
    ·rw [run_sliceAt_slice w t _ _ _ _ (by rw [he];exact hu),run_slice_all w t A _ c (by rw [he];exact hu),he,cU hy,hz]
     rfl
   ·simp only [aT,RepC,sliced]
    obtain⟨_,t2⟩:=iz l us g2 g3 p.toNat;refine⟨_,c - p.toNat,_,by rw [Kr],by rw [Kr];omega,t2,fun d hd=>g3 d (Kk hd),fun hne=>?_⟩
    have hpos:p.toNat<l.length:=by
     rcases KG p.toNat l.length with hlt | hge
     ·exact hlt
     ·exact absurd (Kh hge) hne
    obtain⟨b,o,rfl,hb,hcell⟩:=g4 (by intro e;subst e;simp at hpos);refine⟨b,o+p.toNat*i.ez,?_,hb,hcell.drop _⟩
    rw [if_neg (by omega)];simp [JY]
  ·cases h
 ·rename_i s k p hs
  split at h
  ·rename_i hc
   obtain⟨h0,h1⟩:=hc;simp at h;subst h;obtain⟨rfl,_⟩:=ba ha;have hl:=ot hl;have hu:=(hi.str hs).1;refine⟨_,?_,gx rfl⟩
   rcases hl with rfl | ⟨rfl,rfl⟩
   case inr=>rw [run_sliceAt_string w t _ _ _ _ hu,run_slice_string_all w t s hu];rfl
   simp [run_sliceAt_string w t _ _ _ _ hu,Instr.slice,run_underlying hu,Instr.sliceBounds,run_sliceBound w k p s.size _ h0 h1]
  ·cases h
 ·cases h
theorem Gm {a b z:D} {x y:Value} (ha:bY w F a x) (hb:bY w G b y) (h:CM a b=some z):∃v,(KQ x y).run P w = .ok v w∧z = .v v∧flat v=true:=by
 unfold CM at h;split at h
 ·obtain⟨rfl,_⟩:=ba ha
  obtain⟨rfl,_⟩:=ba hb;simp at h;subst h;exact⟨_,by simp [KQ],rfl,rfl⟩
 ·cases h
theorem GI {a b z:D} {x y:Value} (ha:bY w F a x) (hb:bY w G b y) (h:Dl a b=some z):∃v,(KR x y).run P w = .ok v w∧z = .v v∧flat v=true:=by
 unfold Dl at h;split at h
 ·obtain⟨rfl,_⟩:=ba ha
  obtain⟨rfl,_⟩:=ba hb;simp at h;subst h;exact⟨_,by simp [KR],rfl,rfl⟩
 ·cases h
def ri (w:World) (F:Nat→Prop):List D→List Value→Prop
 | [],[]=>True
 | d::ds,y::ys=>bY w F d y∧ri w F ds ys
 | _,_=>False
theorem zO {f:D→D→Option D} {g:Value→Value→Sem Value} (hf:∀(a b z:D) (x y:Value),bY w F a x→bY w F b y→f a b=some z→∃v,(g x y).run P w = .ok v w∧z = .v v∧flat v=true) :
  ∀(ds:List D) (ys:List Value) (z:D) (x:Value),flat x=true→ri w F ds ys→uC f (.v x) ds=some z→∃v,(ys.foldlM g x).run P w = .ok v w∧z = .v v∧flat v=true
 | [],[],z,x,ha,_,h=>by
  simp only [uC,Ko] at h;subst h;exact⟨x,by simp,rfl,ha⟩
 | d::ds,y::ys,z,x,ha,hb,h=>by
  simp only [uC] at h;obtain⟨u,hu,h⟩:=JU.1 h;obtain⟨v,h1,rfl,h3⟩:=hf (.v x) d u x y (.inr (gx ha)) hb.1 hu;obtain⟨v',h4,h5⟩:=zO hf ds ys z v h3 hb.2 h;exact⟨v',by simp [h1,h4],h5⟩
 | [],_::_,_,_,_,hb,_=>hb.elim
 | _::_,[],_,_,_,hb,_=>hb.elim
theorem CD {f:D→D→Option D} {g:Value→Value→Sem Value} (hf:∀(a b z:D) (x y:Value),bY w F a x→bY w F b y→f a b=some z→∃v,(g x y).run P w = .ok v w∧z = .v v∧flat v=true)
  {a b:D} {ds:List D} {x y:Value} {ys:List Value} {z:D} (ha:bY w F a x) (hb:bY w F b y) (hd:ri w F ds ys) (h:uC f a (b::ds)=some z):∃v,((y::ys).foldlM g x).run P w = .ok v w∧z = .v v∧flat v=true:=by
 simp only [uC] at h;obtain⟨u,hu,h⟩:=JU.1 h;obtain⟨v,h1,rfl,h3⟩:=hf a b u x y ha hb hu;obtain⟨v',h4,h5⟩:=zO hf ds ys z v h3 hd h;exact⟨v',by simp [h1,h4],h5⟩
theorem FY {a z:D} {x:Value} (ha:bY w F a x) (h:EJ a=some z) (o:Oper) (q:Operand) (ρ:Operand→Value) (ho:o.op = .nilCheck q) (hq:ρ q=x):(execOp ρ o).run P w = .ok (.value x) w∧aT w F z x:=by
 unfold EJ at h;split at h
 ·have hr:=ha.rep (by simp)
  obtain⟨b,of,us,rfl,_⟩:=qM hr;simp at h;subst h;exact⟨by simp [execOp,ho,hq],hr⟩
 ·have hr:=ha.rep (by simp)
  simp at h;subst h;have hr':=hr;simp only [aT,RepC] at hr';obtain⟨us,hx,_⟩:=hr';simp at hx;subst hx;exact⟨by simp [execOp,ho,hq],hr⟩
 ·cases h
theorem GV {src dst:Nat} {si di ei:TI} (hs:TOk P src si) (hd:TOk P dst di) (he:TOk P si.elem ei) (hsl:jB si=true) (hb:ei.ik=some .u8) (hds:di.str=true) {a z:D} {x:Value} (ha:aT w F a x) (h:wC a=some z) :
  ∃v,(convert src dst x).run P w = .ok v w∧z = .v v∧flat v=true:=by
 unfold wC at h;split at h
 ·rename_i zz l
  obtain⟨b,hbb,rfl⟩:=JP.1 h;obtain⟨A,c,us,rfl,g1,g2,g3,g4⟩:=ly ha;obtain⟨hu,_⟩:=jC hs hsl;have hel:=he.ik _ hb;have hst:=(hd.str hds).1;refine⟨_,?_,rfl,rfl⟩
  rw [run_convert_bytes_string w src dst si.elem A _ c hu hel hst];by_cases hl:l=[]
  ·subst hl
   simp [kB] at hbb;subst hbb;cases A with
   | none=>simp [Conv.bytesToString];rfl
   | some A=>simp [Conv.bytesToString,loadCells,loadCellsFrom];rfl
  ·obtain⟨bb,o,rfl,_,hc⟩:=g4 hl
   have key:∀(l:List D) (us:List Value) (b:List UInt8),kB l=some b→bs w F l us→∃ns:List Int,us=ns.map (KN .u8)∧ns.map (fun n=>Ku n.toNat)=b∧l.length=ns.length:=by
    intro l;induction l with
    | nil =>
     intro us b h hr;simp [kB] at h;rw [aJ] at hr;exact⟨[],by simp [hr],by simp [h],rfl⟩
    | cons d l ih =>
     intro us b h hr;unfold kB at h;split at h
     ·cases ‹_=[]›
     ·rename_i n l' e
      cases e;obtain⟨b',hb',rfl⟩:=JP.1 h;obtain⟨v1,v2,rfl,h1,h2⟩:=aw.1 hr;simp only [RepC] at h1;obtain⟨rfl,_⟩:=h1;obtain⟨ns,rfl,e2,e3⟩:=ih v2 b' hb' h2;exact⟨n::ns,by simp,by simp [e2],by simp [e3]⟩
     ·cases h
   obtain⟨ns,rfl,e2,e3⟩:=key l us b hbb g2;have hlc:(loadCells ⟨bb,o,none⟩ l.length).run P w = .ok (ns.map (KN .u8)).toArray w:=by
    have:=run_loadCells_list (P:=P) w ⟨bb,o,none⟩ (ns.map (KN .u8)) (fun j v hj=>by rw [JY];exact hc j v hj);rwa [List.length_map,←e3] at this
   rw [run_bytesToString w _ _ c ns hlc];congr 2
   have:∀(ns:List Int) (acc:ByteArray),ns.foldl (fun r n=>r.push (Ku n.toNat)) acc=⟨acc.data++(ns.map (fun n=>Ku n.toNat)).toArray⟩:=by
    intro ns;induction ns with
    | nil=>intro acc;simp
    | cons n ns ih =>
     intro acc;rw [KM,ih];congr 1
     simp [ByteArray.push]
   rw [this,e2];congr 1
   show #[]++b.toArray=b.toArray
   simp
 ·cases h
theorem qU {l vs:List D} {us ws:List Value} (hl:l.all D.single=true) (hv:vs.all D.single=true) (hr:bs w F l us) (hw:bs w F vs ws) (f:Nat) :
  bs w F (bO l f vs) (us.take f++ws++us.drop (f+ws.length))∧(bO l f vs).all D.single=true:=by
 have e:=(ce _ _ hv hw).1;refine⟨?_,?_⟩
 ·unfold bO
  rw [e];exact(cC _ _ _).2 ⟨_,_,rfl,(cC _ _ _).2 ⟨_,_,rfl,(jb l us hl hr f).1,hw⟩,(jb l us hl hr _).2⟩
 ·unfold bO
  rw [all_append,all_append,Av hl,lg hl,hv];rfl
theorem uu:∀(vs:List Value) (off k:Nat) (us:List Value),off+k+vs.length≤us.length →
  ((vs.zipIdx k).foldl (fun(cs:Array Value) (p:Value × Nat)=>cs.setIfInBounds (off+p.2) p.1) us.toArray)=(us.take (off+k)++vs++us.drop (off+k+vs.length)).toArray
 | [],off,k,us,h=>by simp
 | v::vs,off,k,us,h=>by
  simp only [KK] at h;have ih:=uu vs off (k+1) (us.set (off+k) v) (by simp;omega);simp only [List.zipIdx_cons,KM,List.setIfInBounds_toArray];rw [ih];congr 1
  have hs:us.set (off+k) v=us.take (off+k)++v::us.drop (off+k+1):=List.set_eq_take_append_cons_drop.trans (by rw [if_pos (by omega)]);have hl:(us.take (off+k)).length=off+k:=by rw [JZ];omega
  rw [hs,←KD];have e3:us.drop (off+k+(v::vs).length)=(us.drop (off+k+1)).drop vs.length:=by rw [List.drop_drop,KK];congr 1;omega
  rw [e3];generalize us.take (off+k)=p at hl;generalize us.drop (off+k+1)=r;rw [←hl,List.take_length_add_append,show p.length+1+vs.length=p.length+(vs.length+1) from by omega,List.drop_length_add_append];simp
theorem AO (place:Nat→Option (Nat × Nat)):∀(parts:List (Nat × Value)) (ps:List (Nat × Nat)) (xs cs cs':List D) (us:List Value),parts.map (fun p=>place p.1)=ps.map some→ri w F xs (parts.map (·.2))→cs.all D.single=true→bs w F cs us →
  pI ps xs cs=some cs'→∃us',Instr.fill place us.toArray parts=some us'.toArray∧bs w F cs' us'∧cs'.all D.single=true
 | [],ps,xs,cs,cs',us,hp,hx,hs,hr,h=>by
  cases ps<;>simp at hp;cases xs with
  | cons _ _=>exact hx.elim
  | nil =>
   simp [pI] at h;subst h;exact⟨us,rfl,hr,hs⟩
 | (i,v)::parts,ps,xs,cs,cs',us,hp,hx,hs,hr,h=>by
  cases ps with
  | nil=>simp at hp
  | cons p ps =>
  cases xs with
  | nil=>exact hx.elim
  | cons x xs =>
   obtain⟨off,n⟩:=p;simp only [JO,JM] at hp;simp only [pI] at h;split at h
   ·rename_i hc
    obtain⟨h1,h2,h3⟩:=hc;have hxr:aT w F x v:=hx.1.rep (by intro e;subst e;simp [D.cells,D.single] at h3);obtain⟨_,g2,g3⟩:=dK hxr (lR h3);obtain⟨p1,p2⟩:=qU hs g2 hr g3 off;have e1:=(ce _ _ g2 g3).1;have e2:=(ce _ _ hs hr).1;obtain⟨us',q1,q2,q3⟩:=AO place parts ps xs _ cs' _ hp.2 hx.2 p2 p1 h;refine⟨us',?_,q2,q3⟩
    simp only [Instr.fill,hp.1];have e3:v.cells.size=n:=by rw [←h1,←e1];simp
    rw [if_neg (by simp [e3];omega)];have hk:=uu v.cells.toList off 0 us (by rw [e1,h1];omega);simp only [Nat.add_zero] at hk;rw [←hk] at q1;rw [←q1];congr 1
    rw [←Array.foldl_toList];simp
   ·cases h
end
end Go.V

namespace Go.V
open Go.RowKit
set_option maxRecDepth 100000
def ah (δ:List D):List Nat→List D
 | []=>[]
 | s::ss=>nth δ s::ah δ ss
theorem dI {R:Type}:∀(δ:List D) (s:Nat) (k:D→R),eY δ s k=k (nth δ s)
 | [],_,_=>by simp [eY,nth]
 | _::_,0,_=>by simp [eY,nth]
 | _::l,s+1,k=>by simpa [eY,nth] using dI l s k
theorem yb {R:Type}:∀(δ:List D) (s:Nat) (d:D) (k:List D→R),Bb δ s d k=k (eJ δ s d)
 | [],_,_,_=>by simp [Bb,eJ]
 | _::_,0,_,_=>by simp [Bb,eJ]
 | _::l,s+1,d,k=>by simpa [Bb,eJ] using yb l s d _
theorem bG {R:Type} (δ:List D):∀(ss:List Nat) (k:List D→R),mI δ ss k=k (ah δ ss)
 | [],_=>by simp [mI,ah]
 | s::ss,k=>by simp only [mI,ah,dI];exact bG δ ss _
theorem cb {R:Type}:∀(δ:List D) (ss:List Nat) (ds:List D) (k:List D→R),dH δ ss ds k=k (ai δ ss ds)
 | _,[],_,_=>by simp [dH,ai]
 | δ,s::ss,[],k=>by simp only [dH,ai,yb];exact cb _ ss [] k
 | δ,s::ss,d::ds,k=>by simp only [dH,ai,yb];exact cb _ ss ds k
theorem jW {α:Type}:∀(a b:List α),app a b=a++b
 | [],_=>rfl
 | _::l,b=>by simp [app,jW l b]
theorem oo {α β:Type} (f:α→β):∀(l:List α),kT f l=l.map f
 | []=>rfl
 | _::l=>by simp [kT,oo f l]
theorem jz {α:Type}:∀(l:List α),iD l=l.length
 | []=>rfl
 | _::l=>by simp [iD,jz l]
theorem rj {α:Type}:∀(n:Nat) (l:List α),mC n l=l.drop n
 | 0,l=>by simp [mC]
 | n+1,[]=>by simp [mC]
 | n+1,_::l=>by simp [mC,rj n l]
theorem ga:∀(n:Nat) (l:List Nat),kY n l=decide (n∈l)
 | _,[]=>by simp [kY]
 | n,m::l=>by
  simp only [kY];cases h:JI n m
  ·have:n≠m:=fun e=>by subst e;simp at h
   simp [ga n l,this]
  ·have:n=m:=JX h
   simp [this]
theorem rc {α:Type}:∀(l:List α) (n:Nat),Au l n=l[n]?
 | [],_=>by simp [Au]
 | _::_,0=>by simp [Au]
 | _::l,n+1=>by simpa [Au] using rc l n
theorem eX:∀(l:List D) (n:Nat),nth l n=l.getD n .bad
 | [],_=>by simp [nth]
 | _::_,0=>by simp [nth]
 | _::l,n+1=>by simpa [nth] using eX l n
theorem fu:∀(δ:List D) (s:Nat) (d:D),(eJ δ s d).length=δ.length
 | [],_,_=>by simp [eJ]
 | _::_,0,_=>by simp [eJ]
 | _::l,s+1,d=>by simp [eJ,fu l s d]
theorem cN:∀(δ:List D) (ss:List Nat) (ds:List D),(ai δ ss ds).length=δ.length
 | _,[],_=>by simp [ai]
 | δ,s::ss,[]=>by simp [ai,cN _ ss,fu]
 | δ,s::ss,d::ds=>by simp [ai,cN _ ss,fu]
theorem cX:∀(δ:List D) (s i:Nat) (d:D),s≠i→nth (eJ δ i d) s=nth δ s
 | [],_,_,_,_=>by simp [eJ]
 | _::_,0,0,_,h=>absurd rfl h
 | _::_,_+1,0,_,_=>by simp [nth]
 | _::_,0,_+1,_,_=>by simp [nth]
 | _::l,s+1,i+1,d,h=>by simpa [eJ,nth] using cX l s i d (by omega)
theorem bL:∀(δ:List D) (s:Nat) (d:D),nth (eJ δ s d) s=if s<δ.length then d else .bad
 | [],_,_=>by simp [nth]
 | _::_,0,_=>by simp [nth]
 | _::l,s+1,d=>by simpa [eJ,nth] using bL l s d
theorem aq:∀(ss:List Nat) (δ:List D) (ds:List D) (s:Nat),s∉ss→nth (ai δ ss ds) s=nth δ s
 | [],_,_,_,_=>by simp [ai]
 | i::ss,δ,[],s,h=>by
  simp only [Kc,not_or] at h;simp only [ai];rw [aq ss _ _ s h.2,cX _ _ _ _ h.1]
 | i::ss,δ,d::ds,s,h=>by
  simp only [Kc,not_or] at h;simp only [ai];rw [aq ss _ _ s h.2,cX _ _ _ _ h.1]
theorem jf:∀(ss:List Nat) (δ:List D) (s:Nat),s∈ss→nth (ai δ ss []) s = .bad
 | i::ss,δ,s,h=>by
  simp only [ai];by_cases hs:s∈ss
  ·exact jf ss _ s hs
  ·rw [aq ss _ _ s hs]
   have:s=i:=by simpa [hs] using h
   subst this;rw [bL];split<;>rfl
theorem nF:∀(ss ts:List Nat) (δ:List D) (ds:List D),ds.length=ss.length→ai δ (ss++ts) ds=ai (ai δ ss ds) ts []
 | [],ts,δ,ds,h=>by
  have:ds=[]:=Kl h;subst this;simp [ai]
 | s::ss,ts,δ,d::ds,h=>by
  simp only [KJ,ai];exact nF ss ts _ ds (by simpa using h)
theorem gS:∀(ss:List Nat) (δ:List D) (s:Nat),nth (ai δ ss []) s=nth δ s∨nth (ai δ ss []) s = .bad:=by
 intro ss δ s;by_cases h:s∈ss
 ·exact .inr (jf ss δ s h)
 ·exact .inl (aq ss δ [] s h)
theorem uU {r:Nat}:∀(K:List Kd) (n s:Nat),(an K s = .via r∨an K s = .ref r)→n+s∈eh r K n
 | [],n,s,h=>by simp [an] at h
 | k::K,n,0,h=>by
  simp only [an] at h;rcases h with rfl | rfl<;>simp [eh]
 | k::K,n,s+1,h=>by
  have ih:=uU K (n+1) s (by simpa [an] using h);have e:n+(s+1)=n+1+s:=by omega
  rw [e];cases k<;>simp only [eh]<;>first
   | exact ih
   | (split<;>first | exact ih | exact KC _ ih)
theorem tc {K:List Kd} {r s:Nat} (h:an K s = .via r∨an K s = .ref r):∀(rs:List Nat),r∈rs→s∈br K rs
 | q::rs,hr=>by
  simp only [br,jW,Kt];rcases Kc.1 hr with rfl | hr
  ·exact .inl (by have:=uU K 0 s h;simpa using this)
  ·exact .inr (tc h rs hr)
theorem AB {r:Nat}:∀(K:List Kd) (n s:Nat),s∈eh r K n→n≤s∧(an K (s - n) = .via r∨an K (s - n) = .ref r)
 | [],n,s,h=>by simp [eh] at h
 | k::K,n,s,h=>by
  have ih:s∈eh r K (n+1)→n≤s∧(an (k::K) (s - n) = .via r∨an (k::K) (s - n) = .ref r):=by
   intro hm;obtain⟨h1,h2⟩:=AB K (n+1) s hm;have e:s - n=(s - (n+1))+1:=by omega
   rw [e];exact⟨by omega,by simpa [an] using h2⟩
  cases k<;>simp only [eh] at h<;>try exact ih h
  all_goals
   split at h
   ·rename_i hb
    have:=JX hb;subst this;rcases Kc.1 h with rfl | h
    ·simp [an]
    ·exact ih h
   ·exact ih h
theorem oh {K:List Kd} {r s:Nat} (h:s∈eh r K 0):an K s = .via r∨an K s = .ref r:=by simpa using (AB K 0 s h).2
theorem rz {K:List Kd} {s:Nat}:∀(rs:List Nat),s∈br K rs→∃r∈rs,an K s = .via r∨an K s = .ref r
 | [],h=>by simp [br] at h
 | r::rs,h=>by
  simp only [br,jW,Kt] at h;rcases h with h | h
  ·exact⟨r,by simp,oh h⟩
  ·obtain⟨q,hq,hk⟩:=rz rs h
   exact⟨q,by simp [hq],hk⟩
def dP (K:List Kd) (r:Nat):Prop :=
 match an K r with
 | .own _ _ _=>True
 | .box _ _ _=>True
 | _=>False
theorem Bp {K:List Kd} {r q:Nat} (h:dP K r):r∉eh q K 0:=by
 intro hm;rcases oh hm with e | e<;>simp [dP,e] at h
theorem wM {K:List Kd} {r:Nat} (h:dP K r) (rs:List Nat):r∉br K rs:=by
 intro hm;obtain⟨q,_,e⟩:=rz rs hm;rcases e with e | e<;>simp [dP,e] at h
theorem pY {K:List Kd} {r:Nat} (h:ku K r=true):dP K r:=by
 unfold ku at h;unfold dP;split at h<;>simp_all
def av (a:Act) (s:Nat):Value:=a.tmps.getD s undef
def FB (F:Nat→Prop) (B:Nat):Nat→Nat→Prop
 | 0,_=>False
 | 1,b=>F b∧B≤b
 | _,b=>F b
def bh (w:World) (F:Nat→Prop) (own:Nat→Prop) (z:Nat) (d:D) (y:Value):Prop :=
 ∃l,d = .arr z l∧(∀e∈l,e.width=z)∧((y = .slice none 0 0∧l=[]) ∨
  ∃g o c us cs e,y = .slice (some ⟨g,o,none⟩) l.length c∧l.length≤c∧w.heap[g]?=some (.cells cs e (0,0))∧o+c*z≤cs.size∧bs w F l us ∧
   (∀(i:Nat) (u:Value),us[i]?=some u→cs[o+i]?=some u)∧own g)
def sY (w:World) (F:Nat→Prop) (own:Nat→Prop) (n:Nat) (d:D) (y:Value):Prop :=
 ∃l us g e,d = .agg l∧y = .pointer (some ⟨g,0,none⟩)∧w.heap[g]?=some (.cells (List.toArray us) e (0,0))∧bs w F l us∧l.all D.single=true∧l.length=n∧own g
def mN (k:Kd) (y:Value) (i f:Nat) (p:Value):Prop :=
 match k with
 | .own z _ _=>∃g o n c,y = .slice (some ⟨g,o,none⟩) n c∧p = .pointer (some ⟨g,o+i*z+f,none⟩)
 | .box _ _ _=>∃g,y = .pointer (some ⟨g,0,none⟩)∧p = .pointer (some ⟨g,f,none⟩)
 | _=>False
theorem lK {K:List Kd} {r i f:Nat} {y p:Value} (h:mN (an K r) y i f p):dP K r:=by
 unfold mN at h;unfold dP;split at h<;>simp_all
def sn (B:Nat) (F:Nat→Prop) (O:Nat→Option (Nat × Nat)) (w:World) (id:Nat × Nat) (k:Kd) (d:D) (y:Value):Prop :=
 d = .bad∨match k with
  | .dat lv=>aT w (FB F B lv) d y
  | .own z lv io=>bh w (FB F B lv) (fun g=>O g=some id∧(io=false→B≤g)) z d y
  | .box n lv io=>sY w (FB F B lv) (fun g=>O g=some id∧(io=false→B≤g)) n d y
  | _=>False
def sG (K:List Kd) (B:Nat) (F:Nat→Prop) (O:Nat→Option (Nat × Nat)) (a:Act) (w:World) (δ:List D) (s:Nat):Prop :=
 nth δ s = .bad∨match an K s with
  | .via r=>av a s=av a r∧nth δ s = .ref 0 0∧nth δ r ≠ .bad∧ku K r=true
  | .ref r=>∃i f,nth δ s = .ref i f∧nth δ r ≠ .bad∧mN (an K r) (av a r) i f (av a s)
  | .tup ms=>∃l vs,nth δ s = .tup l∧av a s = .tuple vs∧∀i,sn B F O w (s,i+1) (an ms i) (nth l i) (vs.getD i undef)
  | .no=>True
  | k=>sn B F O w (s,0) k (nth δ s) (av a s)
def gOk (G:List (Nat × (Obj→Prop))) (w:World) (F:Nat→Prop):Prop:=∀p∈G,F p.1∧∃o,w.heap[p.1]?=some o∧p.2 o
theorem As {G:List (Nat × (Obj→Prop))} {w w':World} {F F':Nat→Prop} (hF:∀b,F b→F' b) (hw:∀b,F b→w'.heap[b]?=w.heap[b]?) (h:gOk G w F):gOk G w' F':=fun p hp=>by
 obtain⟨h1,o,h2,h3⟩:=h p hp;exact⟨hF _ h1,o,(hw _ h1).trans h2,h3⟩
theorem oa {w:World} {F:Nat→Prop}:gOk [] w F:=fun p hp=>by cases hp
structure Inv (c:Cx) (B:Nat) (X:Nat→Prop) (w0:World) (F0 F:Nat→Prop) (O:Nat→Option (Nat × Nat)) (a:Act) (w:World) (δ:List D):Prop where
 la:a.tmps.size=c.K.length
 ld:δ.length=c.K.length
 df:a.defers=[]
 slot:∀s,sG c.K B F O a w δ s
 fl:∀b,F b→b<w.heap.size∧O b=none
 ol:∀b p,O b=some p→b<w.heap.size∧(B≤b∨X b)
 f0:∀b,F0 b→F b
 fn:∀b,F b→F0 b∨B≤b
 bb:B≤w.heap.size
 os:w.os=w0.os
 tape:w.tape=w0.tape
 output:w.output=w0.output
 keep:∀b,b<B→¬X b→w.heap[b]?=w0.heap[b]?
 gl:gOk c.G w F
theorem iL {F F':Nat→Prop} {B lv:Nat} (h:∀b,F b→F' b):∀b,FB F B lv b→FB F' B lv b:=by
 intro b hb;unfold FB at *;split at hb<;>simp_all
theorem dO {F:Nat→Prop} {B lv:Nat}:∀b,FB F B lv b→F b:=by
 intro b hb;unfold FB at *;split at hb<;>simp_all
theorem jo {F:Nat→Prop} {B lv lv':Nat} (h:lv≤lv'):∀b,FB F B lv b→FB F B lv' b:=by
 intro b hb
 match lv,lv',h with
 | 0,_,_=>exact hb.elim
 | 1,1,_=>exact hb
 | 1,n+2,_=>exact hb.1
 | m+2,n+2,_=>exact hb
theorem Di {w w':World} {F F':Nat→Prop} {own own':Nat→Prop} {z:Nat} {d:D} {y:Value} (hF:∀b,F b→F' b) (hw:∀b,F b→w'.heap[b]?=w.heap[b]?)
  (ho:∀g,own g→own' g∧w'.heap[g]?=w.heap[g]?) (h:bh w F own z d y):bh w' F' own' z d y:=by
 obtain⟨l,h1,h2,h3⟩:=h;refine⟨l,h1,h2,?_⟩
 rcases h3 with h3 | ⟨g,o,c,us,cs,e,a1,a2,a3,a4,a5,a6,a7⟩
 ·exact .inl h3
 ·exact .inr ⟨g,o,c,us,cs,e,a1,a2,(ho g a7).2.trans a3,a4,aX hF hw _ _ a5,a6,(ho g a7).1⟩
theorem sw {w w':World} {F F':Nat→Prop} {own own':Nat→Prop} {n:Nat} {d:D} {y:Value} (hF:∀b,F b→F' b) (hw:∀b,F b→w'.heap[b]?=w.heap[b]?)
  (ho:∀g,own g→own' g∧w'.heap[g]?=w.heap[g]?) (h:sY w F own n d y):sY w' F' own' n d y:=by
 obtain⟨l,us,g,e,a1,a2,a3,a4,a5,a6,a7⟩:=h;exact⟨l,us,g,e,a1,a2,(ho g a7).2.trans a3,aX hF hw _ _ a4,a5,a6,(ho g a7).1⟩
theorem sO {B:Nat} {w w':World} {F F':Nat→Prop} {O O':Nat→Option (Nat × Nat)} {id id':Nat × Nat} {k:Kd} {d:D} {y:Value} (hF:∀b,F b→F' b) (hw:∀b,F b→w'.heap[b]?=w.heap[b]?)
  (ho:∀g,O g=some id→O' g=some id'∧w'.heap[g]?=w.heap[g]?) (h:sn B F O w id k d y):sn B F' O' w' id' k d y:=by
 rcases h with h | h
 ·exact .inl h
 ·refine .inr ?_
  cases k
  case dat lv=>exact aQ (iL hF) (fun b hb=>hw b (dO b hb)) h
  case own z lv io=>exact Di (iL hF) (fun b hb=>hw b (dO b hb)) (fun g hg=>⟨⟨(ho g hg.1).1,hg.2⟩,(ho g hg.1).2⟩) h
  case box n lv io=>exact sw (iL hF) (fun b hb=>hw b (dO b hb)) (fun g hg=>⟨⟨(ho g hg.1).1,hg.2⟩,(ho g hg.1).2⟩) h
  all_goals exact h
theorem Inv.step {c:Cx} {B:Nat} {X:Nat→Prop} {w0:World} {F0 F F':Nat→Prop} {O O':Nat→Option (Nat × Nat)} {a a':Act} {w w':World} {δ δ':List D}
  (h:Inv c B X w0 F0 F O a w δ) (U:Nat→Prop) (la:a'.tmps.size=a.tmps.size) (ld:δ'.length=δ.length) (df:a'.defers=a.defers)
  (hs:∀s,¬U s→av a' s=av a s∧(nth δ' s=nth δ s∨nth δ' s = .bad))
  (hF:∀b,F b→F' b) (hw:∀b,F b→w'.heap[b]?=w.heap[b]?)
  (ho:∀b p,O b=some p→¬U p.1→O' b=some p∧w'.heap[b]?=w.heap[b]?)
  (hd:∀s r,¬U s→(an c.K s = .via r∨an c.K s = .ref r)→nth δ' s ≠ .bad→av a' r=av a r∧nth δ' r ≠ .bad)
  (hU:∀s,U s→sG c.K B F' O' a' w' δ' s)
  (fl:∀b,F' b→b<w'.heap.size∧O' b=none) (ol:∀b p,O' b=some p→b<w'.heap.size∧(B≤b∨X b)) (fn:∀b,F' b→F b∨B≤b) (sz:w.heap.size≤w'.heap.size)
  (os:w'.os=w.os) (tape:w'.tape=w.tape) (output:w'.output=w.output) (keep:∀b,b<B→¬X b→w'.heap[b]?=w.heap[b]?):Inv c B X w0 F0 F' O' a' w' δ':=by
 refine⟨la.trans h.la,ld.trans h.ld,df.trans h.df,fun s=>?_,fl,ol,fun b hb=>hF b (h.f0 b hb),fun b hb=>?_,Nat.le_trans h.bb sz,os.trans h.os,tape.trans h.tape,output.trans h.output,fun b h1 h2=>(keep b h1 h2).trans (h.keep b h1 h2),As hF hw h.gl⟩
 ·by_cases hu:U s
  ·exact hU s hu
  ·obtain⟨e1,e2⟩:=hs s hu
   rcases e2 with e2 | e2
   case inr=>exact .inl e2
   by_cases hb:nth δ s = .bad
   ·exact .inl (e2.trans hb)
   have hb':nth δ' s ≠ .bad:=by rw [e2];exact hb
   have h0:=(h.slot s).resolve_left hb;refine .inr ?_
   have lone:∀(k:Kd) (i:Nat) (d:D) (y:Value),sn B F O w (s,i) k d y→sn B F' O' w' (s,i) k d y:=fun k i d y hl=>sO hF hw (fun g hg=>ho g _ hg hu) hl
   have hdd:=hd s;rw [e1,e2];generalize hk:an c.K s=k at h0 hdd;cases k
   case via r =>
    obtain⟨b1,b2,b3,b4⟩:=h0;obtain⟨d1,d2⟩:=hdd r hu (.inl rfl) hb';exact⟨b1.trans d1.symm,b2,d2,b4⟩
   case ref r =>
    obtain⟨i,f,b1,b2,b3⟩:=h0;obtain⟨d1,d2⟩:=hdd r hu (.inr rfl) hb';exact⟨i,f,b1,d2,by rw [d1];exact b3⟩
   case tup ms =>
    obtain⟨l,vs,b1,b2,b3⟩:=h0;exact⟨l,vs,b1,b2,fun i=>lone _ _ _ _ (b3 i)⟩
   case no=>trivial
   all_goals exact lone _ _ _ _ h0
 ·rcases fn b hb with hb | hb
  ·exact h.fn b hb
  ·exact .inr hb
theorem El {a:Act} {d s:Nat} {v:Value}:av (a.put (some d) v) s=if s=d∧d<a.tmps.size then v else av a s:=by
 simp only [av,Act.put,Array.getD_eq_getD_getElem?,Array.getElem?_setIfInBounds];by_cases hs:d=s
 ·subst hs
  by_cases hd:d<a.tmps.size
  ·simp [hd]
  ·simp [hd]
 ·simp [hs,Ne.symm hs]
theorem cA {a:Act} {d s:Nat} {v:Value} (h:s≠d):av (a.put (some d) v) s=av a s:=by rw [El,if_neg (by simp [h])]
theorem dW {a:Act} {d:Nat} {v:Value} (h:d<a.tmps.size):av (a.put (some d) v) d=v:=by rw [El,if_pos ⟨rfl,h⟩]
theorem gZ {a:Act} {d:Nat} {v:Value}:(a.put (some d) v).tmps.size=a.tmps.size:=by simp [Act.put]
theorem Inv.root {c:Cx} {B:Nat} {X:Nat→Prop} {w0:World} {F0 F:Nat→Prop} {O:Nat→Option (Nat × Nat)} {a:Act} {w:World} {δ:List D}
  (h:Inv c B X w0 F0 F O a w δ) {s r:Nat} (hv:an c.K s = .via r∨an c.K s = .ref r) (hb:nth δ s ≠ .bad):dP c.K r∧nth δ r ≠ .bad:=by
 have h0:=(h.slot s).resolve_left hb;rcases hv with hv | hv<;>rw [hv] at h0
 ·exact⟨pY h0.2.2.2,h0.2.2.1⟩
 ·obtain⟨_,_,_,h2,h3⟩:=h0
  exact⟨lK h3,h2⟩
def xj (K:List Kd) (B:Nat) (F:Nat→Prop) (a:Act) (w:World) (δ:List D) (d:Nat) (z:D) (y:Value):Prop :=
 z = .bad∨match an K d with
  | .dat lv=>aT w (FB F B lv) z y
  | .via r=>y=av a r∧z = .ref 0 0∧nth δ r ≠ .bad∧ku K r=true
  | .ref r=>∃i f,z = .ref i f∧nth δ r ≠ .bad∧mN (an K r) (av a r) i f y
  | .no=>True
  | _=>False
theorem Inv.put {c:Cx} {B:Nat} {X:Nat→Prop} {w0:World} {F0 F:Nat→Prop} {O:Nat→Option (Nat × Nat)} {a:Act} {w:World} {δ:List D}
  (h:Inv c B X w0 F0 F O a w δ) {d:Nat} {z:D} {y:Value} (hk:xj c.K B F a w δ d z y) :
  Inv c B X w0 F0 F O (a.put (some d) y) w (ai δ (d::eh d c.K 0) [z]):=by
 have e0:ai δ (d::eh d c.K 0) [z]=ai (eJ δ d z) (eh d c.K 0) []:=by simp [ai]
 rw [e0];have keepr:∀r,dP c.K r→r≠d→nth (ai (eJ δ d z) (eh d c.K 0) []) r=nth δ r:=fun r hr hd=>by
  rw [aq _ _ _ _ (Bp hr),cX _ _ _ _ hd]
 refine h.step (fun s=>s=d) gZ (by rw [cN,fu]) rfl (fun s hs=>⟨cA hs,?_⟩) (fun _ hb=>hb) (fun _ _=>rfl) (fun _ _ h _=>⟨h,rfl⟩) (fun s r hs hv hb=>?_) (fun s hs=>?_) h.fl h.ol (fun _ hb=>.inl hb) (Kn _) rfl rfl rfl (fun _ _ _=>rfl)
 ·rcases gS (eh d c.K 0) (eJ δ d z) s with e | e
  ·exact .inl (e.trans (cX _ _ _ _ hs))
  ·exact .inr e
 ·by_cases hr:r=d
  ·subst hr
   exact absurd (jf _ _ _ (by have:=uU c.K 0 s hv;simpa using this)) hb
  ·refine⟨cA hr,?_⟩
   have hs':s∉eh d c.K 0:=fun hm=>hb (jf _ _ _ hm)
   rw [aq _ _ _ _ hs',cX _ _ _ _ hs] at hb;obtain⟨h1,h2⟩:=h.root hv hb;rw [keepr r h1 hr];exact h2
 ·subst hs
  by_cases hdl:s<c.K.length
  case neg =>
   refine .inl ?_
   rcases gS (eh s c.K 0) (eJ δ s z) s with e | e
   ·rw [e,bL,if_neg (by rw [h.ld];exact hdl)]
   ·exact e
  have hav:av (a.put (some s) y) s=y:=dW (by rw [h.la];exact hdl);rcases gS (eh s c.K 0) (eJ δ s z) s with e | e
  case inr=>exact .inl e
  have ez:nth (ai (eJ δ s z) (eh s c.K 0) []) s=z:=by rw [e,bL,if_pos (by rw [h.ld];exact hdl)]
  rcases hk with hk | hk
  ·exact .inl (ez.trans hk)
  ·refine .inr ?_
   rw [ez,hav];generalize hks:an c.K s=k at hk;have hne:∀r,dP c.K r→(∀z lv io,k ≠ .own z lv io)→(∀n lv io,k ≠ .box n lv io)→r≠s:=by
    intro r hr h1 h2 e;subst e;unfold dP at hr;rw [hks] at hr;cases k
    case own z lv io=>exact h1 _ _ _ rfl
    case box n lv io=>exact h2 _ _ _ rfl
    all_goals exact hr
   cases k
   case dat lv=>exact .inr hk
   case via r =>
    obtain⟨b1,b2,b3,b4⟩:=hk;have hr:=hne r (pY b4) (by intros;simp) (by intros;simp);exact⟨by rw [cA hr];exact b1,b2,by rw [keepr r (pY b4) hr];exact b3,b4⟩
   case ref r =>
    obtain⟨i,f,b1,b2,b3⟩:=hk;have hr:=hne r (lK b3) (by intros;simp) (by intros;simp);exact⟨i,f,b1,by rw [keepr r (lK b3) hr];exact b2,by rw [cA hr];exact b3⟩
   case no=>trivial
   all_goals exact hk.elim
theorem Inv.forget {c:Cx} {B:Nat} {X:Nat→Prop} {w0:World} {F0 F:Nat→Prop} {O:Nat→Option (Nat × Nat)} {a:Act} {w:World} {δ δ':List D}
  (h:Inv c B X w0 F0 F O a w δ) (hl:δ'.length=δ.length) (hs:∀s,nth δ' s=nth δ s∨nth δ' s = .bad) (hr:∀s r,(an c.K s = .via r∨an c.K s = .ref r)→nth δ' s ≠ .bad→nth δ' r ≠ .bad):Inv c B X w0 F0 F O a w δ' :=
 h.step (fun _=>False) rfl hl rfl (fun s _=>⟨rfl,hs s⟩) (fun _ hb=>hb) (fun _ _=>rfl) (fun _ _ h _=>⟨h,rfl⟩) (fun s r _ hv hb=>⟨rfl,hr s r hv hb⟩) (fun _ h=>h.elim) h.fl h.ol (fun _ hb=>.inl hb) (Kn _) rfl rfl rfl (fun _ _ _=>rfl)
theorem Inv.dat {c:Cx} {B:Nat} {X:Nat→Prop} {w0:World} {F0 F:Nat→Prop} {O:Nat→Option (Nat × Nat)} {a:Act} {w:World} {δ:List D}
  (h:Inv c B X w0 F0 F O a w δ) {s lv:Nat} (hk:an c.K s = .dat lv):bY w (FB F B lv) (nth δ s) (av a s):=by
 rcases h.slot s with hb | h0
 ·exact .inl hb
 ·rw [hk] at h0
  exact h0
set_option maxRecDepth 100000
def dq (c:Cx) (A:Ac) (δ:List D) (k:List D→Option Out):Option Out :=
 match A with
 | .one rd d h=>(h (ah δ rd)).bind fun z=>k (ai δ (d::eh d c.K 0) [z])
 | .many rd hw cw fn=>fn (ah δ rd) fun outs=>k (ai δ (hw++(cw++br c.K hw)) outs)
def Next (c:Cx) (B:Nat) (X:Nat→Prop) (w0:World) (F0:Nat→Prop) (k:List D→Option Out) (r:Out) (a:Act) (w:World):Prop :=
 ∃F O δ,Inv c B X w0 F0 F O a w δ∧k δ=some r
section
variable {P:Program} {c:Cx} {B:Nat} {X:Nat→Prop} {w0:World} {F0 F:Nat→Prop} {O:Nat→Option (Nat × Nat)} {a:Act} {w:World} {δ:List D}
theorem cn:∀(xs:List Operand),dr xs (ah δ (lG xs))=xs.map (opD δ)
 | []=>rfl
 | .tmp t::xs=>by simp [dr,ah,opD,cn xs]
 | .const v::xs=>by simp [dr,lG,opD,cn xs]
 | .func f::xs=>by simp [dr,lG,opD,cn xs]
 | .global g::xs=>by simp [dr,lG,opD,cn xs]
theorem uh (a b:Nat):DR a b=max a b:=by
 unfold DR;cases h:JN a b
 ·have:¬a≤b:=fun hl=>by rw [Nat.ble_eq_true_of_le hl] at h;cases h
  simp only;omega
 ·have:=Nat.le_of_ble_eq_true h
  simp only;omega
theorem bI {a b:Nat}:JN a b=true↔a≤b:=⟨Nat.le_of_ble_eq_true,Nat.ble_eq_true_of_le⟩
theorem aL {a b:Nat}:JI a b=true↔a=b:=⟨JX,fun h=>by subst h;simp⟩
theorem jP {K:List Kd} {n:Nat}:∀{xs:List Operand},jt K xs≤n→∀x∈xs,dA K x≤n
 | [],_,x,hx=>by simp at hx
 | y::ys,h,x,hx=>by
  simp only [jt,uh] at h;rcases Kc.1 hx with rfl | hx
  ·omega
  ·exact jP (by omega) x hx
theorem cv (a:Act) (t:Nat):a.eval (.tmp t)=av a t:=rfl
theorem Inv.opd (h:Inv c B X w0 F0 F O a w δ) {x:Operand} (hx:dA c.K x≤2):bY w (FB F B (dA c.K x)) (opD δ x) (a.eval x):=by
 cases x with
 | tmp t =>
  simp only [dA] at hx ⊢;split at hx
  ·rename_i lv hk
   exact h.dat hk
  ·omega
 | const v =>
  simp only [dA] at hx ⊢;split at hx
  case h_2=>omega
  rename_i hv;refine .inr ?_
  simp only [opD,Act.eval];unfold okC at hv;split at hv<;>first
   | (cases hv;done)
   | exact uJ
   | exact gx rfl
 | func f =>
  refine .inr ?_
  simp only [Act.eval,aT,RepC];exact⟨[],rfl,aJ.2 rfl⟩
 | global g=>simp only [dA] at hx;omega
theorem AV {o:Oper} {y:Value} {K:Act→World→Prop} {Q:Exit→Act→World→Prop} {w':World} (hr:(execOp a.eval o).run P w = .ok (.value y) w') (hK:K (a.put o.dst y) w'):o.wp P a w K Q:=by
 unfold Oper.wp;rw [hr];exact hK
theorem Fc {o:Oper} {K:Act→World→Prop} {Q:Exit→Act→World→Prop} {w':World} (hr:(execOp a.eval o).run P w = .ok .skip w') (hK:K (a.put o.dst undef) w'):o.wp P a w K Q:=by
 unfold Oper.wp;rw [hr];exact hK
theorem cf {o:Oper} {rd:List Nat} {d:Nat} {h:List D→Option D} (hI:Inv c B X w0 F0 F O a w δ) (hd:o.dst=some d) {k:List D→Option Out} {r:Out} (hg:dq c (.one rd d h) δ k=some r)
  (hrun:∀z,h (ah δ rd)=some z→∃y,(execOp a.eval o).run P w = .ok (.value y) w∧xj c.K B F a w δ d z y) (Q:Exit→Act→World→Prop):o.wp P a w (Next c B X w0 F0 k r) Q:=by
 simp only [dq] at hg;obtain⟨z,hz,hk⟩:=JU.1 hg;obtain⟨y,hy,hp⟩:=hrun z hz;exact AV hy ⟨F,O,_,by rw [hd];exact hI.put hp,hk⟩
theorem fv {lv lv':Nat} (hl:lv≤lv') {z:D} {y:Value} (h:bY w (FB F B lv) z y):bY w (FB F B lv') z y:=h.imp id fun h=>aQ (jo hl) (fun _ _=>rfl) h
theorem bg {o:Oper} {xs:List Operand} {lv:Nat} {h:List D→Option D} {A:Ac} (hA:bD c o.dst xs lv h=some A) (hI:Inv c B X w0 F0 F O a w δ) {k:List D→Option Out} {r:Out} (hg:dq c A δ k=some r)
  (hrun:(∀x∈xs,dA c.K x≤2∧bY w (FB F B (dA c.K x)) (opD δ x) (a.eval x))→∀z,h (xs.map (opD δ))=some z→∃y,(execOp a.eval o).run P w = .ok (.value y) w∧bY w (FB F B lv) z y) (Q:Exit→Act→World→Prop):o.wp P a w (Next c B X w0 F0 k r) Q:=by
 unfold bD at hA;split at hA
 ·cases hA
 rename_i d hd;split at hA
 case h_2=>cases hA
 rename_i l hk;split at hA
 ·cases hA
 rename_i hlv;rw [bI] at hlv;have hops:∀x∈xs,dA c.K x≤2∧bY w (FB F B (dA c.K x)) (opD δ x) (a.eval x):=fun x hx=>⟨jP hlv x hx,hI.opd (jP hlv x hx)⟩
 have putOk:∀z y,bY w (FB F B l) z y→xj c.K B F a w δ d z y:=fun z y hz=>hz.imp id fun hz=>by rw [hk];exact hz
 split at hA
 ·rename_i hle
  rw [bI] at hle;cases hA;refine cf hI hd hg (fun z hz=>?_) Q
  rw [cn] at hz;obtain⟨y,h1,h2⟩:=hrun hops z hz;exact⟨y,h1,putOk z y (fv hle h2)⟩
 ·split at hA
  case h_2=>cases hA
  cases hA;refine cf hI hd hg (fun z hz=>?_) Q
  rw [cn] at hz;obtain⟨z',hz',hc⟩:=JU.1 hz;obtain⟨y,h1,h2⟩:=hrun hops z' hz';unfold aV at hc;split at hc
  case isFalse=>cases hc
  rename_i hv;cases hc;refine⟨y,h1,putOk z y (.inr (lL hv (h2.rep ?_)))⟩
  intro e;subst e;simp [D.isV] at hv
theorem dg {o:Oper} {s:Sem Value} {y:Value} {w':World} (he:execOp a.eval o=(do pure (.value (←s)))) (hs:s.run P w = .ok y w'):(execOp a.eval o).run P w = .ok (.value y) w':=by
 rw [he];simp [hs]
theorem iN {v:Value} (h:flat v=true) {G:Nat→Prop} {z:D} (hz:z = .v v):bY w G z v:=.inr (hz ▸ gx h)
theorem bB {h:D→Option D} {l:List D} {z:D} (e:fg h l=some z):∃a,l=[a]∧h a=some z:=by
 unfold fg at e;split at e
 ·exact⟨_,rfl,e⟩
 ·cases e
theorem gm {h:D→D→Option D} {l:List D} {z:D} (e:tX h l=some z):∃a b,l=[a,b]∧h a b=some z:=by
 unfold tX at e;split at e
 ·exact⟨_,_,rfl,e⟩
 ·cases e
theorem xB {h:D→D→D→Option D} {l:List D} {z:D} (e:Gk h l=some z):∃a b x,l=[a,b,x]∧h a b x=some z:=by
 unfold Gk at e;split at e
 ·exact⟨_,_,_,rfl,e⟩
 ·cases e
def gN (P:Program) (c:Cx) (o:Oper):Prop :=
 ∀(A:Ac),cj c o=some A→∀(B:Nat) (X:Nat→Prop) (w0:World) (F0 F:Nat→Prop) (O:Nat→Option (Nat × Nat)) (a:Act) (w:World) (δ:List D),Inv c B X w0 F0 F O a w δ →
  ∀(k:List D→Option Out) (r:Out),dq c A δ k=some r→∀Q,o.wp P a w (Next c B X w0 F0 k r) Q
theorem ay {t:Nat} {f:TI→Option Ac} {A:Ac} (h:ek c t f=some A):∃i,cR c.T t=some i∧f i=some A:=by
 unfold ek at h;split at h
 ·exact⟨_,‹_›,h⟩
 ·cases h
theorem tok (hT:okT P c.T=true) {t:Nat} {i:TI} (h:cR c.T t=some i):TOk P t i:=uw (EY hT h)
theorem BI {o:Oper} {q x y:Operand} (ho:o.op = .pick q x y):gN P c o:=by
 intro A hA B X w0 F0 F O a w δ hI k r hg Q;simp only [cj,ho] at hA;refine bg hA hI hg (fun hx z hz=>?_) Q
 obtain⟨d1,d2,d3,e,hz⟩:=xB hz;simp only [JO,JS,JM,and_true] at e;obtain⟨rfl,rfl,rfl⟩:=e;have h1:=(hx q (by simp)).2;have h2:=(hx x (by simp)).2;have h3:=(hx y (by simp)).2;rw [uh];obtain⟨v,hv,hr⟩:=EB (P:=P) h1 (fv (Nat.le_max_left _ (dA c.K y)) h2) (fv (Nat.le_max_right (dA c.K x) _) h3) hz;refine⟨v,?_,hr⟩
 simp only [execOp,ho];simp only [JL,JQ] at hv ⊢;cases hb:(asBool (a.eval q)).run P w with
 | halt s t=>rw [hb] at hv;simp at hv
 | ok b w' =>
  rw [hb] at hv;simp only [JJ,Result.ok.injEq] at hv ⊢;exact⟨by rw [hv.1],hv.2⟩
theorem AM (hT:okT P c.T=true) {o:Oper} {op:BinOp} {t t':Nat} {x y:Operand} (ho:o.op = .binOp op t x y t'):gN P c o:=by
 intro A hA B X w0 F0 F O a w δ hI k r hg Q;simp only [cj,ho] at hA;obtain⟨i,hi,hA⟩:=ay hA;split at hA
 ·rename_i hif
  refine bg hA hI hg (fun hx z hz=>?_) Q
  obtain⟨d1,d2,e,hz⟩:=gm hz;simp only [JO,JS,JM,and_true] at e;obtain⟨rfl,rfl⟩:=e;obtain⟨v,hv,hr,hf⟩:=EH (P:=P) (tok hT hi) hif x y (fun hn=>by
   unfold DS at hn;split at hn
   ·exact⟨_,rfl⟩
   ·cases hn) (hx x (by simp)).2 (hx y (by simp)).2 hz
  exact⟨v,dg (by simp only [execOp,ho]) hv,iN hf hr⟩
 split at hA
 ·rename_i hsl hny
  refine bg hA hI hg (fun hx z hz=>?_) Q
  obtain⟨d1,d2,e,hz⟩:=gm hz;simp only [JO,JS,JM,and_true] at e;obtain⟨rfl,rfl⟩:=e;have ey:y = .const (.slice none 0 0):=by
   unfold FL at hny;split at hny
   ·rfl
   ·cases hny
  have ev:a.eval y = .slice none 0 0:=by rw [ey];rfl
  obtain⟨v,hv,hr,hf⟩:=Em (P:=P) (tok hT hi) hsl x y (hx x (by simp)).2 hz;rw [←ev] at hv;exact⟨v,dg (by simp only [execOp,ho]) hv,iN hf hr⟩
 refine bg hA hI hg (fun hx z hz=>?_) Q
 obtain⟨d1,d2,e,hz⟩:=gm hz;simp only [JO,JS,JM,and_true] at e;obtain⟨rfl,rfl⟩:=e;obtain⟨v,hv,hr,hf⟩:=GP (P:=P) (tok hT hi) x y (hx x (by simp)).2 (hx y (by simp)).2 hz;exact⟨v,dg (by simp only [execOp,ho]) hv,iN hf hr⟩
theorem AY {o:Oper} {op:UnOp} {t:Nat} {x:Operand} (ho:o.op = .unOp op t x):gN P c o:=by
 intro A hA B X w0 F0 F O a w δ hI k r hg Q;simp only [cj,ho] at hA;refine bg hA hI hg (fun hx z hz=>?_) Q
 obtain⟨d1,e,hz⟩:=bB hz;simp only [JO,JS,JM,and_true] at e;subst e;obtain⟨v,hv,hr,hf⟩:=HR (P:=P) (hx x (by simp)).2 hz;exact⟨v,dg (by simp only [execOp,ho]) hv,iN hf hr⟩
theorem mq {i ti:TI} {f off:Nat} (h:rh c i f=some (off,ti)):∃ty,i.fs[f]?=some (off,ty)∧cR c.T ty=some ti:=by
 unfold rh at h;split at h
 ·rename_i o ty hf
  split at h
  ·rename_i j hj
   simp at h;obtain⟨rfl,rfl⟩:=h;rw [rc] at hf;exact⟨ty,hf,hj⟩
  ·cases h
 ·cases h
theorem zP (hT:okT P c.T=true) {o:Oper} {t f:Nat} {x:Operand} (ho:o.op = .field t x f):gN P c o:=by
 intro A hA B X w0 F0 F O a w δ hI k r hg Q;simp only [cj,ho] at hA;obtain⟨i,hi,hA⟩:=ay hA;split at hA
 case h_2=>cases hA
 rename_i off ti hf;obtain⟨ty,hf,hti⟩:=mq hf;refine bg hA hI hg (fun hx z hz=>?_) Q
 obtain⟨d1,e,hz⟩:=bB hz;simp only [JO,JS,JM,and_true] at e;subst e;obtain⟨y,hy,hr⟩:=Ge (tok hT hi) (tok hT hti) hf (hx x (by simp)).2 hz;exact⟨y,dg (by simp only [execOp,ho]) hy,.inr hr⟩
theorem yQ (hT:okT P c.T=true) {o:Oper} {t:Nat} {x y:Operand} (ho:o.op = .index t x y):gN P c o:=by
 intro A hA B X w0 F0 F O a w δ hI k r hg Q;simp only [cj,ho] at hA;obtain⟨i,hi,hA⟩:=ay hA;unfold Gi at hA;split at hA
 ·rename_i hs
  refine bg hA hI hg (fun hx z hz=>?_) Q
  obtain⟨d1,d2,e,hz⟩:=gm hz;simp only [JO,JS,JM,and_true] at e;obtain⟨rfl,rfl⟩:=e;obtain⟨v,hv,hr,hf⟩:=EX (P:=P) (tok hT hi) hs (hx x (by simp)).2 (hx y (by simp)).2 hz;exact⟨v,dg (by simp only [execOp,ho]) hv,iN hf hr⟩
 ·split at hA
  ·cases hA
  ·rename_i n hn
   obtain⟨e',he,hA⟩:=ay hA;refine bg hA hI hg (fun hx z hz=>?_) Q
   obtain⟨d1,d2,e,hz⟩:=gm hz;simp only [JO,JS,JM,and_true] at e;obtain⟨rfl,rfl⟩:=e;obtain⟨v,hv,hr⟩:=GU (P:=P) (tok hT hi) (tok hT he) (by intro h0;exact hn h0) rfl (hx x (by simp)).2 (hx y (by simp)).2 hz;exact⟨v,dg (by simp only [execOp,ho]) hv,.inr hr⟩
theorem uD {o:Oper} {f:Nat} {u v:Array Operand} (ho:o.op = .makeFunc (.func f) u v):gN P c o:=by
 intro A hA B X w0 F0 F O a w δ hI k r hg Q;simp only [cj,ho] at hA;split at hA
 case h_3=>cases hA
 case h_2 =>
  rename_i x0 xs h1 h2;refine bg hA hI hg (fun hx z hz=>?_) Q
  have e1:u=#[]:=by simpa using h1
  subst e1;unfold Jj at hz;split at hz
  case isFalse=>cases hz
  rename_i hall;cases hz;refine⟨.func (.func f) #[] (v.map a.eval),dg (s:=Instr.makeFunc (.func f) #[] (v.map a.eval)) (by simp [execOp,ho]) rfl,.inr ?_⟩
  simp only [aT,RepC];refine⟨(x0::xs).map a.eval,?_,?_⟩
  ·have:v=(x0::xs).toArray:=by rw [←h2]
   rw [this];simp
  ·have key:∀ys:List Operand,(∀y∈ys,y∈x0::xs)→(ys.map (opD δ)).all D.single=true→bs w (FB F B (jt c.K (x0::xs))) (ys.map (opD δ)) (ys.map a.eval):=by
    intro ys;induction ys with
    | nil=>intro _ _;exact aJ.2 rfl
    | cons y ys ih =>
     intro hm hs;simp only [JO,Kj,JK] at hs;have h3:=(hx y (hm y (by simp))).2;have hne:opD δ y ≠ .bad:=fun e=>by rw [e] at hs;simp [D.single] at hs
     have h4:=h3.rep hne;rw [gB hs.1] at h4;exact aw.2 ⟨[a.eval y],ys.map a.eval,rfl,RepC_mono (jo (jP (Kn _) y (hm y (by simp)))) (fun _ _=>rfl) _ _ h4,ih (fun z hz=>hm z (by simp [hz])) hs.2⟩
   exact key (x0::xs) (fun _ h=>h) hall
 rename_i h1 h2;refine bg hA hI hg (fun hx z hz=>?_) Q
 simp at hz;subst hz;have e1:u=#[]:=by simpa using h1
 have e2:v=#[]:=by simpa using h2
 subst e1 e2;refine⟨.func (.func f) #[] #[],dg (s:=Instr.makeFunc (.func f) #[] #[]) (by simp [execOp,ho]) rfl,.inr ?_⟩
 simp only [aT,RepC];exact⟨[],rfl,aJ.2 rfl⟩
theorem se {K:List Kd} {t:Nat} {rd:List Nat} {lv:Nat} {r:Option Nat} (h:ka K (.tmp t)=some (rd,lv,r)) :
  (an K t = .dat lv∧rd=[t]∧r=none)∨(∃z io,an K t = .own z lv io∧rd=[t]∧r=some t)∨(∃q z io,an K t = .via q∧an K q = .own z lv io∧rd=[t,q]∧r=some q):=by
 simp only [ka] at h;split at h
 ·rename_i l hk
  simp at h;obtain⟨rfl,rfl,rfl⟩:=h;exact .inl ⟨hk,rfl,rfl⟩
 ·rename_i z l io hk
  simp at h;obtain⟨rfl,rfl,rfl⟩:=h;exact .inr (.inl ⟨z,io,hk,rfl,rfl⟩)
 ·rename_i q hk
  split at h
  ·rename_i z l io hq
   simp at h;obtain⟨rfl,rfl,rfl⟩:=h;exact .inr (.inr ⟨q,z,io,hk,hq,rfl,rfl⟩)
  ·cases h
 ·cases h
theorem jh {w:World} {F:Nat→Prop} {own:Nat→Prop} {z:Nat} {d:D} {y:Value} (h:bh w F own z d y):aT w (fun b=>F b∨own b) d y:=by
 obtain⟨l,rfl,h2,h3⟩:=h;simp only [aT,RepC];rcases h3 with ⟨rfl,rfl⟩ | ⟨g,o,c,us,cs,e,rfl,a2,a3,a4,a5,a6,a7⟩
 ·exact⟨none,0,[],rfl,Kn _,aJ.2 rfl,h2,fun h=>absurd rfl h⟩
 ·refine⟨_,c,us,rfl,a2,aX (fun b hb=>.inl hb) (fun _ _=>rfl) _ _ a5,h2,fun _=>⟨g,o,rfl,.inr a7,fun i u hu=>?_⟩⟩
  simp [World.cell?,a3,a6 i u hu]
theorem Inv.own (h:Inv c B X w0 F0 F O a w δ) {s z lv:Nat} {io:Bool} (hk:an c.K s = .own z lv io) (hb:nth δ s ≠ .bad):bh w (FB F B lv) (fun g=>O g=some (s,0)∧(io=false→B≤g)) z (nth δ s) (av a s):=by
 have h0:=(h.slot s).resolve_left hb;rw [hk] at h0;exact h0.resolve_left hb
theorem Inv.box (h:Inv c B X w0 F0 F O a w δ) {s n lv:Nat} {io:Bool} (hk:an c.K s = .box n lv io) (hb:nth δ s ≠ .bad):sY w (FB F B lv) (fun g=>O g=some (s,0)∧(io=false→B≤g)) n (nth δ s) (av a s):=by
 have h0:=(h.slot s).resolve_left hb;rw [hk] at h0;exact h0.resolve_left hb
theorem Inv.via (h:Inv c B X w0 F0 F O a w δ) {s q:Nat} (hk:an c.K s = .via q) (hb:nth δ s ≠ .bad):av a s=av a q∧nth δ s = .ref 0 0∧nth δ q ≠ .bad∧ku c.K q=true:=by
 have h0:=(h.slot s).resolve_left hb;rw [hk] at h0;exact h0
theorem Inv.ref (h:Inv c B X w0 F0 F O a w δ) {s q:Nat} (hk:an c.K s = .ref q) (hb:nth δ s ≠ .bad):∃i f,nth δ s = .ref i f∧nth δ q ≠ .bad∧mN (an c.K q) (av a q) i f (av a s):=by
 have h0:=(h.slot s).resolve_left hb;rw [hk] at h0;exact h0
theorem bC {p x y:D} (h:aa p x=some y):p ≠ .bad∧x=y:=by
 unfold aa at h;split at h
 ·cases h
 ·rename_i hp
  simp at h;exact⟨hp,h⟩
theorem EE {k:Kd} {y p:Value} {i f:Nat} (h:mN k y i f p):∃g o,p = .pointer (some ⟨g,o,none⟩):=by
 unfold mN at h;split at h
 ·obtain⟨g,o,n,cc,_,e⟩:=h;exact⟨g,_,e⟩
 ·obtain⟨g,_,e⟩:=h;exact⟨g,_,e⟩
 ·exact h.elim
theorem vA {o:Oper} {x:Operand} (ho:o.op = .nilCheck x):gN P c o:=by
 intro A hA B X w0 F0 F O a w δ hI k r hg Q;simp only [cj,ho] at hA;have dat:bD c o.dst [x] (dA c.K x) (fg EJ)=some A→o.wp P a w (Next c B X w0 F0 k r) Q:=by
  intro hA;refine bg hA hI hg (fun hx z hz=>?_) Q
  obtain⟨d1,e,hz⟩:=bB hz;simp only [JO,JS,JM,and_true] at e;subst e;obtain⟨h1,h2⟩:=FY (P:=P) (hx x (by simp)).2 hz o x a.eval ho rfl;exact⟨_,h1,.inr h2⟩
 have run:∀t g o',x = .tmp t→av a t = .pointer (some ⟨g,o',none⟩)→(execOp a.eval o).run P w = .ok (.value (av a t)) w:=by
  intro t g o' hx hv;subst hx;simp [execOp,ho,cv,hv]
 unfold GC at hA;split at hA
 ·rename_i t
  split at hA
  ·rename_i n lv io hk
   split at hA
   ·cases hA
   rename_i d hd;split at hA
   case h_2=>cases hA
   rename_i rr hkd;split at hA
   case h_2=>cases hA
   rename_i hrt;rw [aL] at hrt;subst hrt;cases hA;refine cf hI hd hg (fun z hz=>?_) Q
   obtain⟨d1,e,hz⟩:=bB hz;simp only [ah,JM,and_true] at e;subst e;obtain⟨h1,rfl⟩:=bC hz;obtain⟨m,us,g,e,_,a1,_⟩:=hI.box hk h1;refine⟨_,run _ g 0 rfl a1,.inr ?_⟩
   rw [hkd];refine⟨0,0,rfl,h1,?_⟩
   rw [hk];exact⟨g,a1,a1⟩
  ·rename_i rr hk
   split at hA
   ·cases hA
   rename_i d hd;split at hA
   case h_2=>cases hA
   rename_i r' hkd;split at hA
   case h_2=>cases hA
   rename_i hrt;rw [aL] at hrt;subst hrt;cases hA;refine cf hI hd hg (fun z hz=>?_) Q
   obtain⟨d1,e,hz⟩:=bB hz;simp only [ah,JM,and_true] at e;subst e;obtain⟨h1,rfl⟩:=bC hz;obtain⟨ii,ff,g1,g2,g3⟩:=hI.ref hk h1;obtain⟨g,o',e⟩:=EE g3;refine⟨_,run _ g o' rfl e,.inr ?_⟩
   rw [hkd];exact⟨ii,ff,g1,g2,g3⟩
  ·exact dat hA
 ·exact dat hA
theorem oH (hI:Inv c B X w0 F0 F O a w δ) {t:Nat} {rd:List Nat} {lv:Nat} {q:Option Nat} (h:ka c.K (.tmp t)=some (rd,lv,q)) {d:D}
  (hd:(match rd with
   | [_]=>some (nth (ah δ rd) 0)
   | _=>aa (nth (ah δ rd) 0) (nth (ah δ rd) 1))=some d):∃G,bY w G d (av a t):=by
 rcases se h with ⟨hk,rfl,rfl⟩ | ⟨z,io,hk,rfl,rfl⟩ | ⟨s,z,io,hk,hs,rfl,rfl⟩
 ·simp [ah,nth] at hd
  subst hd;exact⟨_,hI.dat hk⟩
 ·simp [ah,nth] at hd
  subst hd;by_cases hb:nth δ t = .bad
  ·exact⟨fun _=>True,.inl hb⟩
  ·exact⟨_,.inr (jh (hI.own hk hb))⟩
 ·simp only [ah,nth] at hd
  obtain⟨h1,rfl⟩:=bC hd;obtain⟨g1,g2,g3,g4⟩:=hI.via hk h1;rw [g1];exact⟨_,.inr (jh (hI.own hs g3))⟩
theorem uY (hT:okT P c.T=true) {o:Oper} {x:Operand} {t:Nat} {str:Bool} (ho:o.op = .call {callee:=.builtin .len,args:=#[x],argTypes:=#[t]}) {i:TI} (hi:cR c.T t=some i)
  (hs:str=false→jB i=true) (hs':str=true→i.str=true) {A:Ac} (hA:CY c o.dst str x=some A) (hI:Inv c B X w0 F0 F O a w δ) {k:List D→Option Out} {r:Out} (hg:dq c A δ k=some r) (Q:Exit→Act→World→Prop):o.wp P a w (Next c B X w0 F0 k r) Q:=by
 have run:∀(G:Nat→Prop) (d z:D),bY w G d (a.eval x)→lenD str d=some z→∃v,(execOp a.eval o).run P w = .ok (.value v) w∧z = .v v∧flat v=true:=by
  intro G d z hd hz;obtain⟨v,h1,h2,h3⟩:=FN (P:=P) (t:=t) (ty:=o.type) hd (fun h=>⟨_,(jC (tok hT hi) (hs h)).1⟩) (fun h=>((tok hT hi).str (hs' h)).1) hz;refine⟨v,?_,h2,h3⟩
  simp only [execOp,ho,resolve,invoke,builtin,JL,JQ,JJ,List.map_toArray,JO,JS,h1]
 have dat:∀A',bD c o.dst [x] 0 (fg (lenD str))=some A'→dq c A' δ k=some r→o.wp P a w (Next c B X w0 F0 k r) Q:=by
  intro A' hA' hg';refine bg hA' hI hg' (fun hx z hz=>?_) Q
  obtain⟨d1,e,hz⟩:=bB hz;simp only [JO,JS,JM,and_true] at e;subst e;obtain⟨v,h1,h2,h3⟩:=run _ _ z (hx x (by simp)).2 hz;exact⟨v,h1,iN h3 h2⟩
 unfold CY at hA;split at hA
 ·rename_i t'
  split at hA
  ·exact dat A hA hg
  ·split at hA
   case h_2=>cases hA
   rename_i d rd lv q hd hsrc;split at hA
   case h_2=>cases hA
   rename_i lv' hk;cases hA;refine cf hI hd hg (fun z hz=>?_) Q
   have key:∃G dd,bY w G dd (av a t')∧lenD str dd=some z:=by
    have hsrc':=hsrc;rcases se hsrc' with ⟨h1,rfl,rfl⟩ | ⟨_,_,h1,rfl,rfl⟩ | ⟨s,_,_,h1,h2,rfl,rfl⟩
    ·obtain⟨G,hG⟩:=oH hI hsrc (d:=nth δ t') (by simp [ah,nth])
     exact⟨G,_,hG,by simpa [ah,nth] using hz⟩
    ·obtain⟨G,hG⟩:=oH hI hsrc (d:=nth δ t') (by simp [ah,nth])
     exact⟨G,_,hG,by simpa [ah,nth] using hz⟩
    ·simp only [ah,nth] at hz
     obtain⟨dd,e1,e2⟩:=JU.1 hz;obtain⟨G,hG⟩:=oH hI hsrc (d:=dd) (by simpa [ah,nth] using e1);exact⟨G,dd,hG,e2⟩
   obtain⟨G,dd,h1,h2⟩:=key;obtain⟨v,e1,e2,e3⟩:=run G dd z h1 h2;exact⟨v,e1,(iN (G:=FB F B lv') e3 e2).imp id fun h=>by rw [hk];exact h⟩
 ·exact dat A hA hg
end
end Go.V

end
