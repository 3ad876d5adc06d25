/-
  A part of the proof: contracts and plain forms of functions beneath the statement, made small by a program (names shortened, what is not needed left out).
-/
import Derived.Test.YtjafgdefcggjcaaGreatDoorRows
import Derived.Test.YtjafgdefcggjcaaGreatDoorTie
import Derived.Test.YtjafgdefcggjcaaGreatDoorCards
import Derived.WalkKit
open Nat renaming beq → aiT, ble → aiY, eq_of_beq_eq_true → ai8, succ → ajf, le_refl → ajn, add_assoc → ajD, lt_or_ge → ajG, min_eq_left → ajL
open Go.Result renaming andThen_ok → aiU
open Bool renaming and_eq_true → aiV, not_eq_true' → ai2, false_eq_true → ajg
open Go.Sem renaming run_bind → aiW, run_pure → ai1
open List.cons renaming injEq → aiX
open List renaming map_cons → aiZ, map_nil → ai3, getElem?_eq_some_iff → ai4, mem_of_mem_take → ai6, length_take → aja, all_eq_true → ajb, mem_cons → ajd, drop_eq_nil_of_le → ajh, all_cons → ajj, mem_of_mem_drop → ajk, eq_nil_of_length_eq_zero → ajl, length_drop → ajr, nil_append → ajs, mem_append → ajt, take_of_length_le → ajw, take_append_drop → ajA, mem_cons_of_mem → ajC, getElem?_drop → ajF, cons_append → ajJ, length_cons → ajK, foldl_cons → ajM
open Option renaming map_eq_some_iff → ai0, bind_eq_some_iff → ai5
open Go.Op renaming equalIn → ai7, equal → ajc, maxDepth → aji, bytesLess → ajp, eqFields → ajx, intArith → ajy, stringOp → ajI
open Go.Addr renaming add_lit → ai9
open Go.Instr renaming indexAt → aje, sureAddr → ajm, loadAt → ajq, index → ajz, fieldAt → ajE, sliceAt → ajO
open Option.some renaming injEq → ajo
open UInt8 renaming ofNat → aju
open Go.Value renaming cells → ajv, int → ajN
open Go.World renaming cell?_of_block → ajB
open Go.Builtin renaming len_ → ajH, min2 → ajQ, max2 → ajR
open Go.Program renaming elem → ajP
set_option maxRecDepth 100000
set_option linter.unusedSimpArgs false
set_option linter.unusedVariables false
noncomputable section
namespace Go.V
inductive D where
 | v (x:Value)
 | arr (z:Nat) (l:List D)
 | agg (l:List D)
 | ptr (l:List D)
 | clo (f:Nat) (l:List D)
 | ifc
 | raw (x:Value)
 | tup (l:List D)
 | ref (i f:Nat)
 | bad
 deriving Inhabited
abbrev B (b:Bool):D:=.v (.bool b)
abbrev I (n:Int):D:=.v (.int .i64 n)
abbrev U (n:Int):D:=.v (.int .u8 n)
abbrev T (s:ByteArray):D:=.v (.string s)
inductive Out where
 | nrm (δ:List D)
 | ext (id:Nat) (δ:List D)
 | ret (rs us:List D)
structure TI where
 agg:Bool:=false
 n:Nat:=1
 zero:List D:=[]
 elem:Nat:=0
 ez:Nat:=0
 eb:Nat:=0
 fs:List (Nat × Nat):=[]
 alen:Nat:=0
 eq:List Nat:=[]
 ik:Option IntKind:=none
 str:Bool:=false
 bl:Bool:=false
 ifc:Bool:=false
inductive Kd where
 | dat (lv:Nat)
 | own (z lv:Nat) (io:Bool)
 | box (n lv:Nat) (io:Bool)
 | via (r:Nat)
 | ref (r:Nat)
 | tup (l:List Kd)
 | no
structure FS where
 pm:List Kd
 rm:List Kd
 f:List D→Option Out
structure Cx where
 K:List Kd
 T:List (Nat × TI)
 S:List (Nat × FS)
 H:List (Nat × (List Nat × List Nat)):=[]
 res:List ResultVar
 ios:List Nat:=[]
 G:List (Nat × (Obj→Prop)):=[]
 N:List Nat:=[]
 C:List (Nat × Nat):=[]
section small
@[reducible] def XQ {α:Type}:List α→Nat→Option α
 | [],_=>none
 | a::_,0=>some a
 | _::l,n+1=>XQ l n
@[reducible] def nth:List D→Nat→D
 | [],_=>.bad
 | a::_,0=>a
 | _::l,n+1=>nth l n
@[reducible] def aD:List Kd→Nat→Kd
 | [],_=>.no
 | a::_,0=>a
 | _::l,n+1=>aD l n
@[reducible] def js:List D→Nat→D→List D
 | [],_,_=>[]
 | _::l,0,b=>b::l
 | a::l,n+1,b=>a::js l n b
@[reducible] def en {α:Type}:List (Nat × α)→Nat→Option α
 | [],_=>none
 | (k,a)::l,n=>match aiT k n with
  | true=>some a
  | false=>en l n
@[reducible] def app {α:Type}:List α→List α→List α
 | [],b=>b
 | a::l,b=>a::app l b
@[reducible] def uV {α β:Type} (f:α→β):List α→List β
 | []=>[]
 | a::l=>f a::uV f l
@[reducible] def az:List D→List Nat→List D→List D
 | δ,[],_=>δ
 | δ,s::ss,[]=>az (js δ s .bad) ss []
 | δ,s::ss,d::ds=>az (js δ s d) ss ds
@[reducible] def iY {R:Type}:List D→Nat→(D→R)→R
 | [],_,k=>k .bad
 | a::_,0,k=>k a
 | _::l,n+1,k=>iY l n k
@[reducible] def Zw {R:Type}:List D→Nat→D→(List D→R)→R
 | [],_,_,k=>k []
 | _::l,0,b,k=>k (b::l)
 | a::l,n+1,b,k=>Zw l n b fun l'=>k (a::l')
@[reducible] def uT {R:Type} (δ:List D):List Nat→(List D→R)→R
 | [],k=>k []
 | s::ss,k=>iY δ s fun a=>uT δ ss fun l=>k (a::l)
@[reducible] def fe {R:Type}:List D→List Nat→List D→(List D→R)→R
 | δ,[],_,k=>k δ
 | δ,s::ss,[],k=>Zw δ s .bad fun δ=>fe δ ss [] k
 | δ,s::ss,d::ds,k=>Zw δ s d fun δ=>fe δ ss ds k
@[reducible] def oL:Nat→List Nat→Bool
 | _,[]=>false
 | n,m::l=>match aiT n m with
  | true=>true
  | false=>oL n l
end small
def D.cells:D→List D
 | .agg l=>l
 | d=>[d]
def D.single:D→Bool
 | .v _ | .arr .. | .ptr _ | .clo .. | .ifc | .raw _=>true
 | _=>false
def D.width (d:D):Nat:=d.cells.length
def D.isV:D→Bool
 | .v _=>true
 | .agg l=>l.all fun | .v _=>true | _=>false
 | _=>false
def flat:Value→Bool
 | .bool _ | .int .. | .string _ | .nilFunc | .nilIface | .pointer none=>true
 | .slice none 0 0=>true
 | _=>false
def mG (op:BinOp) (k:IntKind) (a b:Int):Option D :=
 match op with
 | .add=>some (.v (.int k (k.wrap (a+b))))
 | .sub=>some (.v (.int k (k.wrap (a - b))))
 | .mul=>some (.v (.int k (k.wrap (a*b))))
 | .quo=>if b=0 then none else some (.v (.int k (k.wrap (a.tdiv b))))
 | .rem=>if b=0 then none else some (.v (.int k (a.tmod b)))
 | .and | .or | .xor | .andNot=>some (.v (.int k (bits op k a b)))
 | .eql=>some (B (a==b))
 | .neq=>some (B (a != b))
 | .lss=>some (B (a<b))
 | .leq=>some (B (a≤b))
 | .gtr=>some (B (a>b))
 | .geq=>some (B (a≥b))
 | .shl | .shr=>none
def JX (op:BinOp) (a b:ByteArray):Option D :=
 match op with
 | .add=>if a.size+b.size≤1152921504606846976 then some (T (a++b)) else none
 | .eql=>some (B (a.toList==b.toList))
 | .neq=>some (B !(a.toList==b.toList))
 | .lss=>some (B (ajp a.toList b.toList))
 | .leq=>some (B (ajp a.toList b.toList||a.toList==b.toList))
 | .gtr=>some (B !(ajp a.toList b.toList||a.toList==b.toList))
 | .geq=>some (B !(ajp a.toList b.toList))
 | _=>none
def zP:List Nat→List D→List D→Option Bool
 | [],[],[]=>some true
 | 1::c,.v (.int k a)::l,.v (.int k' b)::m=>if k=k' then(zP c l m).map (a==b&&·) else none
 | 2::c,.v (.bool a)::l,.v (.bool b)::m=>(zP c l m).map (a==b&&·)
 | 3::c,.v (.string a)::l,.v (.string b)::m=>(zP c l m).map (a.toList==b.toList&&·)
 | _,_,_=>none
def bin (op:BinOp) (bl:Bool) (eq:List Nat) (x y:D):Option D :=
 match op,x,y with
 | .shl,.v (.int k a),.v (.int _ b)=>if 0≤b then some (.v (.int k (k.wrap (a*2 ^ min b.toNat k.bits)))) else none
 | .shr,.v (.int k a),.v (.int _ b)=>if 0≤b then some (.v (.int k (a.fdiv (2 ^ min b.toNat k.bits)))) else none
 | op,.v (.int k a),.v (.int k' b)=>if k=k' then mG op k a b else none
 | op,.v (.string a),.v (.string b)=>JX op a b
 | .eql,.v (.bool a),.v (.bool b)=>if bl then some (B (a==b)) else none
 | .neq,.v (.bool a),.v (.bool b)=>if bl then some (B !(a==b)) else none
 | .eql,.agg a,.agg b=>if eq=[] then none else(zP eq a b).map B
 | .neq,.agg a,.agg b=>if eq=[] then none else(zP eq a b).map fun q=>B !q
 | _,_,_=>none
def ZF (nc:Bool) (op:BinOp) (x y:D):Option D :=
 match op,x,y with
 | .eql,.ifc,.v .nilIface=>some (B false)
 | .neq,.ifc,.v .nilIface=>some (B true)
 | .eql,.v .nilIface,.v .nilIface=>if nc then some (B true) else none
 | .neq,.v .nilIface,.v .nilIface=>if nc then some (B false) else none
 | _,_,_=>none
def abG (op:BinOp) (x:D):Option D :=
 match op,x with
 | .eql,.v (.slice none 0 0)=>some (B true)
 | .neq,.v (.slice none 0 0)=>some (B false)
 | .eql,.arr _ (_::_)=>some (B false)
 | .neq,.arr _ (_::_)=>some (B true)
 | _,_=>none
def un (op:UnOp) (x:D):Option D :=
 match op,x with
 | .neg,.v (.int k n)=>some (.v (.int k (k.wrap (0 - n))))
 | .not,.v (.bool b)=>some (B !b)
 | _,_=>none
def aS (c a b:D):Option D :=
 match c with
 | .v (.bool true)=>some a
 | .v (.bool false)=>some b
 | _=>none
def lenD (str:Bool) (x:D):Option D :=
 match str,x with
 | false,.arr _ l=>some (I l.length)
 | true,.v (.string s)=>some (I s.size)
 | _,_=>none
def aq (z:Nat) (x i:D):Option (List D) :=
 match x,i with
 | .arr z' l,.v (.int _ n)=>if z'=z∧0≤n then(l[n.toNat]?).map D.cells else none
 | _,_=>none
def an (ag:Bool) (n:Nat) (l:List D):Option D :=
 if ag then(if n≤l.length then some (.agg (l.take n)) else none) else l.head?
def kA (x i:D):Option D :=
 match x,i with
 | .v (.string s),.v (.int _ n)=>if 0≤n then(s.data.toList[n.toNat]?).map fun b=>U b.toNat else none
 | _,_=>none
def dH (str:Bool) (z:Nat) (x lo hi:D):Option D :=
 match str,x,lo,hi with
 | false,.arr z' l,.v (.int _ a),.v (.int _ b)=>if z'=z∧0≤a∧a≤b∧b≤l.length then some (.arr z ((l.take b.toNat).drop a.toNat)) else none
 | true,.v (.string s),.v (.int _ a),.v (.int _ b)=>if 0≤a∧a≤b∧b≤s.size then some (T (s.extract a.toNat b.toNat)) else none
 | _,_,_,_=>none
def aM (d:D):Option D:=if d.isV then some d else none
def bB (z eb:Nat) (x y:D):Option D :=
 match x,y with
 | .arr a l,.arr b m=>if (a=z∨l=[])∧(b=z∨m=[])∧(l.length+m.length)*eb≤140737488355328∧l.length+m.length≤1152921504606846976 then some (.arr z (l++m)) else none
 | _,_=>none
abbrev Y:Kd:=.dat 0
abbrev Yb:Kd:=.dat 1
abbrev Yc:Kd:=.dat 2
abbrev Yo (z l:Nat):Kd:=.own z l false
abbrev Yr (r:Nat):Kd:=.ref r
end Go.V

namespace Go.V
inductive Ac where
 | one (rd:List Nat) (d:Nat) (h:List D→Option D)
 | many (rd hw cw:List Nat) (fn:List D→(List D→Option Out)→Option Out)
def ifD (c:D) (t e:Option Out):Option Out :=
 match c with
 | .v (.bool true)=>t
 | .v (.bool false)=>e
 | _=>none
def aj (v:D) (g:D) (pol:Bool) (r:Option D):Option D :=
 match g with
 | .v (.bool b)=>if b=pol then r else some v
 | .tup _=>some v
 | _=>none
def cQ (g:D) (pol:Bool) (r:Option Out) (alt:List D) (k:List D→Option Out):Option Out :=
 match g with
 | .v (.bool b)=>if b=pol then(match r with
  | some (.nrm l)=>k l
  | _=>none) else k alt
 | .tup _=>k alt
 | _=>none
def ac (r:Option Out) (k:List D→List D→Option Out):Option Out :=
 match r with
 | some (.ret rs us)=>k rs us
 | _=>none
def bf (ag:Bool) (n off:Nat) (d:D):Option D :=
 match d with
 | .agg l=>an ag n (l.drop off)
 | _=>none
def ldD (ag:Bool) (n:Nat) (d:D):Option D :=
 match d with
 | .ptr l=>an ag n l
 | _=>none
def lD (off:Nat) (d:D):Option D :=
 match d with
 | .ptr l=>some (.ptr (l.drop off))
 | _=>none
def atD (o r:D):Option (List D) :=
 match o,r with
 | .arr _ l,.ref i f=>(l[i]?).map fun d=>d.cells.drop f
 | .agg l,.ref _ f=>some (l.drop f)
 | _,_=>none
def D.ofCells (old:D) (cs:List D):D :=
 match old,cs with
 | .agg _,cs=>.agg cs
 | _,c::_=>c
 | d,[]=>d
def putCells (l:List D) (f:Nat) (vs:List D):List D:=l.take f++vs++l.drop (f+vs.length)
def stD (n:Nat) (o r x:D):Option D :=
 match o,r with
 | .arr z l,.ref i f=>match l[i]? with
  | some d=>if x.cells.length=n∧f+n≤d.width∧x.cells.all D.single then some (.arr z (l.set i (d.ofCells (putCells d.cells f x.cells)))) else none
  | none=>none
 | .agg l,.ref _ f=>if x.cells.length=n∧f+n≤l.length∧x.cells.all D.single then some (.agg (putCells l f x.cells)) else none
 | _,_=>none
def fd (z:Nat) (o i:D):Option D :=
 match o,i with
 | .arr z' l,.v (.int _ n)=>if z'=z∧0≤n∧n<l.length then some (.ref n.toNat 0) else none
 | _,_=>none
def aa (d:D) (x:D):Option D :=
 match d with
 | .bad=>none
 | _=>some x
def kx (z n:Nat) (l:List D):Bool:=l.all fun d=>d.width==z&&(d.single||(match d with | .agg c=>c.all D.single | _=>false))&&decide (l.length=n)
def aA (z:Nat) (l:List D):Option D:=if kx z l.length l then some (.arr z l) else none
def Nb (z eb:Nat) (x:D) (n c:D):Option D :=
 match n,c with
 | .v (.int _ a),.v (.int _ b)=>if 0≤a∧a≤b∧b*(eb:Int)≤140737488355328∧b≤140737488355328 then some (.arr z (List.replicate a.toNat x)) else none
 | _,_=>none
def gu (n:Nat) (x:D):Option D:=if x.cells.length=n∧x.cells.all D.single then some (.agg x.cells) else none
def aip (y:D):Option D :=
 match y with
 | .agg l=>some (.ptr l)
 | _=>none
def ahB (f:Nat) (ds:List D):Option D:=if ds.all D.single then some (.clo f ds) else none
def af4 (f n:Nat) (cl:D):Option (List D) :=
 match cl with
 | .clo g l=>if g=f∧l.length=n∧l.all D.single then some l else none
 | _=>none
def ao (t:D) (i:Nat):Option D :=
 match t with
 | .tup l=>match l[i]? with
  | some .bad=>none
  | some (.tup _)=>none
  | r=>r
 | _=>none
def dy (t:D) (i:Nat):D :=
 match t with
 | .tup l=>.tup (l.set i .bad)
 | d=>d
@[reducible] def Fr:Value→D
 | .slice _ _ _=>.arr 0 []
 | v=>.v v
@[reducible] def okC:Value→Bool
 | .slice none 0 0=>true
 | .bool _=>true
 | .int _ _=>true
 | .string _=>true
 | .nilFunc=>true
 | .nilIface=>true
 | .pointer none=>true
 | _=>false
@[reducible] def vD:List Operand→List Nat
 | []=>[]
 | .tmp t::xs=>t::vD xs
 | _::xs=>vD xs
@[reducible] def fZ:List Operand→List D→List D
 | [],_=>[]
 | .tmp _::xs,i::is=>i::fZ xs is
 | .tmp _::xs,[]=>.bad::fZ xs []
 | .const c::xs,is=>Fr c::fZ xs is
 | .func f::xs,is=>.clo f []::fZ xs is
 | .global _::xs,is=>.bad::fZ xs is
@[reducible] def opD (δ:List D):Operand→D
 | .tmp t=>nth δ t
 | .const c=>Fr c
 | .func f=>.clo f []
 | .global _=>.bad
@[reducible] def Rw (a b:Nat):Nat:=match aiY a b with
 | true=>b
 | false=>a
@[reducible] def gw (K:List Kd):Operand→Nat
 | .tmp t=>match aD K t with
  | .dat lv=>lv
  | _=>9
 | .const v=>match okC v with
  | true=>0
  | false=>9
 | .func _=>0
 | .global _=>9
@[reducible] def qW (K:List Kd):List Operand→Nat
 | []=>0
 | x::xs=>Rw (gw K x) (qW K xs)
@[reducible] def cP (c:Cx) (dst:Option Nat) (xs:List Operand) (lv:Nat) (h:List D→Option D):Option Ac :=
 match dst with
 | none=>none
 | some d=>match aD c.K d with
  | .dat l=>match aiY (qW c.K xs) 2 with
   | false=>none
   | true=>match aiY lv l with
    | true=>some (.one (vD xs) d fun is=>h (fZ xs is))
    | false=>match aiT l 0 with
     | true=>some (.one (vD xs) d fun is=>(h (fZ xs is)).bind aM)
     | false=>none
  | _=>none
@[reducible] def iL (c:Cx) (t:Nat) (f:TI→Option Ac):Option Ac:=match en c.T t with
 | some i=>f i
 | none=>none
@[reducible] def HC (c:Cx) (i:TI) (f:Nat):Option (Nat × TI):=match XQ i.fs f with
 | some (off,ty)=>match en c.T ty with
  | some j=>some (off,j)
  | none=>none
 | none=>none
@[reducible] def km (h:D→Option D):List D→Option D
 | [a]=>h a
 | _=>none
@[reducible] def Mm (h:D→D→Option D):List D→Option D
 | [a,b]=>h a b
 | _=>none
@[reducible] def afy (h:D→D→D→Option D):List D→Option D
 | [a,b,x]=>h a b x
 | _=>none
@[reducible] def iw (r:Nat):List Kd→Nat→List Nat
 | [],_=>[]
 | .via q::K,s=>match aiT q r with
  | true=>s::iw r K (ajf s)
  | false=>iw r K (ajf s)
 | .ref q::K,s=>match aiT q r with
  | true=>s::iw r K (ajf s)
  | false=>iw r K (ajf s)
 | _::K,s=>iw r K (ajf s)
@[reducible] def bu (K:List Kd):List Nat→List Nat
 | []=>[]
 | r::rs=>app (iw r K 0) (bu K rs)
def oz (ik:Option IntKind) (str:Bool) (x:D):Option D :=
 match ik,str,x with
 | some k,_,.v (.int _ n)=>some (.v (.int k (k.wrap n)))
 | none,true,.v (.string s)=>some (T s)
 | _,_,_=>none
def um:List D→Option (List UInt8)
 | []=>some []
 | .v (.int .u8 n)::l=>(um l).map (aju n.toNat::·)
 | _=>none
def Rs (x:D):Option D :=
 match x with
 | .arr _ l=>(um l).map fun b=>T ⟨b.toArray⟩
 | _=>none
def Wr (x y:D):Option D :=
 match x,y with
 | .v (.int k a),.v (.int _ b)=>some (.v (.int k (if b<a then b else a)))
 | _,_=>none
def Vr (x y:D):Option D :=
 match x,y with
 | .v (.int k a),.v (.int _ b)=>some (.v (.int k (if a<b then b else a)))
 | _,_=>none
def Pg (x:D):Option D :=
 match x with
 | .ptr l=>some (.ptr l)
 | .clo f l=>some (.clo f l)
 | _=>none
def aT (off:Nat) (r:D):Option D :=
 match r with
 | .ref i f=>some (.ref i (f+off))
 | _=>none
def cI (r x:D):Option D :=
 match r with
 | .ref 0 0=>some x
 | _=>none
def ixD (len z:Nat) (x i:D):Option D :=
 match x,i with
 | .ptr l,.v (.int _ n)=>if 0≤n∧n<len then some (.ptr (l.drop (n.toNat*z))) else none
 | _,_=>none
def ixA (ag:Bool) (len z:Nat) (x i:D):Option D :=
 match x,i with
 | .agg l,.v (.int _ n)=>if 0≤n∧n<len then an ag z (l.drop (n.toNat*z)) else none
 | _,_=>none
def WL (len z:Nat) (r i:D):Option D :=
 match r,i with
 | .ref j f,.v (.int _ n)=>if 0≤n∧n<len then some (.ref j (f+n.toNat*z)) else none
 | _,_=>none
def DJ:List (Nat × Nat)→List D→List D→Option (List D)
 | (off,n)::ps,x::xs,cs=>if x.cells.length=n∧off+n≤cs.length∧x.cells.all D.single then DJ ps xs (putCells cs off x.cells) else none
 | [],[],cs=>some cs
 | _,_,_=>none
def dp (ps:List (Nat × Nat)) (z:List D) (xs:List D):Option D:=(DJ ps xs z).map .agg
def cU (str:Bool) (z:Nat) (x lo:D):Option D :=
 match str,x,lo with
 | false,.arr z' l,.v (.int _ a)=>if z'=z∧0≤a∧a≤l.length then some (.arr z (l.drop a.toNat)) else none
 | true,.v (.string s),.v (.int _ a)=>if 0≤a∧a≤s.size then some (T (s.extract a.toNat s.size)) else none
 | _,_,_=>none
@[reducible] def Lh (e:TI):D :=
 match e.agg with
 | true=>.agg e.zero
 | false=>match e.zero with
  | v::_=>v
  | []=>.bad
@[reducible] def jE:List Kd→List Kd→Bool
 | [],[]=>true
 | .dat a::l,.dat b::m=>match aiT a b with
  | true=>jE l m
  | false=>false
 | .own z a false::l,.own y b false::m=>match aiT a b,aiT z y with
  | true,true=>jE l m
  | _,_=>false
 | _,_=>false
@[reducible] def Ws (c:Cx) (dst:Option Nat) (x:Operand) (ty:Nat):Option Ac :=
 match x with
 | .tmp t=>match aD c.K t with
  | .own z lv io=>match dst with
   | none=>none
   | some d=>match aD c.K d with
    | .via r=>match aiT r t with
     | true=>some (.one [t] d fun is=>(km fun x=>aa x (.ref 0 0)) is)
     | false=>none
    | .own z' lv' false=>match io,aiT z z',aiY lv lv' with
     | false,true,true=>some (.many [t] [d,t] [] fun is k=>iY is 0 fun x=>k [x,.bad])
     | _,_,_=>none
    | .dat lv'=>match io,aiY 1 lv',aiY lv lv' with
     | false,true,true=>some (.many [t] [d,t] [] fun is k=>iY is 0 fun x=>k [x,.bad])
     | _,_,_=>none
    | _=>none
  | .via r=>match dst with
   | none=>none
   | some d=>match aD c.K r with
    | .own z lv io=>match aD c.K d with
     | .via r'=>match aiT r r' with
      | true=>some (.one [t] d fun is=>(km fun x=>aa x (.ref 0 0)) is)
      | false=>none
     | .own z' lv' false=>match io,aiT z z',aiY lv lv' with
      | false,true,true=>some (.many [t,r] [d,r] [] fun is k=>iY is 0 fun p=>iY is 1 fun x=>(aa p x).bind fun y=>k [y,.bad])
      | _,_,_=>none
     | .dat lv'=>match io,aiY 1 lv',aiY lv lv' with
      | false,true,true=>some (.many [t,r] [d,r] [] fun is k=>iY is 0 fun p=>iY is 1 fun x=>(aa p x).bind fun y=>k [y,.bad])
      | _,_,_=>none
     | _=>none
    | _=>none
  | .box _ _ _=>match dst with
   | none=>none
   | some d=>match aD c.K d with
    | .ref r=>match aiT r t with
     | true=>some (.one [t] d fun is=>(km fun x=>aa x (.ref 0 0)) is)
     | false=>none
    | _=>none
  | .ref r=>match dst with
   | none=>none
   | some d=>match aD c.K d with
    | .ref r'=>match aiT r r' with
     | true=>some (.one [t] d fun is=>(km fun x=>aa x x) is)
     | false=>none
    | _=>none
  | .dat lv=>cP c dst [x] lv (km some)
  | .tup ms=>match dst with
   | none=>none
   | some d=>match aD c.K d with
    | .tup ns=>match jE ms ns,aiT d t with
     | true,false=>some (.many [t] [d,t] [] fun is k=>iY is 0 fun x=>k [x,.bad])
     | _,_=>none
    | _=>none
  | _=>none
 | .const (.slice none 0 0)=>match dst with
  | none=>none
  | some d=>match aD c.K d with
   | .own z _ false=>some (.many [] [d] [] fun _ k=>k [.arr z []])
   | .dat _=>match oL d c.N with
    | true=>cP c dst [x] 0 (fun _=>some (.v (.slice none 0 0)))
    | false=>iL c ty fun i=>cP c dst [x] 0 (fun _=>some (.arr i.ez []))
   | _=>none
 | x=>cP c dst [x] (gw c.K x) (km some)
@[reducible] def afD {α β:Type} (f:α→β):Option α→Option β
 | none=>none
 | some a=>some (f a)
@[reducible] def SZ (lv l:Nat) (h:List D→Option D):Option (List D→Option D) :=
 match aiY lv l with
 | true=>some h
 | false=>match aiT l 0 with
  | true=>some fun is=>(h is).bind aM
  | false=>none
@[reducible] def fS (K:List Kd) (r:Nat):Nat :=
 match aD K r with
 | .own _ lv _=>lv
 | .box _ lv _=>lv
 | _=>9
@[reducible] def ql (K:List Kd) (r:Nat):Bool :=
 match aD K r with
 | .own _ _ _=>true
 | _=>false
@[reducible] def ahv (K:List Kd) (r:Nat):Nat :=
 match aD K r with
 | .own z _ _=>z
 | _=>0
@[reducible] def MT (K:List Kd) (r:Nat):Bool :=
 match aD K r with
 | .own _ _ false=>true
 | _=>false
@[reducible] def afC (c:Cx) (dst:Option Nat) (i:TI) (p:Operand):Option Ac :=
 match p with
 | .tmp q=>match aD c.K q with
  | .dat lv=>cP c dst [p] lv (km (ldD i.agg i.n))
  | .box _ lv _=>match dst with
   | none=>none
   | some d=>match aD c.K d with
    | .dat l=>afD (fun h=>.one [q] d h) (SZ lv l (fun is=>bf i.agg i.n 0 (nth is 0)))
    | _=>none
  | .ref r=>match dst with
   | none=>none
   | some d=>match aD c.K d with
    | .dat l=>afD (fun h=>.one [q,r] d h) (SZ (fS c.K r) l (fun is=>(atD (nth is 1) (nth is 0)).bind (an i.agg i.n)))
    | _=>none
  | _=>none
 | _=>none
@[reducible] def rdP (q r:Nat):List Nat :=
 match aiT q r with
 | true=>[r]
 | false=>[q,r]
@[reducible] def goP (q r:Nat) (is:List D) (k:D→D→List D→Option Out):Option Out :=
 match aiT q r with
 | true=>match is with
  | b::is=>k b (.ref 0 0) is
  | []=>none
 | false=>match is with
  | p::b::is=>k b p is
  | _=>none
@[reducible] def stK (chk:Bool) (n:Nat) (b p y:D) (k:D→Option Out):Option Out :=
 match chk with
 | true=>(aM y).bind fun y=>(stD n b p y).bind k
 | false=>(stD n b p y).bind k
@[reducible] def Wo (c:Cx) (i:TI) (q r lv:Nat) (x:Operand):Option Ac :=
 match x with
 | .tmp s=>match aD c.K s with
  | .dat l=>match aiY l lv,aiT lv 0 with
   | true,_=>some (.many (app (rdP q r) [s]) [] [r] fun is k=>goP q r is fun b p is=>iY is 0 fun y=>stK false i.n b p y fun b=>k [b])
   | false,true=>some (.many (app (rdP q r) [s]) [] [r] fun is k=>goP q r is fun b p is=>iY is 0 fun y=>stK true i.n b p y fun b=>k [b])
   | false,false=>none
  | .own _ l false=>match aiY 1 lv,aiY l lv,aiT s r with
   | true,true,false=>some (.many (app (rdP q r) [s]) [s] [r] fun is k=>goP q r is fun b p is=>iY is 0 fun y=>stK false i.n b p y fun b=>k [.bad,b])
   | _,_,_=>none
  | _=>none
 | .global _=>none
 | .const v=>match okC v with
  | true=>some (.many (app (rdP q r) []) [] [r] fun is k=>goP q r is fun b p _=>stK false i.n b p (Fr v) fun b=>k [b])
  | false=>none
 | .func f=>some (.many (app (rdP q r) []) [] [r] fun is k=>goP q r is fun b p _=>stK false i.n b p (.clo f []) fun b=>k [b])
@[reducible] def adh (c:Cx) (i:TI) (p x:Operand):Option Ac :=
 match p with
 | .tmp q=>match aD c.K q with
  | .box _ lv _=>Wo c i q q lv x
  | .ref r=>Wo c i q r (fS c.K r) x
  | _=>none
 | _=>none
@[reducible] def aeV (c:Cx) (dst:Option Nat) (i:TI) (f:Nat) (p:Operand):Option Ac :=
 match p,HC c i f with
 | .tmp q,some (off,_)=>match aD c.K q with
  | .dat lv=>cP c dst [p] lv (km (lD off))
  | .box _ _ _=>match dst with
   | none=>none
   | some d=>match aD c.K d with
    | .ref r=>match aiT r q with
     | true=>some (.one [q] d (km fun b=>aa b (.ref 0 off)))
     | false=>none
    | _=>none
  | .ref r=>match dst with
   | none=>none
   | some d=>match aD c.K d with
    | .ref r'=>match aiT r r' with
     | true=>some (.one [q] d (km (aT off)))
     | false=>none
    | _=>none
  | _=>none
 | _,_=>none
@[reducible] def Px (K:List Kd) (x:Operand):Bool:=aiY (gw K x) 2
@[reducible] def rN (i:TI):Bool :=
 match i.alen,i.ez with
 | 0,0=>false
 | 0,_=>true
 | _,_=>false
@[reducible] def afu (c:Cx) (dst:Option Nat) (i:TI) (x ix:Operand):Option Ac :=
  match x,Px c.K ix with
  | .tmp q,true=>match rN i with
    | true=>match aD c.K q with
      | .dat lv=>cP c dst [x,ix] lv (Mm fun x j=>(aq i.ez x j).map .ptr)
      | .own _ _ _=>match dst with
        | none=>none
        | some d=>match aD c.K d with
          | .ref r=>match aiT r q with
            | true=>some (.one (q::vD [ix]) d fun is=>match is with
              | b::is=>km (fd i.ez b) (fZ [ix] is)
              | []=>none)
            | false=>none
          | _=>none
      | .via r=>match dst with
        | none=>none
        | some d=>match aD c.K d with
          | .ref r'=>match aiT r r',ql c.K r with
            | true,true=>some (.one (q::r::vD [ix]) d fun is=>match is with
              | p::b::is=>(aa p b).bind fun b=>km (fd i.ez b) (fZ [ix] is)
              | _=>none)
            | _,_=>none
          | _=>none
      | _=>none
    | false=>match i.alen with
     | 0=>none
     | len=>match aD c.K q with
      | .dat lv=>cP c dst [x,ix] lv (Mm (ixD len i.ez))
      | .box _ _ _=>match dst with
        | none=>none
        | some d=>match aD c.K d with
          | .ref r=>match aiT r q with
            | true=>some (.one (q::vD [ix]) d fun is=>match is with
              | b::is=>(aa b (.ref 0 0)).bind fun p=>km (WL len i.ez p) (fZ [ix] is)
              | []=>none)
            | false=>none
          | _=>none
      | .ref r=>match dst with
        | none=>none
        | some d=>match aD c.K d with
          | .ref r'=>match aiT r r' with
            | true=>some (.one (q::vD [ix]) d fun is=>match is with
              | p::is=>km (WL len i.ez p) (fZ [ix] is)
              | []=>none)
            | false=>none
          | _=>none
      | _=>none
  | _,_=>none
@[reducible] def ll (K:List Kd) (d z lv:Nat):Bool :=
 match aD K d with
 | .own z' l false=>match aiT z z' with
  | true=>aiY lv l
  | false=>false
 | .dat l=>match aiY 1 l with
  | true=>aiY lv l
  | false=>false
 | _=>false
@[reducible] def Wv:Nat→List (Nat × Operand)→Nat→Bool
 | k,[],n=>aiT k n
 | k,(i,_)::ps,n=>match aiT i k with
  | true=>Wv (ajf k) ps n
  | false=>false
@[reducible] def aeI (c:Cx) (dst:Option Nat) (i:TI) (n:Nat) (parts:List (Nat × Operand)):Option Ac :=
 let xs:=uV (fun p=>p.2) parts
 match dst with
 | none=>none
 | some d =>
  match Wv 0 parts n,aiY (n*i.ez) 16777216,ll c.K d i.ez (qW c.K xs),aiY (qW c.K xs) 2 with
  | true,true,true,true=>some (.many (vD xs) [d] [] fun is k=>(aA i.ez (fZ xs is)).bind fun a=>k [a])
  | _,_,_,_=>none
@[reducible] def ta (K:List Kd) (x:Operand):Option (List Nat × Nat × Option Nat) :=
 match x with
 | .tmp t=>match aD K t with
  | .dat lv=>some ([t],lv,none)
  | .own _ lv _=>some ([t],lv,some t)
  | .via r=>match aD K r with
   | .own _ lv _=>some ([t,r],lv,some r)
   | _=>none
  | _=>none
 | .const (.slice none 0 0)=>some ([],0,none)
 | _=>none
@[reducible] def nS (rd:List Nat) (is:List D) (k:D→Option Out):Option Out :=
 match rd with
 | []=>k (.arr 0 [])
 | [_]=>iY is 0 k
 | _=>iY is 0 fun p=>iY is 1 fun x=>(aa p x).bind k
@[reducible] def yM {α:Type}:Nat→List α→List α
 | 0,l=>l
 | _+1,[]=>[]
 | n+1,_::l=>yM n l
@[reducible] def lB {α:Type}:List α→Nat
 | []=>0
 | _::l=>ajf (lB l)
@[reducible] def neO:Option Nat→Option Nat→Bool
 | some a,some b=>match aiT a b with
  | true=>false
  | false=>true
 | _,_=>true
def cR (d:D):Option D :=
 match d with
 | .arr z l=>if l.all D.isV then some (.arr z l) else none
 | _=>none
@[reducible] def Zg (chk:Bool) (b:D) (k:D→Option Out):Option Out :=
 match chk with
 | true=>(cR b).bind k
 | false=>k b
@[reducible] def aaR (c:Cx) (d:Nat) (i:TI) (chk:Bool) (rs rx:List Nat) (os:Option Nat):Option Ac :=
 match os with
 | some r=>match MT c.K r,aiT (ahv c.K r) i.ez with
  | true,true=>some (.many (app rs rx) [d,r] [] fun is k=>nS rs is fun a=>nS rx (yM (lB rs) is) fun b=>Zg chk b fun b=>(bB i.ez i.eb a b).bind fun y=>k [y,.bad])
  | _,_=>none
 | none=>match rs with
  | []=>some (.many rx [d] [] fun is k=>nS rx is fun b=>Zg chk b fun b=>(bB i.ez i.eb (.arr 0 []) b).bind fun y=>k [y])
  | _=>none
@[reducible] def adY (c:Cx) (dst:Option Nat) (i:TI) (s x:Operand):Option Ac :=
 match dst,ta c.K s,ta c.K x with
 | some d,some (rs,ls,os),some (rx,lx,ox) =>
  match neO os ox,ll c.K d i.ez (Rw ls lx),ll c.K d i.ez ls with
  | true,true,_=>aaR c d i false rs rx os
  | true,false,true=>aaR c d i true rs rx os
  | _,_,_=>none
 | _,_,_=>none
@[reducible] def abq (c:Cx) (dst:Option Nat) (str:Bool) (x:Operand):Option Ac :=
 match x with
 | .tmp t=>match aD c.K t with
  | .dat _=>cP c dst [x] 0 (km (lenD str))
  | _=>match dst,ta c.K x with
   | some d,some (rd,_,_)=>match aD c.K d with
    | .dat _=>some (.one rd d fun is=>match rd with
     | [_]=>lenD str (nth is 0)
     | _=>(aa (nth is 0) (nth is 1)).bind (lenD str))
    | _=>none
   | _,_=>none
 | _=>cP c dst [x] 0 (km (lenD str))
@[reducible] def FR:Option Operand→Operand
 | some l=>l
 | none=>.const (.int .i64 0)
@[reducible] def Sg (c:Cx) (dst:Option Nat) (i:TI) (x:Operand) (lo hi:Option Operand):Option Ac :=
 match dst,ta c.K x with
 | some d,some (rd,lv,some r)=>match MT c.K r,ll c.K d i.ez lv,Px c.K (FR lo),i.str with
  | true,true,true,false=>match hi with
   | some h=>match Px c.K h with
    | true=>some (.many (app rd (vD [FR lo,h])) [d,r] [] fun is k=>nS rd is fun b =>
      (Mm (dH false i.ez b) (fZ [FR lo,h] (yM (lB rd) is))).bind fun y=>k [y,.bad])
    | false=>none
   | none=>some (.many (app rd (vD [FR lo])) [d,r] [] fun is k=>nS rd is fun b =>
      (km (cU false i.ez b) (fZ [FR lo] (yM (lB rd) is))).bind fun y=>k [y,.bad])
  | _,_,_,_=>none
 | _,_=>none
@[reducible] def VQ (c:Cx) (dst:Option Nat) (i:TI) (x:Operand) (lo hi:Option Operand):Option Ac :=
 match x with
 | .tmp q=>match aD c.K q with
  | .dat lv=>match hi with
   | some h=>cP c dst [x,FR lo,h] lv (afy (dH i.str i.ez))
   | none=>cP c dst [x,FR lo] lv (Mm (cU i.str i.ez))
  | .own _ _ _=>Sg c dst i x lo hi
  | .via _=>Sg c dst i x lo hi
  | _=>none
 | _=>none
@[reducible] def aeU (c:Cx) (dst:Option Nat) (i e:TI) (n m:Operand):Option Ac :=
 match dst,Px c.K n,Px c.K m with
 | some d,true,true=>match ll c.K d i.ez 0 with
  | true=>some (.many (vD [n,m]) [d] [] fun is k=>(match fZ [n,m] is with
    | [a,b]=>Nb i.ez i.eb (Lh e) a b
    | _=>none).bind fun y=>k [y])
  | false=>none
 | _,_,_=>none
@[reducible] def afH (c:Cx) (dst:Option Nat) (i:TI) (x:Operand):Option Ac :=
 match dst with
 | none=>none
 | some d=>match aD c.K d with
  | .box n l false=>match aiT n i.n,Px c.K x with
   | true,true=>match aiY (gw c.K x) l with
    | true=>some (.many (vD [x]) [d] [] fun is k=>(km (gu n) (fZ [x] is)).bind fun y=>k [y])
    | false=>match aiT l 0 with
     | true=>some (.many (vD [x]) [d] [] fun is k=>(km (fun x=>(aM x).bind (gu n)) (fZ [x] is)).bind fun y=>k [y])
     | false=>none
   | _,_=>none
  | .dat l=>match Px c.K x,aiY 1 l,aiY (gw c.K x) l with
   | true,true,true=>some (.many (vD [x]) [d] [] fun is k=>(km (gu i.n) (fZ [x] is)).bind fun y=>(aip y).bind fun y=>k [y])
   | _,_,_=>none
  | _=>none
@[reducible] def aeZ (c:Cx) (dst:Option Nat) (i:TI):Option Ac :=
 match dst with
 | none=>none
 | some d=>match aD c.K d with
  | .box n _ false=>match aiT n i.n with
   | true=>some (.many [] [d] [] fun _ k=>k [.agg i.zero])
   | false=>none
  | _=>none
@[reducible] def afx (c:Cx) (dst:Option Nat) (x:Operand) (i:Nat):Option Ac :=
 match dst,x with
 | some d,.tmp t=>match aD c.K t with
  | .tup ms=>match aD ms i with
   | .dat lv=>match aD c.K d with
    | .dat l=>match aiY lv l with
     | true=>some (.one [t] d fun is=>ao (nth is 0) i)
     | false=>none
    | _=>none
   | .own z lv false=>match ll c.K d z lv with
    | true=>some (.many [t] [d,t] [] fun is k=>iY is 0 fun t=>(ao t i).bind fun y=>k [y,dy t i])
    | false=>none
   | _=>none
  | _=>none
 | _,_=>none
inductive Ag where
 | d (x:Operand) (chk:Bool)
 | bor (t r:Nat)
 | io (t r:Nat)
@[reducible] def AK (K:List Kd) (x:Operand) (m:Kd):Option Ag :=
 match m with
 | .dat l=>match x with
  | .tmp t=>match aD K t with
   | .dat lv=>match aiY lv l with
    | true=>some (.d x false)
    | false=>match aiT l 0 with
     | true=>some (.d x true)
     | false=>none
   | .own _ _ _=>match aiT l 2 with
    | true=>some (.bor t t)
    | false=>none
   | .via r=>match aiT l 2,ql K r with
    | true,true=>some (.bor t r)
    | _,_=>none
   | _=>none
  | .global _=>none
  | .func _=>some (.d x false)
  | .const v=>match okC v with
   | true=>some (.d x false)
   | false=>none
 | .own z l true=>match x with
  | .tmp t=>match aD K t with
   | .own z' lv _=>match aiT z z',aiT l lv with
    | true,true=>some (.io t t)
    | _,_=>none
   | .via r=>match aD K r with
    | .own z' lv _=>match aiT z z',aiT l lv with
     | true,true=>some (.io t r)
     | _,_=>none
    | _=>none
   | _=>none
  | _=>none
 | .box n l true=>match x with
  | .tmp t=>match aD K t with
   | .box n' lv _=>match aiT n n',aiT l lv with
    | true,true=>some (.io t t)
    | _,_=>none
   | .ref r=>match aD K r with
    | .box n' lv _=>match aiT n n',aiT l lv with
     | true,true=>some (.io t r)
     | _,_=>none
    | _=>none
   | _=>none
  | _=>none
 | _=>none
@[reducible] def nY (K:List Kd):List Operand→List Kd→Option (List Ag)
 | [],[]=>some []
 | x::xs,m::ms=>match AK K x m,nY K xs ms with
  | some a,some l=>some (a::l)
  | _,_=>none
 | _,_=>none
@[reducible] def gU:List Ag→List Nat
 | []=>[]
 | .d x _::l=>app (vD [x]) (gU l)
 | .bor t r::l=>match aiT t r with
  | true=>t::gU l
  | false=>t::r::gU l
 | .io t r::l=>match aiT t r with
  | true=>t::gU l
  | false=>t::r::gU l
@[reducible] def gd:List Ag→List Nat
 | []=>[]
 | .io _ r::l=>r::gd l
 | _::l=>gd l
@[reducible] def jt:List Ag→List Nat
 | []=>[]
 | .bor _ r::l=>r::jt l
 | _::l=>jt l
@[reducible] def oX:List Nat→Bool
 | []=>true
 | a::l=>match oL a l with
  | true=>false
  | false=>oX l
@[reducible] def NM:List Nat→List Nat→Bool
 | [],_=>true
 | a::l,m=>match oL a m with
  | true=>false
  | false=>NM l m
@[reducible] def kS (acc:List D):List Ag→List D→(List D→Option Out)→Option Out
 | [],_,k=>k acc
 | .d x chk::l,is,k=>match x with
  | .tmp _=>match is with
   | i::is=>match chk with
    | false=>kS (app acc [i]) l is k
    | true=>(aM i).bind fun i=>kS (app acc [i]) l is k
   | []=>none
  | .const v=>kS (app acc [Fr v]) l is k
  | .func f=>kS (app acc [.clo f []]) l is k
  | .global _=>none
 | .bor t r::l,is,k=>match aiT t r with
  | true=>match is with
   | i::is=>kS (app acc [i]) l is k
   | _=>none
  | false=>match is with
   | p::i::is=>(aa p i).bind fun i=>kS (app acc [i]) l is k
   | _=>none
 | .io t r::l,is,k=>match aiT t r with
  | true=>match is with
   | i::is=>(aa i i).bind fun i=>kS (app acc [i]) l is k
   | _=>none
  | false=>match is with
   | p::i::is=>(cI p i).bind fun i=>(aa i i).bind fun i=>kS (app acc [i]) l is k
   | _=>none
@[reducible] def XR (K:List Kd) (d:Nat):List Kd→Bool
 | [.dat lv]=>match aD K d with
  | .dat l=>aiY lv l
  | _=>false
 | [.own z lv false]=>ll K d z lv
 | []=>true
 | ms=>match aD K d with
  | .tup ns=>jE ms ns
  | _=>false
@[reducible] def At:List Kd→Bool
 | []=>true
 | .dat lv::l=>match aiY lv 1 with
  | true=>At l
  | false=>false
 | .own _ lv _::l=>match aiY lv 1 with
  | true=>At l
  | false=>false
 | _=>false
@[reducible] def ni:List Kd→Bool
 | []=>true
 | .dat lv::l=>match aiT lv 1,aiY lv 2 with
  | false,true=>ni l
  | _,_=>false
 | .own _ lv true::l=>match aiT lv 1,aiY lv 2 with
  | false,true=>ni l
  | _,_=>false
 | .box _ lv true::l=>match aiT lv 1,aiY lv 2 with
  | false,true=>ni l
  | _,_=>false
 | _=>false
@[reducible] def io0:List Kd→Bool
 | []=>true
 | .own _ lv _::l=>match aiT lv 0 with
  | true=>io0 l
  | false=>false
 | .box _ lv _::l=>match aiT lv 0 with
  | true=>io0 l
  | false=>false
 | _::l=>io0 l
@[reducible] def Gj (c:Cx) (dst:Option Nat) (S:FS) (xs:List Operand):Option Ac :=
 match nY c.K xs S.pm with
 | none=>none
 | some ags =>
  let ios:=gd ags
  let bor:=jt ags
  let okB:=match bor with
   | []=>true
   | _=>match At S.rm,io0 S.pm with
    | true,true=>NM bor ios
    | _,_=>false
  match okB,oX ios,ni S.pm with
  | true,true,true=>match dst with
   | none=>match S.rm with
    | []=>some (.many (gU ags) [] ios fun is k=>kS [] ags is fun ds=>ac (S.f ds) fun _ us=>k (outs us ios))
    | _=>none
   | some d=>match XR c.K d S.rm,oL d ios,S.rm with
    | true,false,[]=>some (.many (gU ags) [d] ios fun is k=>kS [] ags is fun ds=>ac (S.f ds) fun _ us=>k (.bad::outs us ios))
    | true,false,[_]=>some (.many (gU ags) [d] ios fun is k=>kS [] ags is fun ds=>ac (S.f ds) fun rs us=>k (nth rs 0::outs us ios))
    | true,false,_=>some (.many (gU ags) [d] ios fun is k=>kS [] ags is fun ds=>ac (S.f ds) fun rs us=>k (.tup rs::outs us ios))
    | _,_,_=>none
  | _,_,_=>none
where
 @[reducible] outs (us:List D) (ios:List Nat):List D:=go us 0 ios
 @[reducible] go (us:List D):Nat→List Nat→List D
  | _,[]=>[]
  | j,_::l=>nth us j::go us (ajf j) l
@[reducible] def OV {α:Type}:Nat→List α→List α
 | 0,_=>[]
 | _+1,[]=>[]
 | n+1,a::l=>a::OV n l
@[reducible] def rK:List Kd→Bool
 | []=>true
 | .dat lv::l=>match aiT lv 2 with
  | true=>rK l
  | false=>false
 | _=>false
@[reducible] def Xv (c:Cx) (dst:Option Nat) (t f:Nat) (S:FS) (xs:List Operand):Option Ac :=
 match dst,aD c.K t,S.rm with
 | some d,.dat lt,[.dat lr]=>match nY c.K xs (OV (lB xs) S.pm),aD c.K d with
  | some ags,.dat l=>match aiY lr l,aiY lt 2,ni (OV (lB xs) S.pm),rK (yM (lB xs) S.pm),gd ags,jt ags with
   | true,true,true,true,[],[]=>some (.many (t::gU ags) [d] [] fun is k=>match is with
    | cl::is=>(af4 f (lB (yM (lB xs) S.pm)) cl).bind fun caps=>kS [] ags is fun ds=>ac (S.f (ds++caps)) fun rs _=>k [nth rs 0]
    | []=>none)
   | _,_,_,_,_,_=>none
  | _,_=>none
 | _,_,_=>none
@[reducible] def Hl (c:Cx) (t:TI):List (Nat × Operand)→Option (List (Nat × Nat))
 | []=>some []
 | (i,_)::ps=>match HC c t i,Hl c t ps with
  | some (off,ti),some l=>some ((off,ti.n)::l)
  | _,_=>none
@[reducible] def MP (z:Nat):List (Nat × Operand)→List (Nat × Nat)
 | []=>[]
 | (i,_)::ps=>(i*z,z)::MP z ps
@[reducible] def PI (f:D→D→Option D):D→List D→Option D
 | x,[]=>some x
 | x,y::ys=>(f x y).bind fun z=>PI f z ys
@[reducible] def NG (f:D→D→Option D):List D→Option D
 | x::y::xs=>PI f x (y::xs)
 | _=>none
@[reducible] def agd (c:Cx) (i:TI):Bool :=
 match rN i with
 | true=>match en c.T i.elem with
  | some e=>match e.ik with
   | some .u8=>true
   | _=>false
  | none=>false
 | false=>false
@[reducible] def aeG (c:Cx) (dst:Option Nat) (si di:TI) (x:Operand):Option Ac :=
 match di.str,si.str,si.ez with
 | true,false,1=>match dst,ta c.K x with
  | some d,some (rd,_,_)=>match aD c.K d,agd c si with
   | .dat _,true=>some (.one rd d fun is=>match rd with
    | []=>none
    | [_]=>Rs (nth is 0)
    | _=>(aa (nth is 0) (nth is 1)).bind Rs)
   | _,_=>none
  | _,_=>none
 | _,_,_=>cP c dst [x] 0 (km (oz di.ik (match di.str with
  | true=>si.str
  | false=>false)))
@[reducible] def afr (c:Cx) (dst:Option Nat) (t:TI) (x i:Operand):Option Ac :=
 match t.str with
 | true=>cP c dst [x,i] 0 (Mm kA)
 | false=>match t.alen with
  | 0=>none
  | n=>iL c t.elem fun e=>cP c dst [x,i] (gw c.K x) (Mm (ixA e.agg n t.ez))
@[reducible] def aaY (c:Cx) (dst:Option Nat) (q:Call):Option Ac :=
 match q.callee,q.args.toList,q.argTypes.toList with
 | .builtin .len,[x],[t]=>iL c t fun i=>match rN i,i.str with
  | true,false=>abq c dst false x
  | false,true=>abq c dst true x
  | _,_=>none
 | .builtin .append,[s,x],[t,u]=>match aiT t u with
  | true=>iL c t fun i=>iL c i.elem fun _=>match rN i with
   | true=>adY c dst i s x
   | false=>none
  | false=>none
 | .builtin .min,xs,_=>cP c dst xs 0 (NG Wr)
 | .builtin .max,xs,_=>cP c dst xs 0 (NG Vr)
 | .value (.func f),xs,_=>match en c.S f with
  | some S=>Gj c dst S xs
  | none=>none
 | .value (.tmp t),xs,_=>match en c.C t with
  | some f=>match en c.S f with
   | some S=>Xv c dst t f S xs
   | none=>none
  | none=>none
 | _,_,_=>none
@[reducible] def aeN (c:Cx) (dst:Option Nat) (i:TI) (parts:List (Nat × Operand)):Option Ac :=
 let xs:=uV (fun p=>p.2) parts
 match i.alen,i.agg with
 | 0,true=>match Hl c i parts with
  | some ps=>cP c dst xs (qW c.K xs) (dp ps i.zero)
  | none=>none
 | 0,false=>none
 | _,_=>cP c dst xs (qW c.K xs) (dp (MP i.ez parts) i.zero)
@[reducible] def afl (c:Cx) (dst:Option Nat) (x:Operand):Option Ac :=
 match x with
 | .tmp t=>match aD c.K t with
  | .box _ _ _=>match dst with
   | none=>none
   | some d=>match aD c.K d with
    | .ref r=>match aiT r t with
     | true=>some (.one [t] d fun is=>(km fun x=>aa x (.ref 0 0)) is)
     | false=>none
    | _=>none
  | .ref r=>match dst with
   | none=>none
   | some d=>match aD c.K d with
    | .ref r'=>match aiT r r' with
     | true=>some (.one [t] d fun is=>(km fun x=>aa x x) is)
     | false=>none
    | _=>none
  | _=>cP c dst [x] (gw c.K x) (km Pg)
 | x=>cP c dst [x] (gw c.K x) (km Pg)
@[reducible] def acQ:Operand→Bool
 | .const .nilIface=>true
 | _=>false
@[reducible] def aeo:Operand→Bool
 | .const (.slice none 0 0)=>true
 | _=>false
@[reducible] def dO (c:Cx) (o:Oper):Option Ac :=
 match o.op with
 | .move x=>Ws c o.dst x o.type
 | .assign x=>Ws c o.dst x o.type
 | .pick q a b=>cP c o.dst [q,a,b] (Rw (gw c.K a) (gw c.K b)) (afy aS)
 | .alloc t=>iL c t fun i=>aeZ c o.dst i
 | .box t x=>iL c t fun i=>afH c o.dst i x
 | .build t parts=>iL c t fun i=>aeN c o.dst i parts.toList
 | .buildSlice t n parts=>iL c t fun i=>iL c i.elem fun _=>match rN i with
  | true=>aeI c o.dst i n parts.toList
  | false=>none
 | .load t p=>iL c t fun i=>afC c o.dst i p
 | .store t p x=>match o.dst with
  | none=>iL c t fun i=>adh c i p x
  | some _=>none
 | .nilCheck x=>afl c o.dst x
 | .binOp op t x y _=>iL c t fun i=>match i.ifc with
  | true=>cP c o.dst [x,y] 0 (Mm (ZF (acQ y) op))
  | false=>match rN i,aeo y with
   | true,true=>cP c o.dst [x,y] 0 (Mm fun x _=>abG op x)
   | _,_=>cP c o.dst [x,y] 0 (Mm (bin op i.bl i.eq))
 | .unOp op _ x=>cP c o.dst [x] 0 (km (un op))
 | .convert src dt x=>iL c src fun si=>iL c dt fun di=>aeG c o.dst si di x
 | .makeFunc (.func f) first cap=>match first.toList,cap.toList with
  | [],[]=>cP c o.dst [] 0 (fun _=>some (.clo f []))
  | [],x::xs=>cP c o.dst (x::xs) (qW c.K (x::xs)) (ahB f)
  | _,_=>none
 | .makeSlice t n m=>iL c t fun i=>iL c i.elem fun e=>match rN i with
  | true=>aeU c o.dst i e n m
  | false=>none
 | .slice t x lo hi none=>iL c t fun i=>match rN i,i.str with
  | true,false=>VQ c o.dst i x lo hi
  | false,true=>VQ c o.dst i x lo hi
  | _,_=>none
 | .fieldAddr t x f=>iL c t fun i=>aeV c o.dst i f x
 | .field t x f=>iL c t fun i=>match HC c i f with
  | some (off,ti)=>cP c o.dst [x] (gw c.K x) (km (bf ti.agg ti.n off))
  | none=>none
 | .indexAddr t x i=>iL c t fun ti=>afu c o.dst ti x i
 | .index t x i=>iL c t fun ti=>afr c o.dst ti x i
 | .extract x i=>afx c o.dst x i
 | .call q=>aaY c o.dst q
 | _=>none
@[reducible] def agw:Ac→List Nat
 | .one rd _ _=>rd
 | .many rd _ _ _=>rd
@[reducible] def NS (ops:List Oper) (j:Nat):Option Nat :=
 match XQ ops j with
 | some o=>o.dst
 | none=>none
@[reducible] def Hx:Kd→D
 | .dat _=>.tup []
 | _=>.bad
@[reducible] def Wc (K:List Kd) (δ:List D) (dst:Option Nat):List Nat→(List D→Option Out)→Option Out
 | [],k=>k []
 | s::ss,k=>match dst with
  | some d=>match oL s (d::iw d K 0) with
   | true=>Wc K δ dst ss fun l=>k (Hx (aD K s)::l)
   | false=>iY δ s fun a=>Wc K δ dst ss fun l=>k (a::l)
  | none=>iY δ s fun a=>Wc K δ dst ss fun l=>k (a::l)
@[reducible] def fit (l:List D):Nat→List Nat→List D
 | _,[]=>[]
 | j,_::ss=>nth l j::fit l (ajf j) ss
@[reducible] def eV (c:Cx) (ops:List Oper) (o:Oper) (δ:List D) (k:List D→Option Out):Option Out :=
 match dO c o with
 | none=>none
 | some A=>match o.guard with
  | none=>match A with
   | .one rd d h=>uT δ rd fun is=>(h is).bind fun z=>fe δ (d::iw d c.K 0) [z] k
   | .many rd hw cw fn=>uT δ rd fun is=>fn is fun outs=>fe δ (app hw (app cw (bu c.K hw))) outs k
  | some (j,pol)=>match NS ops j with
   | none=>none
   | some g=>iY δ g fun gv=>match A with
    | .one rd d h=>uT δ rd fun is=>(aj (Hx (aD c.K d)) gv pol (h is)).bind fun z=>fe δ (d::iw d c.K 0) [z] k
    | .many rd hw cw fn=>uT δ rd fun is=>Wc c.K δ o.dst (app hw cw) fun alt =>
     cQ gv pol (fn is fun outs=>some (.nrm (fit outs 0 (app hw cw)))) alt fun outs =>
      fe δ (app hw (app cw (bu c.K hw))) (fit outs 0 (app hw cw)) k
@[reducible] def mF (c:Cx) (ops:List Oper):List Oper→List D→(List D→Option Out)→Option Out
 | [],δ,k=>k δ
 | o::os,δ,k=>eV c ops o δ fun δ'=>mF c ops os δ' k
@[reducible] def NH:Nat→List D
 | 0=>[]
 | n+1=>.bad::NH n
@[reducible] def vB:Nat→List D→List D
 | 0,_=>[]
 | n+1,[]=>.bad::vB n []
 | n+1,a::l=>a::vB n l
@[reducible] def iX (n:Nat) (hl:List Nat) (s:List D) (k:List D→Option Out):Option Out :=
 fe (NH n) hl (fit s 0 hl) k
def iter (body:List D→Option Out):Nat→List D→Option Out
 | 0,_=>none
 | n+1,s=>match body s with
  | some (.nrm s')=>iter body n s'
  | r=>r
open Classical in
def ba (body:List D→Option Out) (s:List D):Option Out :=
 if h:∃n,(iter body n s).isSome=true then iter body (Classical.choose h) s else none
@[reducible] def ck (hl xl:List Nat) (o:Out):Option Out :=
 match o with
 | .nrm δ=>uT δ hl fun l=>some (.nrm l)
 | .ext i δ=>uT δ xl fun l=>some (.ext i l)
 | .ret a b=>some (.ret a b)
@[reducible] def sg (c:Cx) (δ:List D):List ResultVar→(List D→Option Out)→Option Out
 | [],k=>k []
 | .tmp t::l,k=>iY δ t fun a=>sg c δ l fun as'=>k (a::as')
 | .cell a t::l,k=>match en c.T t with
  | some i=>iY δ a fun b=>(bf i.agg i.n 0 b).bind fun y=>sg c δ l fun as'=>k (y::as')
  | none=>none
@[reducible] def usK:List D→Option Out→Option Out
 | [],o=>o
 | u::us,o=>(aa u u).bind fun _=>usK us o
@[reducible] def opC (δ:List D) (x:Operand) (k:D→Option Out):Option Out :=
 match x with
 | .tmp t=>iY δ t k
 | .const c=>k (Fr c)
 | .func f=>k (.clo f [])
 | .global _=>none
@[reducible] def ac3 (o:Out) (f:List D→Option Out) (k:Out→Option Out):Option Out :=
 match o with
 | .nrm δ=>f δ
 | .ext i δ=>k (.ext i δ)
 | .ret a b=>k (.ret a b)
@[reducible] def LL (id:Nat) (o:Out) (k:Out→Option Out):Option Out :=
 match o with
 | .nrm δ=>k (.nrm δ)
 | .ext i δ=>match aiT i id with
  | true=>k (.nrm δ)
  | false=>k (.ext i δ)
 | .ret a b=>k (.ret a b)
def bV (o:Out) (x:Nat→List D→Option Out) (r:List D→List D→Option Out):Option Out :=
 match o with
 | .nrm _=>none
 | .ext i s=>x i s
 | .ret a b=>r a b
@[reducible] def den (c:Cx):Nat→Code→List D→(Out→Option Out)→Option Out
 | _,.skip,δ,k=>k (.nrm δ)
 | _,.region _ ops _,δ,k=>mF c ops.toList ops.toList δ fun δ'=>k (.nrm δ')
 | bid,.seq a b,δ,k=>den c bid a δ fun o=>ac3 o (fun δ'=>den c bid b δ' k) k
 | bid,.cond x t e,δ,k=>opC δ x fun q=>ifD q (den c bid t δ k) (den c bid e δ k)
 | _,.block id b,δ,k=>den c id b δ fun o=>LL id o k
 | bid,.loop b,δ,k=>match en c.H bid with
  | none=>none
  | some (hl,xl) =>
   uT δ hl fun s=>(ba (fun s=>iX (lB c.K) hl s fun δ=>den c bid b δ (ck hl xl)) s).bind fun o =>
    bV o (fun i s=>iX (lB c.K) xl s fun δ=>k (.ext i δ)) (fun a b=>k (.ret a b))
 | _,.exit id,δ,k=>k (.ext id δ)
 | _,.ret,δ,k=>sg c δ c.res fun rs=>uT δ c.ios fun us=>usK us (k (.ret rs us))
 | _,_,_,_=>none
@[reducible] def aX (c:Cx) (fn:Func) (ds:List D):Option Out :=
 match fn.body with
 | none=>none
 | some b=>den c 0 b (vB fn.ntmps ds) fun o=>match o with
  | .nrm δ=>sg c δ c.res fun rs=>uT δ c.ios fun us=>usK us (some (.ret rs us))
  | .ext _ _=>none
  | .ret rs us=>some (.ret rs us)
open Go.RowKit
def cN (w:World) (b o:Nat) (us:List Value):Prop:=∀i u,us[i]?=some u→w.cell? ⟨b,o+i,none⟩=some u
mutual
def RepC (w:World) (F:Nat→Prop):D→List Value→Prop
 | .v x,vs=>vs=[x]∧flat x=true
 | .agg l,vs=>cm w F l vs∧l.all D.single=true
 | .arr z l,vs=>∃A c us,vs=[.slice A l.length c]∧l.length≤c∧cm w F l us∧(∀d∈l,d.width=z) ∧
   (l≠[]→∃b o,A=some ⟨b,o,none⟩∧F b∧cN w b o us)
 | .ptr l,vs=>∃b o us,vs=[.pointer (some ⟨b,o,none⟩)]∧cm w F l us∧l.all D.single=true∧F b∧cN w b o us
 | .clo f l,vs=>∃us:List Value,vs=[.func (.func f) #[] us.toArray]∧cm w F l us
 | .ifc,vs=>∃t x,vs=[.iface t x]
 | .raw x,vs=>vs=[x]∧∃A n c,x = .slice A n c
 | .tup _,_=>False
 | .ref _ _,_=>False
 | .bad,_=>False
def cm (w:World) (F:Nat→Prop):List D→List Value→Prop
 | [],vs=>vs=[]
 | d::ds,vs=>∃v1 v2,vs=v1++v2∧RepC w F d v1∧cm w F ds v2
end
def bU (w:World) (F:Nat→Prop) (d:D) (y:Value):Prop :=
 match d with
 | .agg l=>∃vs:List Value,y = .agg vs.toArray∧RepC w F (.agg l) vs
 | .tup l=>l=[]∧y = .tuple #[]
 | d=>RepC w F d [y]
theorem all_append {α:Type} (p:α→Bool) (a b:List α):(a++b).all p=(a.all p&&b.all p):=by simp
mutual
theorem RepC_mono {w w':World} {F F':Nat→Prop} (hF:∀b,F b→F' b) (hw:∀b,F b→w'.heap[b]?=w.heap[b]?) :
  ∀(d:D) (vs:List Value),RepC w F d vs→RepC w' F' d vs
 | .v _,_,h=>by simpa only [RepC] using h
 | .agg l,vs,h=>by
  simp only [RepC] at h ⊢;exact⟨cL hF hw l vs h.1,h.2⟩
 | .arr z l,vs,h=>by
  simp only [RepC] at h ⊢;obtain⟨A,c,us,h1,h2,h3,h4,h5⟩:=h;refine⟨A,c,us,h1,h2,cL hF hw l us h3,h4,fun hl=>?_⟩
  obtain⟨b,o,e,hb,hc⟩:=h5 hl;exact⟨b,o,e,hF b hb,fun i u hu=>(ajB (w:=w) (hw b hb)).trans (hc i u hu)⟩
 | .ptr l,vs,h=>by
  simp only [RepC] at h ⊢;obtain⟨b,o,us,h1,h2,h3,h4,h5⟩:=h;exact⟨b,o,us,h1,cL hF hw l us h2,h3,hF b h4,fun i u hu=>(ajB (w:=w) (hw b h4)).trans (h5 i u hu)⟩
 | .clo f l,vs,h=>by
  simp only [RepC] at h ⊢;obtain⟨us,h1,h2⟩:=h;exact⟨us,h1,cL hF hw l us h2⟩
 | .ifc,_,h=>by simpa only [RepC] using h
 | .raw _,_,h=>by simpa only [RepC] using h
 | .tup _,_,h=>by simp only [RepC] at h
 | .ref _ _,_,h=>by simp only [RepC] at h
 | .bad,_,h=>by simp only [RepC] at h
theorem cL {w w':World} {F F':Nat→Prop} (hF:∀b,F b→F' b) (hw:∀b,F b→w'.heap[b]?=w.heap[b]?) :
  ∀(l:List D) (vs:List Value),cm w F l vs→cm w' F' l vs
 | [],vs,h=>by simpa only [cm] using h
 | d::ds,vs,h=>by
  simp only [cm] at h ⊢;obtain⟨v1,v2,h1,h2,h3⟩:=h;exact⟨v1,v2,h1,RepC_mono hF hw d v1 h2,cL hF hw ds v2 h3⟩
end
theorem co {w w':World} {F F':Nat→Prop} (hF:∀b,F b→F' b) (hw:∀b,F b→w'.heap[b]?=w.heap[b]?) {d:D} {y:Value} (h:bU w F d y):bU w' F' d y:=by
 cases d<;>simp only [bU] at h ⊢<;>first
  | exact h
  | exact RepC_mono hF hw _ _ h
  | (obtain⟨vs,h1,h2⟩:=h;exact⟨vs,h1,RepC_mono hF hw _ _ h2⟩)
theorem lP {w:World} {F:Nat→Prop}:∀(d:D) (vs:List Value),d.single=true→RepC w F d vs→∃y,vs=[y]∧y.cells=#[y]∧y.oneCell'=true:=by
 intro d vs hs h;cases d<;>simp only [RepC] at h<;>simp only [D.single] at hs
 case v x =>
  obtain⟨rfl,hf⟩:=h;cases x<;>simp_all [flat,ajv,Value.oneCell']
 case arr z l=>obtain⟨A,c,us,rfl,_⟩:=h;exact⟨_,rfl,rfl,rfl⟩
 case ptr l=>obtain⟨b,o,us,rfl,_⟩:=h;exact⟨_,rfl,rfl,rfl⟩
 case clo f l=>obtain⟨us,rfl,_⟩:=h;exact⟨_,rfl,rfl,rfl⟩
 case ifc=>obtain⟨t,x,rfl⟩:=h;exact⟨_,rfl,rfl,rfl⟩
 case raw x=>obtain⟨rfl,A,n,c,rfl⟩:=h;exact⟨_,rfl,rfl,rfl⟩
 all_goals exact absurd hs (by simp)
theorem gG {d:D} (h:d.single=true):d.width=1∧d.cells=[d]:=by cases d<;>simp_all [D.single,D.width,D.cells]
theorem ax {w:World} {F:Nat→Prop} {d:D} {ds:List D} {vs:List Value}:cm w F (d::ds) vs↔∃v1 v2,vs=v1++v2∧RepC w F d v1∧cm w F ds v2:=by rw [cm]
theorem aZ {w:World} {F:Nat→Prop} {vs:List Value}:cm w F [] vs↔vs=[]:=by rw [cm]
theorem fg {w:World} {F:Nat→Prop}:∀(l m:List D) (vs:List Value),cm w F (l++m) vs↔∃v1 v2,vs=v1++v2∧cm w F l v1∧cm w F m v2
 | [],m,vs=>by
  rw [ajs];exact⟨fun h=>⟨[],vs,rfl,aZ.2 rfl,h⟩,fun⟨v1,v2,e,h1,h2⟩=>by rw [aZ.1 h1] at e;rw [e];exact h2⟩
 | d::l,m,vs=>by
  rw [ajJ,ax];constructor
  ·rintro⟨v1,v2,rfl,h1,h2⟩
   obtain⟨u1,u2,rfl,h3,h4⟩:=(fg l m v2).1 h2;exact⟨v1++u1,u2,by simp,ax.2 ⟨v1,u1,rfl,h1,h3⟩,h4⟩
  ·rintro⟨v1,v2,rfl,h1,h2⟩
   obtain⟨u1,u2,rfl,h3,h4⟩:=ax.1 h1;exact⟨u1,u2++v2,by simp,h3,(fg l m _).2 ⟨u2,v2,rfl,h4,h2⟩⟩
theorem dY {w:World} {F:Nat→Prop}:∀(l:List D) (vs:List Value),l.all D.single=true→cm w F l vs→vs.length=l.length∧(∀u∈vs,u.oneCell'=true∧u.cells=#[u])∧∀(i:Nat) (d:D),l[i]?=some d→∃u,vs[i]?=some u∧RepC w F d [u]
 | [],vs,_,h=>by rw [aZ] at h;subst h;simp
 | d::l,vs,hs,h=>by
  obtain⟨v1,v2,rfl,h1,h2⟩:=ax.1 h;simp only [ajj,aiV] at hs;obtain⟨y,rfl,hy,hy'⟩:=lP d v1 hs.1 h1;obtain⟨g1,g2,g3⟩:=dY l v2 hs.2 h2;refine⟨by simp [g1],?_,?_⟩
  ·intro u hu
   rcases ajt.1 hu with hu | hu
   ·simp at hu;subst hu;exact⟨hy',hy⟩
   ·exact g2 u hu
  ·intro i e he
   cases i with
   | zero=>simp at he;subst he;exact⟨y,rfl,h1⟩
   | succ i=>simpa using g3 i e (by simpa using he)
theorem rS {w:World} {F:Nat→Prop} {d:D} {vs:List Value} (h:RepC w F d vs):(∃l,d = .agg l)∨d.single=true:=by
 cases d
 case agg l=>exact .inl ⟨l,rfl⟩
 case tup l=>simp only [RepC] at h
 case ref i f=>simp only [RepC] at h
 case bad=>simp only [RepC] at h
 all_goals exact .inr rfl
theorem xO {w:World} {F:Nat→Prop} {d:D} {vs:List Value} (h:RepC w F d vs):vs.length=d.width:=by
 rcases rS h with ⟨l,rfl⟩ | hs
 ·simp only [RepC] at h
  simpa [D.width,D.cells] using (dY l vs h.2 h.1).1
 ·obtain⟨y,rfl,_⟩:=lP _ _ hs h
  rw [(gG hs).1];rfl
theorem fP {w:World} {F:Nat→Prop} {z:Nat}:∀(l:List D) (vs:List Value),cm w F l vs→(∀d∈l,d.width=z)→vs.length=l.length*z
 | [],vs,h,_=>by rw [aZ] at h;subst h;simp
 | d::l,vs,h,hw=>by
  obtain⟨v1,v2,rfl,h1,h2⟩:=ax.1 h;rw [List.length_append,xO h1,fP l v2 h2 (fun d hd=>hw d (by simp [hd])),hw d (by simp)];simp [Nat.succ_mul,Nat.add_comm]
theorem PB {w:World} {F:Nat→Prop} {z:Nat} (l:List D) (vs:List Value) (h:cm w F l vs) (hw:∀d∈l,d.width=z) (i:Nat) (d:D) (hd:l[i]?=some d) :
  ∃p m q,vs=p++m++q∧p.length=i*z∧m.length=z∧RepC w F d m∧cm w F (l.take i) p∧cm w F (l.drop (i+1)) q:=by
 have hi:i<l.length:=(ai4.1 hd).1;have e:l=l.take i++(d::l.drop (i+1)):=by
  have h1:l[i]=d:=(ai4.1 hd).2
  conv=>lhs;rw [←ajA i l,List.drop_eq_getElem_cons hi,h1]
 rw [e] at h;obtain⟨p,r,rfl,hp,hr⟩:=(fg _ _ _).1 h;obtain⟨m,q,rfl,hm,hq⟩:=ax.1 hr;refine⟨p,m,q,by simp,?_,?_,hm,hp,hq⟩
 ·rw [fP _ _ hp (fun d hd=>hw d (ai6 hd)),aja]
  rw [ajL (by omega)]
 ·rw [xO hm];exact hw d (List.mem_of_getElem? hd)
theorem rP {w:World} {F:Nat→Prop} {z:Nat} (l:List D) (vs:List Value) (h:cm w F l vs) (hw:∀d∈l,d.width=z) (i:Nat):cm w F (l.take i) (vs.take (i*z))∧cm w F (l.drop i) (vs.drop (i*z)):=by
 by_cases hi:i≤l.length
 ·rw [←ajA i l] at h
  obtain⟨p,q,rfl,hp,hq⟩:=(fg _ _ _).1 h;have hl:p.length=i*z:=by
   rw [fP _ _ hp (fun d hd=>hw d (ai6 hd)),aja,ajL hi]
  exact⟨by rw [←hl];simpa using hp,by rw [←hl];simpa using hq⟩
 ·have hl:=fP l vs h hw
  have h2:vs.length≤i*z:=by rw [hl];exact Nat.mul_le_mul_right _ (by omega)
  rw [ajw h2,ajh h2,ajw (by omega),ajh (by omega)];exact⟨h,aZ.2 rfl⟩
theorem qw {w:World} {F:Nat→Prop} (l:List D) (vs:List Value) (hs:l.all D.single=true) (h:cm w F l vs) (i:Nat):cm w F (l.take i) (vs.take i)∧cm w F (l.drop i) (vs.drop i):=by
 have:=rP (z:=1) l vs h (fun d hd=>(gG (ajb.1 hs d hd)).1) i;simpa using this
theorem XO {α:Type} {p:α→Bool} {l:List α} (h:l.all p=true) (i:Nat):(l.take i).all p=true:=ajb.2 fun x hx=>ajb.1 h x (ai6 hx)
theorem wa {α:Type} {p:α→Bool} {l:List α} (h:l.all p=true) (i:Nat):(l.drop i).all p=true:=ajb.2 fun x hx=>ajb.1 h x (ajk hx)
theorem cN.take {w:World} {b o:Nat} {us:List Value} (h:cN w b o us) (n:Nat):cN w b o (us.take n):=fun i u hu=>h i u (by
 rw [List.getElem?_take] at hu;split at hu
 ·exact hu
 ·cases hu)
theorem cN.drop {w:World} {b o:Nat} {us:List Value} (h:cN w b o us) (n:Nat):cN w b (o+n) (us.drop n):=fun i u hu=>by
 rw [ajF] at hu;rw [ajD];exact h _ u hu
theorem cN.part {w:World} {b o:Nat} {p m q:List Value} (h:cN w b o (p++m++q)):cN w b (o+p.length) m:=fun i u hu=>by
 rw [ajD];refine h _ u ?_
 have hi:i<m.length:=by
  rcases ajG i m.length with hi | hi
  ·exact hi
  ·rw [List.getElem?_eq_none hi] at hu;cases hu
 rw [List.append_assoc,List.getElem?_append_right (by omega),Nat.add_sub_cancel_left,List.getElem?_append_left hi];exact hu
theorem ng {w:World} {F:Nat→Prop} {d:D} {y:Value} (hs:d.single=true):bU w F d y↔RepC w F d [y]:=by
 cases d<;>simp_all [D.single,bU]
theorem abE {w:World} {F:Nat→Prop} {d:D} {y:Value} (h:bU w F d y) (hn:∀l,d ≠ .tup l):(∃l,d = .agg l)∨d.single=true:=by
 cases d
 case agg l=>exact .inl ⟨l,rfl⟩
 case tup l=>exact absurd rfl (hn l)
 all_goals exact(rS (vs:=[y]) h).elim (fun⟨_,e⟩=>by cases e) .inr
theorem xC {d:D} (h:d.cells.all D.single=true) (l:List D):d ≠ .tup l:=by
 rintro rfl;simp [D.cells,D.single] at h
theorem gL {w:World} {F:Nat→Prop} {d:D} {y:Value} (h:bU w F d y) (hn:∀l,d ≠ .tup l):RepC w F d y.cells.toList∧d.cells.all D.single=true∧cm w F d.cells y.cells.toList:=by
 rcases abE h hn with ⟨l,rfl⟩ | hs
 ·obtain⟨vs,rfl,hr⟩:=h
  have hr':=hr;simp only [RepC] at hr';exact⟨by simpa [ajv] using hr,hr'.2,by simpa [ajv,D.cells] using hr'.1⟩
 ·rw [ng hs] at h
  obtain⟨u,hu,hc,_⟩:=lP _ _ hs h;simp at hu;subst hu;rw [(gG hs).2,hc];exact⟨h,by simp [hs],ax.2 ⟨_,[],by simp,h,aZ.2 rfl⟩⟩
theorem ct {w:World} {F:Nat→Prop} {x y:Value}:bU w F (.v x) y↔y=x∧flat x=true:=by simp [bU,RepC]
theorem adN {w:World} {F:Nat→Prop} {y:Value}:¬bU w F .bad y:=by simp [bU,RepC]
theorem ae6 {w:World} {F:Nat→Prop} {d:D} {y:Value} (h:bU w F d y):d ≠ .bad:=fun e=>adN (e ▸ h)
theorem Nm {w w':World} {F F':Nat→Prop}:∀(l:List D) (vs:List Value),(l.all fun | .v _=>true | _=>false)=true→cm w F l vs→cm w' F' l vs
 | [],vs,_,h=>by simpa only [cm] using h
 | d::l,vs,hv,h=>by
  obtain⟨v1,v2,rfl,h1,h2⟩:=ax.1 h;simp only [ajj,aiV] at hv;refine ax.2 ⟨v1,v2,rfl,?_,Nm l v2 hv.2 h2⟩
  cases d<;>simp at hv
  simpa only [RepC] using h1
theorem vx {w w':World} {F F':Nat→Prop} {d:D} {y:Value} (hv:d.isV=true) (h:bU w F d y):bU w' F' d y:=by
 cases d
 case v x=>exact ct.2 (ct.1 h)
 case agg l =>
  obtain⟨vs,rfl,hr⟩:=h;refine⟨vs,rfl,?_⟩
  simp only [RepC] at hr ⊢;exact⟨Nm l vs hv hr.1,hr.2⟩
 all_goals exact absurd hv (by simp [D.isV])
def jC:List D→List Value→Bool
 | [],[]=>true
 | .v (.int k a)::l,.int k' b::m=>k==k'&&a==b&&jC l m
 | .v (.bool a)::l,.bool b::m=>a==b&&jC l m
 | .v (.string a)::l,.string b::m=>a.data.toList==b.data.toList&&jC l m
 | .v .nilFunc::l,.nilFunc::m=>jC l m
 | .v .nilIface::l,.nilIface::m=>jC l m
 | .v (.pointer none)::l,.pointer none::m=>jC l m
 | .arr _ []::l,.slice none 0 0::m=>jC l m
 | _,_=>false
def Rc (P:Program):List Field→List (Nat × Nat)→Bool
 | [],[]=>true
 | f::fs,(o,t)::l=>f.offset==o&&f.type==t&&(match P.info? t with
  | some x=>x.size != 0
  | none=>false)&&Rc P fs l
 | _,_=>false
def afi (P:Program) (t c:Nat):Bool :=
 match P.underlying t with
 | some (.int _)=>c==1
 | some .bool=>c==2
 | some .string=>c==3
 | _=>false
def Zk (P:Program):Nat→List Field→List Nat→Bool
 | _,[],[]=>true
 | n,f::fs,c::cs=>f.name != "_"&&f.offset==n&&afi P f.type c&&Zk P (n+1) fs cs
 | _,_,_=>false
def Jl:Value→Bool
 | .agg _=>true
 | _=>false
def aao (P:Program) (t:Nat) (i:TI):Bool :=
 match P.info? t,P.underlying t with
 | some x,some u =>
  (!i.ifc||(match u with
   | .interface _=>true
   | _=>false))&&x.size==i.n&&(match x.zero with
   | some z=>jC i.zero z.cells.toList&&Jl z==i.agg&&i.zero.length==i.n
   | none=>false) &&
  (match u with
   | .struct fs=>i.agg&&i.alen==0&&i.ez==0&&i.ik==none && !i.str && !i.bl&&Rc P fs.toList i.fs &&
     (i.eq==[]||(Zk P 0 fs.toList i.eq&&fs.size==i.n && !P.eqGuardType P.depth t && !P.stoodInHeld t))
   | .array n e=>i.agg&&i.alen==n&&n != 0&&i.elem==e&&i.fs==[]&&i.ik==none && !i.str && !i.bl&&i.eq==[]&&(match P.info? e with
    | some y=>y.size==i.ez&&y.size != 0
    | none=>false)&&i.n==n*i.ez
   | .slice e=>!i.agg&&i.alen==0&&i.elem==e&&i.fs==[]&&i.ik==none && !i.str && !i.bl&&i.eq==[]&&(match P.info? e with
    | some y=>y.size==i.ez&&y.size != 0&&y.bytes==i.eb&&y.bytes != 0
    | none=>false)
   | .int k=>!i.agg&&i.alen==0&&i.ez==0&&i.fs==[]&&i.ik==some k && !i.str && !i.bl&&i.eq==[]
   | .string=>!i.agg&&i.alen==0&&i.ez==0&&i.fs==[]&&i.ik==none&&i.str && !i.bl&&i.eq==[]
   | .bool=>!i.agg&&i.alen==0&&i.ez==0&&i.fs==[]&&i.ik==none && !i.str&&i.bl&&i.eq==[]
   | _=>!i.agg&&i.alen==0&&i.ez==0&&i.fs==[]&&i.ik==none && !i.str && !i.bl&&i.eq==[])
 | _,_=>false
def okT (P:Program):List (Nat × TI)→Bool
 | []=>true
 | (t,i)::l=>aao P t i&&okT P l
theorem Xk {α:Type}:∀(l:List (Nat × α)) (n:Nat) (a:α),en l n=some a→(n,a)∈l
 | [],_,_,h=>by simp [en] at h
 | (k,b)::l,n,a,h=>by
  simp only [en] at h;split at h
  ·rename_i hb
   have:k=n:=ai8 hb;subst this;cases h;simp
  ·exact ajC _ (Xk l n a h)
theorem ach {P:Program} {T:List (Nat × TI)} (h:okT P T=true) {t:Nat} {i:TI} (hl:en T t=some i):aao P t i=true:=by
 have:=Xk T t i hl;clear hl;induction T with
 | nil=>cases this
 | cons p T ih =>
  obtain⟨t',i'⟩:=p;simp only [okT,aiV] at h;rcases ajd.1 this with e | e
  ·cases e;exact h.1
  ·exact ih h.2 e
structure TOk (P:Program) (t:Nat) (i:TI):Prop where
 info:∃x z,P.info? t=some x∧x.size=i.n∧x.zero=some z∧jC i.zero z.cells.toList=true∧Jl z=i.agg
 zl:i.zero.length=i.n
 und:(P.underlying t).isSome=true
 agg:∀w:World,(isAgg t).run P w = .ok i.agg w
 sl:i.ez≠0→i.alen=0→P.underlying t=some (.slice i.elem)∧i.agg=false∧0<i.ez∧0<i.eb∧∃y,P.info? i.elem=some y∧y.size=i.ez∧y.bytes=i.eb
 ar:i.alen≠0→P.underlying t=some (.array i.alen i.elem)∧i.agg=true∧0<i.ez∧i.n=i.alen*i.ez∧∃y,P.info? i.elem=some y∧y.size=i.ez
 fs:∀(f:Nat) (o ty:Nat),i.fs[f]?=some (o,ty)→∃fs fl,P.underlying t=some (.struct fs)∧fs[f]?=some fl∧fl.offset=o∧fl.type=ty∧i.agg=true∧∃y,P.info? ty=some y∧y.size≠0
 st:i.agg=true→i.alen=0→∃fs,P.underlying t=some (.struct fs)∧Rc P fs.toList i.fs=true
 eq:i.eq≠[]→∃fs,P.underlying t=some (.struct fs)∧Zk P 0 fs.toList i.eq=true∧fs.size=i.n∧P.eqGuardType P.depth t=false∧P.stoodInHeld t=false
 ik:∀k,i.ik=some k→P.underlying t=some (.int k)
 str:i.str=true→P.underlying t=some .string∧i.ez=0∧i.alen=0
 bl:i.bl=true→P.underlying t=some .bool
 ifc:i.ifc=true→∃ms,P.underlying t=some (.interface ms)
theorem WA {P:Program}:∀(fs:List Field) (l:List (Nat × Nat)),Rc P fs l=true→∀(f o ty:Nat),l[f]?=some (o,ty)→∃fl,fs[f]?=some fl∧fl.offset=o∧fl.type=ty∧∃y,P.info? ty=some y∧y.size≠0
 | [],[],_,f,o,ty,h=>by simp at h
 | g::fs,(o',t')::l,hk,f,o,ty,h=>by
  simp only [Rc,aiV,beq_iff_eq] at hk;obtain⟨⟨⟨h1,h2⟩,h3⟩,h4⟩:=hk;cases f with
  | zero =>
   simp at h;obtain⟨rfl,rfl⟩:=h;refine⟨g,rfl,h1,h2,?_⟩
   split at h3
   ·rename_i x hx;exact⟨x,hx,by simpa using h3⟩
   ·cases h3
  | succ f=>exact WA fs l h4 f o ty (by simpa using h)
 | [],_::_,hk,_,_,_,_=>by simp [Rc] at hk
 | _::_,[],hk,_,_,_,_=>by simp [Rc] at hk
def ad3:TypeDesc→Bool
 | .struct _=>true
 | .array _ _=>true
 | _=>false
theorem aev {P:Program} {t:Nat} {i:TI} (h:aao P t i=true):TOk P t i:=by
 unfold aao at h;split at h
 case h_2=>cases h
 case h_1 x u hx hu =>
  simp only [aiV] at h;obtain⟨⟨⟨hif,hn⟩,hz⟩,hk⟩:=h;have hifc:i.ifc=true→∃ms,P.underlying t=some (.interface ms):=by
   intro e;rw [e] at hif;simp only [Bool.not_true,Bool.false_or] at hif;split at hif
   ·rename_i ms;exact⟨ms,hu⟩
   ·cases hif
  clear hif;have hinfo:∃x z,P.info? t=some x∧x.size=i.n∧x.zero=some z∧jC i.zero z.cells.toList=true∧Jl z=i.agg:=by
   split at hz
   ·rename_i z hzz
    simp only [aiV,beq_iff_eq] at hz;exact⟨x,z,hx,by simpa using hn,hzz,hz.1.1,hz.1.2⟩
   ·cases hz
  have hzl:i.zero.length=i.n:=by
   split at hz
   ·simp only [aiV,beq_iff_eq] at hz
    exact hz.2
   ·cases hz
  have hund:(P.underlying t).isSome=true:=by rw [hu];rfl
  have hagg:∀(w:World) (b:Bool),ad3 u=b→(isAgg t).run P w = .ok b w:=by
   intro w b hb;subst hb;simp only [isAgg,aiW,run_underlying hu,aiU];cases u<;>rfl
  have mk:∀(b:Bool),ad3 u=false→i.agg=false→i.alen=0→i.ez=0→i.fs=[]→i.eq=[] →
    (∀k,i.ik=some k→P.underlying t=some (.int k))→(i.str=true→P.underlying t=some .string)→(i.bl=true→P.underlying t=some .bool)→TOk P t i:=by
   intro _ hb a1 a2 a3 a4 a5 a6 a7 a8;exact⟨hinfo,hzl,hund,fun w=>hagg w _ (hb.trans a1.symm),fun h=>absurd a3 h,fun h=>absurd a2 h,fun f o ty hf=>by(rw [a4] at hf;simp at hf),fun h=>by(rw [a1] at h;cases h),fun h=>absurd a5 h,a6,fun h=>⟨a7 h,a3,a2⟩,a8,hifc⟩
  have other:(!i.agg&&i.alen==0&&i.ez==0&&i.fs==[]&&i.ik==none && !i.str && !i.bl&&i.eq==[])=true →
    (i.agg=false→i.alen=0→i.ez=0→i.fs=[]→i.eq=[]→(∀k,i.ik=some k→P.underlying t=some (.int k))→(i.str=true→P.underlying t=some .string)→(i.bl=true→P.underlying t=some .bool)→TOk P t i)→TOk P t i:=by
   intro hk mk;simp only [aiV,ai2,beq_iff_eq] at hk;obtain⟨⟨⟨⟨⟨⟨⟨a1,a2⟩,a3⟩,a4⟩,a5⟩,a6⟩,a7⟩,a8⟩:=hk;exact mk a1 a2 a3 a4 a8 (fun k' hk=>by(rw [a5] at hk;cases hk)) (fun h=>by(rw [a6] at h;cases h)) (fun h=>by(rw [a7] at h;cases h))
  clear hz hn
  match u,hu,hk,hagg,mk with
  | .struct fs,hu,hk,hagg,_ =>
   simp only [aiV,ai2,beq_iff_eq] at hk;obtain⟨⟨⟨⟨⟨⟨⟨a1,a2⟩,a3⟩,a4⟩,a5⟩,a6⟩,a7⟩,a8⟩:=hk;refine⟨hinfo,hzl,hund,fun w=>hagg w _ a1.symm,fun h=>absurd a3 h,fun h=>absurd a2 h,fun f o ty hf=>?_,fun _ _=>⟨fs,hu,a7⟩,fun he=>?_,fun k hk=>by(rw [a4] at hk;cases hk),fun h=>by(rw [a5] at h;cases h),fun h=>by(rw [a6] at h;cases h),hifc⟩
   ·obtain⟨fl,h1,h2,h3,h4⟩:=WA _ _ a7 f o ty hf
    exact⟨fs,fl,hu,by simpa using h1,h2,h3,a1,h4⟩
   ·simp only [Bool.or_eq_true,beq_iff_eq,aiV,ai2] at a8
    rcases a8 with a8 | a8
    ·exact absurd a8 he
    ·exact⟨fs,hu,a8.1.1.1,a8.1.1.2,a8.1.2,a8.2⟩
  | .array n e,hu,hk,hagg,_ =>
   simp only [aiV,ai2,beq_iff_eq,bne_iff_ne,ne_eq] at hk;obtain⟨⟨⟨⟨⟨⟨⟨⟨⟨⟨a1,a2⟩,a3⟩,a4⟩,a5⟩,a6⟩,a7⟩,a8⟩,a9⟩,a10⟩,a11⟩:=hk;refine⟨hinfo,hzl,hund,fun w=>hagg w _ a1.symm,fun _ h=>absurd (a2 ▸ h) a3,fun _=>?_,fun f o ty hf=>by(rw [a5] at hf;simp at hf),fun _ h=>absurd (a2 ▸ h) a3,fun h=>absurd a9 h,fun k hk=>by(rw [a6] at hk;cases hk),fun h=>by(rw [a7] at h;cases h),fun h=>by(rw [a8] at h;cases h),hifc⟩
   split at a10
   ·rename_i y hy
    simp only [aiV,beq_iff_eq,bne_iff_ne,ne_eq] at a10;refine⟨by rw [hu,a2,a4],a1,by omega,by rw [a2];exact a11,y,by rw [a4];exact hy,a10.1⟩
   ·cases a10
  | .slice e,hu,hk,hagg,_ =>
   simp only [aiV,ai2,beq_iff_eq] at hk;obtain⟨⟨⟨⟨⟨⟨⟨⟨a1,a2⟩,a3⟩,a4⟩,a5⟩,a6⟩,a7⟩,a8⟩,a9⟩:=hk;refine⟨hinfo,hzl,hund,fun w=>hagg w _ a1.symm,fun _ _=>?_,fun h=>absurd a2 h,fun f o ty hf=>by(rw [a4] at hf;simp at hf),fun h=>by(rw [a1] at h;cases h),fun h=>absurd a8 h,fun k hk=>by(rw [a5] at hk;cases hk),fun h=>by(rw [a6] at h;cases h),fun h=>by(rw [a7] at h;cases h),hifc⟩
   split at a9
   ·rename_i y hy
    simp only [aiV,beq_iff_eq,bne_iff_ne,ne_eq] at a9;obtain⟨⟨⟨b1,b2⟩,b3⟩,b4⟩:=a9;exact⟨by rw [hu,a3],a1,by omega,by omega,y,by rw [a3];exact hy,b1,b3⟩
   ·cases a9
  | .int k,hu,hk,_,mk =>
   simp only [aiV,ai2,beq_iff_eq] at hk;obtain⟨⟨⟨⟨⟨⟨⟨a1,a2⟩,a3⟩,a4⟩,a5⟩,a6⟩,a7⟩,a8⟩:=hk;exact mk true rfl a1 a2 a3 a4 a8 (fun k' hk=>by rw [a5] at hk;cases hk;exact hu) (fun h=>by rw [a6] at h;cases h) (fun h=>by rw [a7] at h;cases h)
  | .string,hu,hk,_,mk =>
   simp only [aiV,ai2,beq_iff_eq] at hk;obtain⟨⟨⟨⟨⟨⟨⟨a1,a2⟩,a3⟩,a4⟩,a5⟩,a6⟩,a7⟩,a8⟩:=hk;exact mk true rfl a1 a2 a3 a4 a8 (fun k' hk=>by rw [a5] at hk;cases hk) (fun _=>hu) (fun h=>by rw [a7] at h;cases h)
  | .bool,hu,hk,_,mk =>
   simp only [aiV,ai2,beq_iff_eq] at hk;obtain⟨⟨⟨⟨⟨⟨⟨a1,a2⟩,a3⟩,a4⟩,a5⟩,a6⟩,a7⟩,a8⟩:=hk;exact mk true rfl a1 a2 a3 a4 a8 (fun k' hk=>by rw [a5] at hk;cases hk) (fun h=>by rw [a6] at h;cases h) (fun _=>hu)
  | .invalid,_,hk,_,mk=>exact other hk (mk true rfl)
  | .float _,_,hk,_,mk=>exact other hk (mk true rfl)
  | .complex _,_,hk,_,mk=>exact other hk (mk true rfl)
  | .unsafePointer,_,hk,_,mk=>exact other hk (mk true rfl)
  | .pointer _,_,hk,_,mk=>exact other hk (mk true rfl)
  | .map _ _,_,hk,_,mk=>exact other hk (mk true rfl)
  | .chan _ _,_,hk,_,mk=>exact other hk (mk true rfl)
  | .func _ _ _,_,hk,_,mk=>exact other hk (mk true rfl)
  | .interface _,_,hk,_,mk=>exact other hk (mk true rfl)
  | .tuple _,_,hk,_,mk=>exact other hk (mk true rfl)
  | .named _ _,_,hk,_,mk=>exact other hk (mk true rfl)
theorem TOk.size {P:Program} {t:Nat} {i:TI} (h:TOk P t i) (w:World):(sizeOf t).run P w = .ok i.n w:=by
 obtain⟨x,z,hx,hn,_⟩:=h.info;simp [sizeOf,typeInfo,hx,hn]
theorem fu {P:Program} {e:Nat} {y:TypeInfo} (h:P.info? e=some y) (w:World):(sizeOf e).run P w = .ok y.size w:=by simp [sizeOf,typeInfo,h]
theorem lq {w:World} {F:Nat→Prop} {x:Value} (h:flat x=true):RepC w F (.v x) [x]:=by simp only [RepC];exact⟨trivial,h⟩
theorem lV {w:World} {F:Nat→Prop} {z:Nat}:RepC w F (.arr z []) [.slice none 0 0]:=by
 simp only [RepC];exact⟨none,0,[],rfl,ajn _,aZ.2 rfl,fun d hd=>(List.not_mem_nil hd).elim,fun h=>absurd rfl h⟩
theorem gi {w:World} {F:Nat→Prop}:∀(l:List D) (vs:List Value),jC l vs=true→cm w F l vs∧l.all D.single=true
 | [],[],_=>⟨aZ.2 rfl,rfl⟩
 | .v (.int k a)::l,.int k' b::m,h=>by
  simp only [jC,aiV,beq_iff_eq] at h;obtain⟨⟨rfl,rfl⟩,h⟩:=h;obtain⟨g1,g2⟩:=gi (w:=w) (F:=F) l m h;exact⟨ax.2 ⟨_,_,rfl,lq rfl,g1⟩,by simp [D.single,g2]⟩
 | .v (.bool a)::l,.bool b::m,h=>by
  simp only [jC,aiV,beq_iff_eq] at h;obtain⟨rfl,h⟩:=h;obtain⟨g1,g2⟩:=gi (w:=w) (F:=F) l m h;exact⟨ax.2 ⟨_,_,rfl,lq rfl,g1⟩,by simp [D.single,g2]⟩
 | .v (.string a)::l,.string b::m,h=>by
  simp only [jC,aiV,beq_iff_eq] at h;obtain⟨h1,h⟩:=h;have e:a=b:=by
   obtain⟨⟨a⟩⟩:=a;obtain⟨⟨b⟩⟩:=b;simpa using h1
  subst e;obtain⟨g1,g2⟩:=gi (w:=w) (F:=F) l m h;exact⟨ax.2 ⟨_,_,rfl,lq rfl,g1⟩,by simp [D.single,g2]⟩
 | .v .nilFunc::l,.nilFunc::m,h=>by
  obtain⟨g1,g2⟩:=gi (w:=w) (F:=F) l m (by simpa [jC] using h);exact⟨ax.2 ⟨_,_,rfl,lq rfl,g1⟩,by simp [D.single,g2]⟩
 | .v .nilIface::l,.nilIface::m,h=>by
  obtain⟨g1,g2⟩:=gi (w:=w) (F:=F) l m (by simpa [jC] using h);exact⟨ax.2 ⟨_,_,rfl,lq rfl,g1⟩,by simp [D.single,g2]⟩
 | .v (.pointer none)::l,.pointer none::m,h=>by
  obtain⟨g1,g2⟩:=gi (w:=w) (F:=F) l m (by simpa [jC] using h);exact⟨ax.2 ⟨_,_,rfl,lq rfl,g1⟩,by simp [D.single,g2]⟩
 | .arr z []::l,.slice none 0 0::m,h=>by
  obtain⟨g1,g2⟩:=gi (w:=w) (F:=F) l m (by simpa [jC] using h);exact⟨ax.2 ⟨_,_,rfl,lV,g1⟩,by simp [D.single,g2]⟩
theorem abK {e:TI} (h:e.zero.all D.single=true) {m:List D} (hm:Lh e = .tup m):False:=by
 unfold Lh at hm;cases hg:e.agg<;>rw [hg] at hm<;>simp only at hm
 ·cases hz:e.zero with
  | nil=>rw [hz] at hm;cases hm
  | cons d l =>
   rw [hz] at h hm;simp only at hm;subst hm;simp [D.single] at h
 ·cases hm
theorem TOk.zero {P:Program} {t:Nat} {i:TI} (h:TOk P t i):∃z,(∀w:World,(zeroValue t).run P w = .ok z w)∧(∀(w:World) (F:Nat→Prop),bU w F (Lh i) z∧cm w F i.zero z.cells.toList)∧i.zero.all D.single=true∧z.cells.size=i.zero.length:=by
 obtain⟨x,z,hx,hn,hz,h0,ha⟩:=h.info;obtain⟨_,hs⟩:=gi (w:=default) (F:=fun _=>True) _ _ h0;refine⟨z,fun w=>by simp [zeroValue,typeInfo,hx,hz],fun w F=>?_,hs,?_⟩
 ·obtain⟨g,_⟩:=gi (w:=w) (F:=F) _ _ h0
  refine⟨?_,g⟩
  unfold Lh;cases hb:i.agg
  ·cases z<;>first
    | (simp only [Jl] at ha;rw [hb] at ha;cases ha)
    | skip
   all_goals
    simp only [ajv] at g;generalize i.zero=l at g hs;cases l with
    | nil=>rw [aZ] at g;cases g
    | cons d l =>
     obtain⟨v1,v2,e,h1,h2⟩:=ax.1 g;simp only [ajj,aiV] at hs;obtain⟨y,rfl,_⟩:=lP d v1 hs.1 h1;simp at e;rw [ng hs.1,e.1];exact h1
  ·cases z<;>first
    | (simp only [Jl] at ha;rw [hb] at ha;cases ha)
    | skip
   exact⟨_,rfl,by simp only [RepC];exact⟨g,hs⟩⟩
 ·obtain⟨g,_⟩:=gi (w:=default) (F:=fun _=>True) _ _ h0
  simpa using (dY _ _ hs g).1
def dw (w:World) (F:Nat→Prop) (d:D) (y:Value):Prop:=d = .bad∨bU w F d y
section
variable {P:Program} {w:World} {F G:Nat→Prop}
theorem dw.rep {d:D} {y:Value} (h:dw w F d y) (hd:d ≠ .bad):bU w F d y:=h.resolve_left hd
theorem bG {x y:Value} (h:dw w F (.v x) y):y=x∧flat x=true:=ct.1 (h.rep (by simp))
theorem dg {x:Value} (hx:flat x=true):bU w F (.v x) x:=ct.2 ⟨rfl,hx⟩
theorem Kw:∀(fs:List Field) (n:Nat) (c:List Nat) (l m:List D) (us vs xs ys:List Value) (q:Bool),Zk P n fs c=true→zP c l m=some q→xs.length=n→ys.length=n→cm w F l us→cm w G m vs →
  (ajx 9999 (xs++us).toArray (ys++vs).toArray fs).run P w = .ok q w
 | [],n,[],l,m,us,vs,xs,ys,q,_,he,_,_,_,_=>by
  cases l<;>cases m<;>simp [zP] at he
  subst he;simp [ajx]
 | f::fs,n,c::cs,l,m,us,vs,xs,ys,q,hk,he,hx,hy,hu,hv=>by
  simp only [Zk,aiV,bne_iff_ne,ne_eq,beq_iff_eq] at hk;obtain⟨⟨⟨h1,h2⟩,h3⟩,h4⟩:=hk;have fin:∀(a b:Value) (l' m':List D) (us' vs':List Value) (r:Bool),us=a::us'→vs=b::vs'→cm w F l' us'→cm w G m' vs'→(zP cs l' m').map (r&&·)=some q →
    (isAgg f.type).run P w = .ok false w→(ai7 9999 f.type a b).run P w = .ok r w→(ajx 9999 (xs++us).toArray (ys++vs).toArray (f::fs)).run P w = .ok q w:=by
   intro a b l' m' us' vs' r e1 e2 g1 g2 g4 p0 p3;subst e1 e2;have p1:(part f.type (xs++a::us').toArray f.offset).run P w = .ok a w:=by simp [part,p0,h2,hx]
   have p2:(part f.type (ys++b::vs').toArray f.offset).run P w = .ok b w:=by simp [part,p0,h2,hy]
   obtain⟨q',g3,g5⟩:=ai0.1 g4;simp only [ajx,h1,not_false_eq_true,if_true,ne_eq,aiW,p1,p2,p3,aiU,Sem.run_ite];cases r
   ·simp at g5;simp [g5]
   ·simp only [Bool.not_true,ajg,if_false,Bool.true_and] at g5 ⊢
    subst g5;have ih:=Kw fs (n+1) cs l' m' us' vs' (xs++[a]) (ys++[b]) q' h4 g3 (by simp [hx]) (by simp [hy]) g1 g2;simpa using ih
  unfold zP at he;split at he
  ·cases ‹_::_=[]›
  ·rename_i c' k a l' k' b m' _
   split at he
   ·rename_i hkk
    subst hkk;obtain⟨v1,v2,rfl,r1,r2⟩:=ax.1 hu;obtain⟨u1,u2,rfl,s1,s2⟩:=ax.1 hv;simp only [RepC] at r1 s1;obtain⟨rfl,_⟩:=r1;obtain⟨rfl,_⟩:=s1;cases ‹c::cs=_›;unfold afi at h3;split at h3<;>simp at h3
    rename_i kk hu;exact fin _ _ _ _ _ _ _ rfl rfl r2 s2 he (by simp [isAgg,run_underlying hu]) (run_equalIn_int w _ _ _ _ _ _ hu)
   ·cases he
  ·rename_i c' a l' b m' _
   obtain⟨v1,v2,rfl,r1,r2⟩:=ax.1 hu;obtain⟨u1,u2,rfl,s1,s2⟩:=ax.1 hv;simp only [RepC] at r1 s1;obtain⟨rfl,_⟩:=r1;obtain⟨rfl,_⟩:=s1;cases ‹c::cs=_›;unfold afi at h3;split at h3<;>simp at h3
   rename_i hu;exact fin _ _ _ _ _ _ _ rfl rfl r2 s2 he (by simp [isAgg,run_underlying hu]) (run_equalIn_bool' w _ _ _ _ hu)
  ·rename_i c' a l' b m' _
   obtain⟨v1,v2,rfl,r1,r2⟩:=ax.1 hu;obtain⟨u1,u2,rfl,s1,s2⟩:=ax.1 hv;simp only [RepC] at r1 s1;obtain⟨rfl,_⟩:=r1;obtain⟨rfl,_⟩:=s1;cases ‹c::cs=_›;unfold afi at h3;split at h3<;>simp at h3
   rename_i hu;exact fin _ _ _ _ _ _ _ rfl rfl r2 s2 he (by simp [isAgg,run_underlying hu]) (run_equalIn_string w _ _ _ _ hu)
  ·cases he
 | [],n,_::_,_,_,_,_,_,_,_,hk,_,_,_,_,_=>by simp [Zk] at hk
 | _::_,n,[],_,_,_,_,_,_,_,hk,_,_,_,_,_=>by simp [Zk] at hk
theorem afa {op:BinOp} {t:Nat} {k:IntKind} {a b:Int} {z:D} (h:mG op k a b=some z):∃v,(binOp op t (.int k a) (.int k b)).run P w = .ok v w∧z = .v v∧flat v=true:=by
 cases op<;>simp only [mG,ajo] at h
 case quo =>
  split at h<;>simp at h
  rename_i hb;exact⟨_,by simp [binOp_quo,Op.intDiv,hb],h.symm,rfl⟩
 case rem =>
  split at h<;>simp at h
  rename_i hb;exact⟨_,by simp [binOp_rem,Op.intDiv,hb],h.symm,rfl⟩
 case shl=>cases h
 case shr=>cases h
 all_goals
  subst h;refine⟨_,?_,rfl,rfl⟩
  first
  | simp [binOp_add,ajy];done
  | simp [binOp_sub,ajy];done
  | simp [binOp_mul,ajy];done
  | simp [binOp_and,intBits_and];done
  | simp [binOp_or,intBits_or];done
  | simp [binOp_xor,intBits_xor];done
  | simp [binOp_andNot,intBits_andNot];done
  | simp [binOp_eql];done
  | simp [binOp_neq];done
  | simp [binOp_lss];done
  | simp [binOp_leq];done
  | simp [binOp_gtr];done
  | simp [binOp_geq];done
theorem aeX {op:BinOp} {t:Nat} {a b:ByteArray} {z:D} (h:JX op a b=some z):∃v,(binOp op t (.string a) (.string b)).run P w = .ok v w∧z = .v v∧flat v=true:=by
 have e:binOp op t (.string a) (.string b)=ajI op a b:=by cases op<;>rfl
 rw [e];cases op<;>simp only [JX,ajo] at h<;>try (cases h;done)
 case add =>
  split at h<;>simp at h
  rename_i hb;subst h;refine⟨_,?_,rfl,rfl⟩
  have:¬(((a.size+b.size:Nat):Int)>IntKind.i64.max):=by rw [IntKind.max_i64];omega
  simp only [ajI,if_neg this,ai1]
 all_goals
  subst h;exact⟨_,by simp [ajI],rfl,rfl⟩
theorem aeA {op:BinOp} {t:Nat} {i:TI} (hi:TOk P t i) {a b z:D} {x y:Value} (ox oy:Operand) (ha:dw w F a x) (hb:dw w G b y) (h:bin op i.bl i.eq a b=some z) :
  ∃v,(do eqGuard op t ox oy x y;binOp op t x y:Sem Value).run P w = .ok v w∧z = .v v∧flat v=true:=by
 unfold bin at h;split at h
 ·rename_i k a' _ b'
  obtain⟨rfl,_⟩:=bG ha;obtain⟨rfl,_⟩:=bG hb;split at h<;>simp at h
  rename_i h0;subst h;refine⟨_,?_,rfl,rfl⟩
  rw [eqGuard_at_int];simp [binOp_shl,Op.shift,Int.not_lt.2 h0]
 ·rename_i k a' _ b'
  obtain⟨rfl,_⟩:=bG ha;obtain⟨rfl,_⟩:=bG hb;split at h<;>simp at h
  rename_i h0;subst h;refine⟨_,?_,rfl,rfl⟩
  rw [eqGuard_at_int];simp [binOp_shr,Op.shift,Int.not_lt.2 h0]
 ·rename_i k a' k' b' _ _
  obtain⟨rfl,_⟩:=bG ha;obtain⟨rfl,_⟩:=bG hb;by_cases hk:k=k'
  case neg=>rw [if_neg hk] at h;cases h
  rw [if_pos hk] at h;subst hk;obtain⟨v,h1,h2,h3⟩:=afa (P:=P) (w:=w) (t:=t) h;refine⟨v,?_,h2,h3⟩
  rw [eqGuard_at_int];simpa using h1
 ·obtain⟨rfl,_⟩:=bG ha
  obtain⟨rfl,_⟩:=bG hb;obtain⟨v,h1,h2,h3⟩:=aeX (P:=P) (w:=w) (t:=t) h;refine⟨v,?_,h2,h3⟩
  rw [eqGuard_at_string];simpa using h1
 ·obtain⟨rfl,_⟩:=bG ha
  obtain⟨rfl,_⟩:=bG hb;split at h<;>simp at h
  rename_i hbl;subst h;refine⟨_,?_,rfl,rfl⟩
  rw [eqGuard_at_bool];simp [binOp,ajc,aji,run_equalIn_bool' w _ t _ _ (hi.bl hbl)]
 ·obtain⟨rfl,_⟩:=bG ha
  obtain⟨rfl,_⟩:=bG hb;split at h<;>simp at h
  rename_i hbl;subst h;refine⟨_,?_,rfl,rfl⟩
  rw [eqGuard_at_bool];simp [binOp,ajc,aji,run_equalIn_bool' w _ t _ _ (hi.bl hbl)]
 ·split at h
  ·cases h
  ·rename_i he
   obtain⟨q,hq,rfl⟩:=ai0.1 h;obtain⟨us,rfl,r1⟩:=ha.rep (by simp);obtain⟨vs,rfl,s1⟩:=hb.rep (by simp);simp only [RepC] at r1 s1;obtain⟨fs,f1,f2,f3,f4,f5⟩:=hi.eq he;have hfs:P.fieldsOf t=fs:=by simp [Program.fieldsOf,f1]
   refine⟨_,?_,rfl,rfl⟩
   have key:=Kw (P:=P) fs.toList 0 i.eq _ _ us vs [] [] q f2 hq rfl rfl r1.1 s1.1;simp only [ajs] at key;simp only [aiW,run_eqGuard_agg w _ _ _ _ _ _ f4,aiU,run_eql_struct,run_equalIn_agg w 9999 t _ _ (by rw [hfs];exact f1) f5,hfs,key]
 ·split at h
  ·cases h
  ·rename_i he
   obtain⟨q,hq,rfl⟩:=ai0.1 h;obtain⟨us,rfl,r1⟩:=ha.rep (by simp);obtain⟨vs,rfl,s1⟩:=hb.rep (by simp);simp only [RepC] at r1 s1;obtain⟨fs,f1,f2,f3,f4,f5⟩:=hi.eq he;have hfs:P.fieldsOf t=fs:=by simp [Program.fieldsOf,f1]
   refine⟨_,?_,rfl,rfl⟩
   have key:=Kw (P:=P) fs.toList 0 i.eq _ _ us vs [] [] q f2 hq rfl rfl r1.1 s1.1;simp only [ajs] at key;simp only [aiW,run_eqGuard_agg w _ _ _ _ _ _ f4,aiU,run_neq_struct,run_equalIn_agg w 9999 t _ _ (by rw [hfs];exact f1) f5,hfs,key]
 ·cases h
theorem aed {op:BinOp} {t:Nat} {i:TI} (hi:TOk P t i) (hs:rN i=true) {a z:D} {x:Value} (ox oy:Operand) (ha:dw w F a x) (h:abG op a=some z) :
  ∃v,(do eqGuard op t ox oy x (.slice none 0 0);binOp op t x (.slice none 0 0):Sem Value).run P w = .ok v w∧z = .v v∧flat v=true:=by
 have hez:i.ez≠0∧i.alen=0:=by
  unfold rN at hs;split at hs
  ·cases hs
  ·rename_i e1 h2
   exact⟨h2,e1⟩
  ·cases hs
 obtain⟨hu,_⟩:=hi.sl hez.1 hez.2;have eq1:∀(b:Addr) (n c:Nat),(ajc t (.slice (some b) n c) (.slice none 0 0)).run P w = .ok false w:=fun b n c=>by
  have h:∀d:Nat,(ai7 (d+1) t (.slice (some b) n c) (.slice none 0 0)).run P w = .ok false w:=fun d=>by
   simp [ai7,run_underlying hu]
  simp [ajc,aji,h 9999]
 have eq2:(ajc t (.slice none 0 0) (.slice none 0 0)).run P w = .ok true w:=by
  have h:∀d:Nat,(ai7 (d+1) t (.slice none 0 0) (.slice none 0 0)).run P w = .ok true w:=fun d=>by
   simp [ai7,run_underlying hu]
  simp [ajc,aji,h 9999]
 have g1:∀(op:BinOp) (b:Option Addr) (n c:Nat),(eqGuard op t ox oy (.slice b n c) (.slice none 0 0)).run P w = .ok () w:=fun op b n c=>by
  cases op<;>simp [eqGuard]
 unfold abG at h;split at h
 ·obtain⟨rfl,_⟩:=bG ha
  cases h;refine⟨_,?_,rfl,rfl⟩
  simp only [aiW,g1,aiU,binOp,eq2];rfl
 ·obtain⟨rfl,_⟩:=bG ha
  cases h;refine⟨_,?_,rfl,rfl⟩
  simp only [aiW,g1,aiU,binOp,eq2];rfl
 ·have hr:=ha.rep (by simp)
  simp only [bU,RepC] at hr;obtain⟨A,c,us,e,_,_,_,hA⟩:=hr;obtain⟨b,o,rfl,_⟩:=hA (by simp);simp only [aiX,and_true] at e;subst e;cases h;refine⟨_,?_,rfl,rfl⟩
  simp only [aiW,g1,aiU,binOp,eq1];rfl
 ·have hr:=ha.rep (by simp)
  simp only [bU,RepC] at hr;obtain⟨A,c,us,e,_,_,_,hA⟩:=hr;obtain⟨b,o,rfl,_⟩:=hA (by simp);simp only [aiX,and_true] at e;subst e;cases h;refine⟨_,?_,rfl,rfl⟩
  simp only [aiW,g1,aiU,binOp,eq1];rfl
 ·cases h
theorem abZ {op:BinOp} {t:Nat} {i:TI} (hi:TOk P t i) (hf:i.ifc=true) {a b z:D} {x y:Value} {nc:Bool} (ox oy:Operand) (hc:nc=true→∃v,oy = .const v) (ha:dw w F a x) (hb:dw w G b y) (h:ZF nc op a b=some z) :
  ∃v,(do eqGuard op t ox oy x y;binOp op t x y:Sem Value).run P w = .ok v w∧z = .v v∧flat v=true:=by
 obtain⟨ms,hu⟩:=hi.ifc hf;have eq1:∀(tx:TypeId) (v:Value),(ajc t (.iface tx v) .nilIface).run P w = .ok false w:=fun tx v=>by
  have h:∀d:Nat,(ai7 (d+1) t (.iface tx v) .nilIface).run P w = .ok false w:=fun d=>by
   simp [ai7,run_underlying hu]
  simp [ajc,aji,h 9999]
 have eq2:(ajc t .nilIface .nilIface).run P w = .ok true w:=by
  have h:∀d:Nat,(ai7 (d+1) t .nilIface .nilIface).run P w = .ok true w:=fun d=>by
   simp [ai7,run_underlying hu]
  simp [ajc,aji,h 9999]
 have g1:∀(op:BinOp) (tx:TypeId) (v:Value),(eqGuard op t ox oy (.iface tx v) .nilIface).run P w = .ok () w:=fun op tx v=>by
  cases op<;>simp [eqGuard]
 have g2:nc=true→∀op:BinOp,(eqGuard op t ox oy .nilIface .nilIface).run P w = .ok () w:=fun hn op=>by
  obtain⟨v,rfl⟩:=hc hn;cases op<;>simp [eqGuard]
 unfold ZF at h;split at h
 ·obtain⟨tx,v,e⟩:=ha.rep (by simp)
  obtain⟨rfl,_⟩:=bG hb;simp only [aiX,and_true] at e;subst e;cases h;refine⟨_,?_,rfl,rfl⟩
  simp only [aiW,g1,aiU,binOp,eq1];rfl
 ·obtain⟨tx,v,e⟩:=ha.rep (by simp)
  obtain⟨rfl,_⟩:=bG hb;simp only [aiX,and_true] at e;subst e;cases h;refine⟨_,?_,rfl,rfl⟩
  simp only [aiW,g1,aiU,binOp,eq1];rfl
 ·obtain⟨rfl,_⟩:=bG ha
  obtain⟨rfl,_⟩:=bG hb;split at h
  case isFalse=>cases h
  rename_i hn;cases h;refine⟨_,?_,rfl,rfl⟩
  simp only [aiW,g2 hn,aiU,binOp,eq2];rfl
 ·obtain⟨rfl,_⟩:=bG ha
  obtain⟨rfl,_⟩:=bG hb;split at h
  case isFalse=>cases h
  rename_i hn;cases h;refine⟨_,?_,rfl,rfl⟩
  simp only [aiW,g2 hn,aiU,binOp,eq2];rfl
 ·cases h
theorem agq {op:UnOp} {a z:D} {x:Value} (ha:dw w F a x) (h:un op a=some z):∃v,(Op.unary op x).run P w = .ok v w∧z = .v v∧flat v=true:=by
 unfold un at h;split at h
 ·obtain⟨rfl,_⟩:=bG ha
  simp at h;subst h;exact⟨_,by simp [Op.unary,ajy],rfl,rfl⟩
 ·obtain⟨rfl,_⟩:=bG ha
  simp at h;subst h;exact⟨_,by simp [Op.unary],rfl,rfl⟩
 ·cases h
theorem acr {q a b z:D} {xq xa xb:Value} (hq:dw w F q xq) (ha:dw w G a xa) (hb:dw w G b xb) (h:aS q a b=some z):∃y,(do pure (if ←asBool xq then xa else xb):Sem Value).run P w = .ok y w∧dw w G z y:=by
 unfold aS at h;split at h
 ·obtain⟨rfl,_⟩:=bG hq
  simp at h;subst h;exact⟨xa,by simp [asBool],ha⟩
 ·obtain⟨rfl,_⟩:=bG hq
  simp at h;subst h;exact⟨xb,by simp [asBool],hb⟩
 ·cases h
theorem ad7 {src dst:Nat} {si di:TI} (hs:TOk P src si) (hd:TOk P dst di) {a z:D} {x:Value} (ha:dw w F a x) (h:oz di.ik (match di.str with | true=>si.str | false=>false) a=some z) :
  ∃v,(convert src dst x).run P w = .ok v w∧z = .v v∧flat v=true:=by
 unfold oz at h;split at h
 ·rename_i k kk n hk
  obtain⟨rfl,_⟩:=bG ha;simp at h;subst h;obtain⟨d,hu⟩:=Option.isSome_iff_exists.1 hs.und;refine⟨_,?_,rfl,rfl⟩
  simp [convert,run_underlying hu,run_underlying (hd.ik k hk),Conv.intToInt]
 ·rename_i s hk
  obtain⟨rfl,_⟩:=bG ha;simp at h;subst h;split at hk
  ·rename_i hdd
   have h1:=(hd.str hdd).1;have h2:=(hs.str hk).1;refine⟨_,?_,rfl,rfl⟩
   simp [convert,run_underlying h1,run_underlying h2]
  ·cases hk
 ·cases h
theorem rJ {t:Nat} {i:TI} (hi:TOk P t i) (h:rN i=true):P.underlying t=some (.slice i.elem)∧i.agg=false∧0<i.ez∧0<i.eb∧∃y,P.info? i.elem=some y∧y.size=i.ez∧y.bytes=i.eb:=by
 unfold rN at h;split at h
 ·cases h
 ·rename_i h1 h2
  exact hi.sl (by intro h0;exact h2 h0) h1
 ·cases h
theorem qy {z:Nat} {l:List D} {y:Value} (h:bU w F (.arr z l) y):∃A c us,y = .slice A l.length c∧l.length≤c∧cm w F l us∧(∀d∈l,d.width=z)∧(l≠[]→∃b o,A=some ⟨b,o,none⟩∧F b∧cN w b o us):=by
 simp only [bU,RepC] at h;obtain⟨A,c,us,h1,h2⟩:=h;simp at h1;exact⟨A,c,us,h1,h2⟩
theorem Hf {l:List D} {y:Value} (h:bU w F (.ptr l) y):∃b o us,y = .pointer (some ⟨b,o,none⟩)∧cm w F l us∧l.all D.single=true∧F b∧cN w b o us:=by
 simp only [bU,RepC] at h;obtain⟨b,o,us,h1,h2⟩:=h;simp at h1;exact⟨b,o,us,h1,h2⟩
theorem aeT {t ty:Nat} {str:Bool} {a z:D} {x:Value} (ha:dw w F a x) (hs:str=false→∃e,P.underlying t=some (.slice e)) (ht:str=true→P.underlying t=some .string) (h:lenD str a=some z) :
  ∃v,(ajH #[t] ty #[x]).run P w = .ok v w∧z = .v v∧flat v=true:=by
 unfold lenD at h;split at h
 ·obtain⟨e,hu⟩:=hs rfl
  obtain⟨A,c,us,rfl,_⟩:=qy (ha.rep (by simp));simp at h;subst h;exact⟨_,by simp [ajH,run_underlying hu,goInt],rfl,rfl⟩
 ·have hu:=ht rfl
  obtain⟨rfl,_⟩:=bG ha;simp at h;subst h;exact⟨_,by simp [ajH,run_underlying hu,goInt],rfl,rfl⟩
 ·cases h
theorem SN {ag:Bool} {n:Nat} {l:List D} {us:List Value} {z:D} (hr:cm w F l us) (hs:l.all D.single=true) (h:an ag n l=some z) :
  (ag=true→n≤us.length∧bU w F z (.agg (us.take n).toArray))∧(ag=false→∃u,us[0]?=some u∧bU w F z u):=by
 have hl:=(dY l us hs hr).1;unfold an at h;constructor
 ·rintro rfl
  simp only [if_true] at h;split at h
  ·rename_i hn
   simp at h;subst h;refine⟨by omega,_,rfl,?_⟩
   simp only [RepC];exact⟨(qw l us hs hr n).1,XO hs n⟩
  ·cases h
 ·rintro rfl
  simp only [ajg,if_false] at h;cases l with
  | nil=>cases h
  | cons d l =>
   simp at h;subst h;simp only [ajj,aiV] at hs;obtain⟨v1,v2,rfl,h1,h2⟩:=ax.1 hr;obtain⟨y,rfl,_⟩:=lP _ _ hs.1 h1;exact⟨y,rfl,(ng hs.1).2 h1⟩
theorem Xb {t:Nat} {i:TI} (hi:TOk P t i) {off:Nat} {l:List D} {us:List Value} {z:D} (hr:cm w F l us) (hs:l.all D.single=true) (h:an i.agg i.n (l.drop off)=some z) :
  ∃y,(part t us.toArray off).run P w = .ok y w∧bU w F z y:=by
 obtain⟨h1,h2⟩:=SN (qw l us hs hr off).2 (wa hs off) h;cases ha:i.agg
 ·obtain⟨u,hu,hv⟩:=h2 ha
  refine⟨u,?_,hv⟩
  rw [ajF] at hu;simp only [part,aiW,hi.agg,ha,aiU,ajg,if_false];have:us.toArray[off]?=some u:=by simpa using hu
  rw [this];rfl
 ·obtain⟨hn,hv⟩:=h1 ha
  refine⟨_,?_,hv⟩
  simp only [part,aiW,hi.agg,ha,aiU,if_true,hi.size,ai1];congr 2
  apply Array.ext';simp
theorem aez {t ft f off:Nat} {i ti:TI} (hi:TOk P t i) (hf:TOk P ft ti) {a z:D} {x:Value} (hl:i.fs[f]?=some (off,ft)) (ha:dw w F a x) (h:bf ti.agg ti.n off a=some z) :
  ∃y,(Instr.field t x f).run P w = .ok y w∧bU w F z y:=by
 unfold bf at h;split at h
 ·rename_i l
  obtain⟨us,rfl,hr⟩:=ha.rep (by simp);simp only [RepC] at hr;obtain⟨fs,fl,h1,h2,h3,h4,_⟩:=hi.fs f off ft hl;obtain⟨y,hy,hv⟩:=Xb hf hr.1 hr.2 h;refine⟨y,?_,hv⟩
  simp only [Instr.field,aiW,run_underlying h1,aiU,h2,asAgg,ai1,h3,h4,hy]
 ·cases h
theorem Jb {t:Nat} {i:TI} (hi:TOk P t i) {b o:Nat} {l:List D} {us:List Value} {z:D} (hr:cm w F l us) (hs:l.all D.single=true) (hc:cN w b o us) (h:an i.agg i.n l=some z) :
  ∃y,(ajq t (.pointer (some ⟨b,o,none⟩))).run P w = .ok y w∧bU w F z y:=by
 obtain⟨h1,h2⟩:=SN hr hs h;cases ha:i.agg
 ·obtain⟨u,hu,hv⟩:=h2 ha
  refine⟨u,?_,hv⟩
  have hcell:=hc 0 u hu;rw [Nat.add_zero] at hcell;simp only [ajq,ajm,aiW,ai1,aiU,loadVar,hi.agg,ha,ajg,if_false,run_load,hcell]
 ·obtain⟨hn,hv⟩:=h1 ha
  refine⟨_,?_,hv⟩
  have hlc:(loadCells ⟨b,o,none⟩ i.n).run P w = .ok (us.take i.n).toArray w:=by
   have hlen:(us.take i.n).length=i.n:=by rw [aja];omega
   have:=run_loadCells_list (P:=P) w ⟨b,o,none⟩ (us.take i.n) (fun j v hj=>by rw [ai9];exact(hc.take i.n) j v hj);rwa [hlen] at this
  simp only [ajq,ajm,aiW,ai1,aiU,loadVar,hi.agg,ha,if_true,hi.size,hlc]
theorem agK {t:Nat} {i:TI} (hi:TOk P t i) {a z:D} {x:Value} (ha:dw w F a x) (h:ldD i.agg i.n a=some z):∃y,(ajq t x).run P w = .ok y w∧bU w F z y:=by
 unfold ldD at h;split at h
 ·obtain⟨b,o,us,rfl,h1,h2,_,h4⟩:=Hf (ha.rep (by simp))
  exact Jb hi h1 h2 h4 h
 ·cases h
theorem Bb {t f off ft:Nat} {i:TI} (hi:TOk P t i) (hl:i.fs[f]?=some (off,ft)) (b o:Nat):(ajE t (.pointer (some ⟨b,o,none⟩)) f).run P w = .ok (.pointer (some ⟨b,o+off,none⟩)) w:=by
 obtain⟨fs,fl,h1,h2,h3,h4,_,y,h5,h6⟩:=hi.fs f off ft hl;simp only [ajE,aiW,run_underlying h1,aiU,h2,ajm,ai1,fieldPlace,h4,fu h5,if_neg h6,h3,ai9]
theorem ae1 {t f off ft:Nat} {i:TI} (hi:TOk P t i) (hl:i.fs[f]?=some (off,ft)) {a z:D} {x:Value} (ha:dw w F a x) (h:lD off a=some z):∃y,(ajE t x f).run P w = .ok y w∧bU w F z y:=by
 unfold lD at h;split at h
 ·rename_i l
  obtain⟨b,o,us,rfl,h1,h2,h3,h4⟩:=Hf (ha.rep (by simp));simp at h;subst h;refine⟨_,Bb hi hl b o,?_⟩
  simp only [bU,RepC];exact⟨b,o+off,us.drop off,rfl,(qw l us h2 h1 off).2,wa h2 off,h3,h4.drop off⟩
 ·cases h
theorem LC {t:Nat} {i:TI} (hi:TOk P t i) (hsl:rN i=true) (b o len c:Nat) (k:IntKind) (n:Int) (h0:0≤n) (h1:n<len) :
  (aje t (.slice (some ⟨b,o,none⟩) len c) (.int k n)).run P w = .ok (.pointer (some ⟨b,o+n.toNat*i.ez,none⟩)) w:=by
 obtain⟨hu,_,_,_,y,hy,hz,_⟩:=rJ hi hsl;simp only [aje,asIntOf,aiW,ai1,aiU,run_underlying hu,h0,h1,and_self,if_true,fu hy,hz,ai9]
theorem KY {t:Nat} {i:TI} (hi:TOk P t i) (ha:i.alen≠0) (b o:Nat) (k:IntKind) (n:Int) (h0:0≤n) (h1:n<i.alen) :
  (aje t (.pointer (some ⟨b,o,none⟩)) (.int k n)).run P w = .ok (.pointer (some ⟨b,o+n.toNat*i.ez,none⟩)) w:=by
 obtain⟨hu,_,_,_,y,hy,hz⟩:=hi.ar ha;simp only [aje,asIntOf,aiW,ai1,aiU,run_underlying hu,ajm,h0,h1,and_self,if_true,fu hy,hz,ai9]
theorem ab3 {t:Nat} {i:TI} (hi:TOk P t i) (hsl:rN i=true) {a j:D} {x y:Value} {l:List D} (ha:dw w F a x) (hj:dw w G j y) (h:aq i.ez a j=some l) :
  ∃v,(aje t x y).run P w = .ok v w∧bU w F (.ptr l) v:=by
 unfold aq at h;split at h
 ·rename_i z' m k n
  split at h
  ·rename_i hz
   obtain⟨rfl,h0⟩:=hz;obtain⟨d,hd,rfl⟩:=ai0.1 h;obtain⟨rfl,_⟩:=bG hj;obtain⟨A,c,us,rfl,h1,h2,h3,h4⟩:=qy (ha.rep (by simp));have hn:n.toNat<m.length:=(ai4.1 hd).1;obtain⟨b,o,rfl,hb,hc⟩:=h4 (by intro e;subst e;simp at hn);refine⟨_,LC hi hsl b o _ c k n h0 (by omega),?_⟩
   obtain⟨p,q,r,rfl,hp,hq,hr,_⟩:=PB m us h2 h3 _ d hd;simp only [bU,RepC];have hrr:cm w F d.cells q∧d.cells.all D.single=true:=by
    rcases rS hr with ⟨l,rfl⟩ | hs
    ·simpa only [RepC,D.cells] using hr
    ·rw [(gG hs).2]
     exact⟨ax.2 ⟨q,[],by simp,hr,aZ.2 rfl⟩,by simp [hs]⟩
   refine⟨b,_,q,rfl,hrr.1,hrr.2,hb,?_⟩
   rw [←hp];exact hc.part
  ·cases h
 ·cases h
theorem afd {t:Nat} {i:TI} (hi:TOk P t i) (hal:i.alen≠0) {a j z:D} {x y:Value} (ha:dw w F a x) (hj:dw w G j y) (h:ixD i.alen i.ez a j=some z):∃v,(aje t x y).run P w = .ok v w∧bU w F z v:=by
 unfold ixD at h;split at h
 ·rename_i l k n
  split at h
  ·rename_i hn
   simp at h;subst h;obtain⟨rfl,_⟩:=bG hj;obtain⟨b,o,us,rfl,h1,h2,h3,h4⟩:=Hf (ha.rep (by simp));refine⟨_,KY hi hal b o k n hn.1 hn.2,?_⟩
   simp only [bU,RepC];exact⟨b,_,_,rfl,(qw l us h2 h1 _).2,wa h2 _,h3,h4.drop _⟩
  ·cases h
 ·cases h
theorem afU {t et:Nat} {i e:TI} (hi:TOk P t i) (he:TOk P et e) (hal:i.alen≠0) (hel:i.elem=et) {a j z:D} {x y:Value} (ha:dw w F a x) (hj:dw w G j y) (h:ixA e.agg i.alen i.ez a j=some z):∃v,(ajz t x y).run P w = .ok v w∧bU w F z v:=by
 unfold ixA at h;split at h
 ·rename_i l k n
  split at h
  ·rename_i hn
   obtain⟨rfl,_⟩:=bG hj;obtain⟨us,rfl,hr⟩:=ha.rep (by simp);simp only [RepC] at hr;obtain⟨hu,_,_,_,y,hy,hz⟩:=hi.ar hal;have hen:e.n=i.ez:=by
    obtain⟨x',_,h1,h2,_⟩:=he.info;rw [hel] at hy;rw [hy] at h1;cases h1;omega
   rw [←hen] at h;obtain⟨v,hv,hrep⟩:=Xb he hr.1 hr.2 h;refine⟨v,?_,hrep⟩
   subst hel;simp only [ajz,asIntOf,aiW,ai1,aiU,run_underlying hu,hn.1,hn.2,and_self,if_true,fu hy,hz];rw [←hen];exact hv
  ·cases h
 ·cases h
theorem acd {t:Nat} {i:TI} (hi:TOk P t i) (hs:i.str=true) {a j z:D} {x y:Value} (ha:dw w F a x) (hj:dw w G j y) (h:kA a j=some z):∃v,(ajz t x y).run P w = .ok v w∧z = .v v∧flat v=true:=by
 unfold kA at h;split at h
 ·rename_i s k n
  split at h
  ·rename_i h0
   obtain⟨b,hb,rfl⟩:=ai0.1 h;obtain⟨rfl,_⟩:=bG ha;obtain⟨rfl,_⟩:=bG hj;refine⟨_,?_,rfl,rfl⟩
   have hb':s[n.toNat]?=some b:=by
    have hlt:n.toNat<s.data.toList.length:=(ai4.1 hb).1;have hlt':n.toNat<s.size:=by rw [Array.length_toList] at hlt;exact hlt
    rw [getElem?_pos s n.toNat hlt'];have h2:=(ai4.1 hb).2;refine congrArg some ?_
    rw [←h2,Array.getElem_toList];rfl
   simp only [ajz,asIntOf,aiW,ai1,aiU,run_underlying (hi.str hs).1];rw [if_pos h0,hb'];rfl
  ·cases h
 ·cases h
def LoV (w:World) (F:Nat→Prop) (lo:D) (v:Option Value):Prop:=(∃y,v=some y∧dw w F lo y)∨(v=none∧lo=I 0)
theorem BZ {k:IntKind} {p:Int} {v:Option Value} (h:LoV w F (.v (.int k p)) v):v=some (.int k p)∨(v=none∧p=0):=by
 rcases h with ⟨y,rfl,hy⟩ | ⟨rfl,e⟩
 ·obtain⟨rfl,_⟩:=bG hy
  exact .inl rfl
 ·simp at e
  exact .inr ⟨rfl,e.2⟩
theorem aa9 {t:Nat} {i:TI} (hi:TOk P t i) (hsl:i.str=false→rN i=true) {a lo hi' z:D} {x yh:Value} {yl:Option Value} (ha:dw w F a x) (hl:LoV w G lo yl) (hh:dw w G hi' yh) (h:dH i.str i.ez a lo hi'=some z) :
  ∃v,(ajO t x yl (some yh) none).run P w = .ok v w∧bU w F z v:=by
 unfold dH at h;split at h
 ·rename_i z' l k p k' q hs
  split at h
  ·rename_i hc
   obtain⟨rfl,h0,h1,h2⟩:=hc;simp at h;subst h;have hl:=BZ hl;obtain⟨rfl,_⟩:=bG hh;obtain⟨hu,_,hez,_,y,hy,hz,_⟩:=rJ hi (hsl hs);obtain⟨A,c,us,rfl,g1,g2,g3,g4⟩:=qy (ha.rep (by simp));have he:P.elem t=i.elem:=by simp [ajP,hu]
   refine⟨sliced A p.toNat q.toNat c i.ez,?_,?_⟩
   ·rcases hl with rfl | ⟨rfl,rfl⟩
    ·rw [run_sliceAt_slice w t _ _ _ _ (by rw [he];exact hu),run_slice_lh w t A _ c (by rw [he];exact hu) k k' p q h0 h1 (by omega),he,fu hy,hz]
     rfl
    ·rw [run_sliceAt_slice w t _ _ _ _ (by rw [he];exact hu),run_slice_h w t A _ c (by rw [he];exact hu) k' q (by omega) (by omega),he,fu hy,hz]
     rfl
   ·simp only [bU,RepC,sliced]
    have hlen:((l.take q.toNat).drop p.toNat).length=q.toNat - p.toNat:=by rw [ajr,aja];omega
    obtain⟨t1,_⟩:=rP l us g2 g3 q.toNat;obtain⟨_,t2⟩:=rP (l.take q.toNat) (us.take (q.toNat*i.ez)) t1 (fun d hd=>g3 d (ai6 hd)) p.toNat;refine⟨_,c - p.toNat,_,by rw [hlen],by rw [hlen];omega,t2,fun d hd=>g3 d (ai6 (ajk hd)),fun hne=>?_⟩
    have hpos:p.toNat<q.toNat:=by
     rcases ajG p.toNat q.toNat with hlt | hge
     ·exact hlt
     ·exact absurd (ajl (by rw [hlen];omega)) hne
    obtain⟨b,o,rfl,hb,hcell⟩:=g4 (by intro e;subst e;simp at h2;omega);refine⟨b,o+p.toNat*i.ez,?_,hb,(hcell.take _).drop _⟩
    rw [if_neg (by omega)];simp [ai9]
  ·cases h
 ·rename_i s k p k' q hs
  split at h
  ·rename_i hc
   obtain⟨h0,h1,h2⟩:=hc;simp at h;subst h;obtain⟨rfl,_⟩:=bG ha;have hl:=BZ hl;obtain⟨rfl,_⟩:=bG hh;have hu:=(hi.str hs).1;refine⟨_,?_,dg rfl⟩
   have e1:((q.toNat:Nat):Int)=q:=by omega
   rcases hl with rfl | ⟨rfl,rfl⟩
   case inr=>rw [run_sliceAt_string w t _ _ _ _ hu,run_slice_string_h w t s hu k' q (by omega) (by omega)];rfl
   simp [run_sliceAt_string w t _ _ _ _ hu,Instr.slice,run_underlying hu,Instr.sliceBounds,run_sliceBound w k' q s.size _ (by omega) h2,run_sliceBound w k p q.toNat _ h0 (by omega)]
  ·cases h
 ·cases h
theorem WW {t:Nat} {i:TI} (hi:TOk P t i) (hsl:i.str=false→rN i=true) {a lo z:D} {x:Value} {yl:Option Value} (ha:dw w F a x) (hl:LoV w G lo yl) (h:cU i.str i.ez a lo=some z) :
  ∃v,(ajO t x yl none none).run P w = .ok v w∧bU w F z v:=by
 unfold cU at h;split at h
 ·rename_i z' l k p hs
  split at h
  ·rename_i hc
   obtain⟨rfl,h0,h1⟩:=hc;simp at h;subst h;have hl:=BZ hl;obtain⟨hu,_,hez,_,y,hy,hz,_⟩:=rJ hi (hsl hs);obtain⟨A,c,us,rfl,g1,g2,g3,g4⟩:=qy (ha.rep (by simp));have he:P.elem t=i.elem:=by simp [ajP,hu]
   refine⟨sliced A p.toNat l.length c i.ez,?_,?_⟩
   ·rcases hl with rfl | ⟨rfl,rfl⟩
    ·rw [run_sliceAt_slice w t _ _ _ _ (by rw [he];exact hu),run_slice_l w t A _ c (by rw [he];exact hu) k p h0 h1,he,fu hy,hz]
     rfl
    ·rw [run_sliceAt_slice w t _ _ _ _ (by rw [he];exact hu),run_slice_all w t A _ c (by rw [he];exact hu),he,fu hy,hz]
     rfl
   ·simp only [bU,RepC,sliced]
    obtain⟨_,t2⟩:=rP l us g2 g3 p.toNat;refine⟨_,c - p.toNat,_,by rw [ajr],by rw [ajr];omega,t2,fun d hd=>g3 d (ajk hd),fun hne=>?_⟩
    have hpos:p.toNat<l.length:=by
     rcases ajG p.toNat l.length with hlt | hge
     ·exact hlt
     ·exact absurd (ajh hge) hne
    obtain⟨b,o,rfl,hb,hcell⟩:=g4 (by intro e;subst e;simp at hpos);refine⟨b,o+p.toNat*i.ez,?_,hb,hcell.drop _⟩
    rw [if_neg (by omega)];simp [ai9]
  ·cases h
 ·rename_i s k p hs
  split at h
  ·rename_i hc
   obtain⟨h0,h1⟩:=hc;simp at h;subst h;obtain⟨rfl,_⟩:=bG ha;have hl:=BZ hl;have hu:=(hi.str hs).1;refine⟨_,?_,dg rfl⟩
   rcases hl with rfl | ⟨rfl,rfl⟩
   case inr=>rw [run_sliceAt_string w t _ _ _ _ hu,run_slice_string_all w t s hu];rfl
   simp [run_sliceAt_string w t _ _ _ _ hu,Instr.slice,run_underlying hu,Instr.sliceBounds,run_sliceBound w k p s.size _ h0 h1]
  ·cases h
 ·cases h
theorem afb {a b z:D} {x y:Value} (ha:dw w F a x) (hb:dw w G b y) (h:Wr a b=some z):∃v,(ajQ x y).run P w = .ok v w∧z = .v v∧flat v=true:=by
 unfold Wr at h;split at h
 ·obtain⟨rfl,_⟩:=bG ha
  obtain⟨rfl,_⟩:=bG hb;simp at h;subst h;exact⟨_,by simp [ajQ],rfl,rfl⟩
 ·cases h
theorem afc {a b z:D} {x y:Value} (ha:dw w F a x) (hb:dw w G b y) (h:Vr a b=some z):∃v,(ajR x y).run P w = .ok v w∧z = .v v∧flat v=true:=by
 unfold Vr at h;split at h
 ·obtain⟨rfl,_⟩:=bG ha
  obtain⟨rfl,_⟩:=bG hb;simp at h;subst h;exact⟨_,by simp [ajR],rfl,rfl⟩
 ·cases h
def HV (w:World) (F:Nat→Prop):List D→List Value→Prop
 | [],[]=>True
 | d::ds,y::ys=>dw w F d y∧HV w F ds ys
 | _,_=>False
theorem WU {f:D→D→Option D} {g:Value→Value→Sem Value} (hf:∀(a b z:D) (x y:Value),dw w F a x→dw w F b y→f a b=some z→∃v,(g x y).run P w = .ok v w∧z = .v v∧flat v=true) :
  ∀(ds:List D) (ys:List Value) (z:D) (x:Value),flat x=true→HV w F ds ys→PI f (.v x) ds=some z→∃v,(ys.foldlM g x).run P w = .ok v w∧z = .v v∧flat v=true
 | [],[],z,x,ha,_,h=>by
  simp only [PI,ajo] at h;subst h;exact⟨x,by simp,rfl,ha⟩
 | d::ds,y::ys,z,x,ha,hb,h=>by
  simp only [PI] at h;obtain⟨u,hu,h⟩:=ai5.1 h;obtain⟨v,h1,rfl,h3⟩:=hf (.v x) d u x y (.inr (dg ha)) hb.1 hu;obtain⟨v',h4,h5⟩:=WU hf ds ys z v h3 hb.2 h;exact⟨v',by simp [h1,h4],h5⟩
 | [],_::_,_,_,_,hb,_=>hb.elim
 | _::_,[],_,_,_,hb,_=>hb.elim
theorem abF {f:D→D→Option D} {g:Value→Value→Sem Value} (hf:∀(a b z:D) (x y:Value),dw w F a x→dw w F b y→f a b=some z→∃v,(g x y).run P w = .ok v w∧z = .v v∧flat v=true)
  {a b:D} {ds:List D} {x y:Value} {ys:List Value} {z:D} (ha:dw w F a x) (hb:dw w F b y) (hd:HV w F ds ys) (h:PI f a (b::ds)=some z):∃v,((y::ys).foldlM g x).run P w = .ok v w∧z = .v v∧flat v=true:=by
 simp only [PI] at h;obtain⟨u,hu,h⟩:=ai5.1 h;obtain⟨v,h1,rfl,h3⟩:=hf a b u x y ha hb hu;obtain⟨v',h4,h5⟩:=WU hf ds ys z v h3 hd h;exact⟨v',by simp [h1,h4],h5⟩
theorem afA {a z:D} {x:Value} (ha:dw w F a x) (h:Pg a=some z) (o:Oper) (q:Operand) (ρ:Operand→Value) (ho:o.op = .nilCheck q) (hq:ρ q=x):(execOp ρ o).run P w = .ok (.value x) w∧bU w F z x:=by
 unfold Pg at h;split at h
 ·have hr:=ha.rep (by simp)
  obtain⟨b,of,us,rfl,_⟩:=Hf hr;simp at h;subst h;exact⟨by simp [execOp,ho,hq],hr⟩
 ·have hr:=ha.rep (by simp)
  simp at h;subst h;have hr':=hr;simp only [bU,RepC] at hr';obtain⟨us,hx,_⟩:=hr';simp at hx;subst hx;exact⟨by simp [execOp,ho,hq],hr⟩
 ·cases h
theorem afR {src dst:Nat} {si di ei:TI} (hs:TOk P src si) (hd:TOk P dst di) (he:TOk P si.elem ei) (hsl:rN si=true) (hb:ei.ik=some .u8) (hds:di.str=true) {a z:D} {x:Value} (ha:bU w F a x) (h:Rs a=some z) :
  ∃v,(convert src dst x).run P w = .ok v w∧z = .v v∧flat v=true:=by
 unfold Rs at h;split at h
 ·rename_i zz l
  obtain⟨b,hbb,rfl⟩:=ai0.1 h;obtain⟨A,c,us,rfl,g1,g2,g3,g4⟩:=qy ha;obtain⟨hu,_⟩:=rJ hs hsl;have hel:=he.ik _ hb;have hst:=(hd.str hds).1;refine⟨_,?_,rfl,rfl⟩
  rw [run_convert_bytes_string w src dst si.elem A _ c hu hel hst];by_cases hl:l=[]
  ·subst hl
   simp [um] at hbb;subst hbb;cases A with
   | none=>simp [Conv.bytesToString];rfl
   | some A=>simp [Conv.bytesToString,loadCells,loadCellsFrom];rfl
  ·obtain⟨bb,o,rfl,_,hc⟩:=g4 hl
   have key:∀(l:List D) (us:List Value) (b:List UInt8),um l=some b→cm w F l us→∃ns:List Int,us=ns.map (ajN .u8)∧ns.map (fun n=>aju n.toNat)=b∧l.length=ns.length:=by
    intro l;induction l with
    | nil =>
     intro us b h hr;simp [um] at h;rw [aZ] at hr;exact⟨[],by simp [hr],by simp [h],rfl⟩
    | cons d l ih =>
     intro us b h hr;unfold um at h;split at h
     ·cases ‹_=[]›
     ·rename_i n l' e
      cases e;obtain⟨b',hb',rfl⟩:=ai0.1 h;obtain⟨v1,v2,rfl,h1,h2⟩:=ax.1 hr;simp only [RepC] at h1;obtain⟨rfl,_⟩:=h1;obtain⟨ns,rfl,e2,e3⟩:=ih v2 b' hb' h2;exact⟨n::ns,by simp,by simp [e2],by simp [e3]⟩
     ·cases h
   obtain⟨ns,rfl,e2,e3⟩:=key l us b hbb g2;have hlc:(loadCells ⟨bb,o,none⟩ l.length).run P w = .ok (ns.map (ajN .u8)).toArray w:=by
    have:=run_loadCells_list (P:=P) w ⟨bb,o,none⟩ (ns.map (ajN .u8)) (fun j v hj=>by rw [ai9];exact hc j v hj);rwa [List.length_map,←e3] at this
   rw [run_bytesToString w _ _ c ns hlc];congr 2
   have:∀(ns:List Int) (acc:ByteArray),ns.foldl (fun r n=>r.push (aju n.toNat)) acc=⟨acc.data++(ns.map (fun n=>aju n.toNat)).toArray⟩:=by
    intro ns;induction ns with
    | nil=>intro acc;simp
    | cons n ns ih =>
     intro acc;rw [ajM,ih];congr 1
     simp [ByteArray.push]
   rw [this,e2];congr 1
   show #[]++b.toArray=b.toArray
   simp
 ·cases h
theorem Gv {l vs:List D} {us ws:List Value} (hl:l.all D.single=true) (hv:vs.all D.single=true) (hr:cm w F l us) (hw:cm w F vs ws) (f:Nat) :
  cm w F (putCells l f vs) (us.take f++ws++us.drop (f+ws.length))∧(putCells l f vs).all D.single=true:=by
 have e:=(dY _ _ hv hw).1;refine⟨?_,?_⟩
 ·unfold putCells
  rw [e];exact(fg _ _ _).2 ⟨_,_,rfl,(fg _ _ _).2 ⟨_,_,rfl,(qw l us hl hr f).1,hw⟩,(qw l us hl hr _).2⟩
 ·unfold putCells
  rw [all_append,all_append,XO hl,wa hl,hv];rfl
theorem PQ:∀(vs:List Value) (off k:Nat) (us:List Value),off+k+vs.length≤us.length →
  ((vs.zipIdx k).foldl (fun(cs:Array Value) (p:Value × Nat)=>cs.setIfInBounds (off+p.2) p.1) us.toArray)=(us.take (off+k)++vs++us.drop (off+k+vs.length)).toArray
 | [],off,k,us,h=>by simp
 | v::vs,off,k,us,h=>by
  simp only [ajK] at h;have ih:=PQ vs off (k+1) (us.set (off+k) v) (by simp;omega);simp only [List.zipIdx_cons,ajM,List.setIfInBounds_toArray];rw [ih];congr 1
  have hs:us.set (off+k) v=us.take (off+k)++v::us.drop (off+k+1):=List.set_eq_take_append_cons_drop.trans (by rw [if_pos (by omega)]);have hl:(us.take (off+k)).length=off+k:=by rw [aja];omega
  rw [hs,←ajD];have e3:us.drop (off+k+(v::vs).length)=(us.drop (off+k+1)).drop vs.length:=by rw [List.drop_drop,ajK];congr 1;omega
  rw [e3];generalize us.take (off+k)=p at hl;generalize us.drop (off+k+1)=r;rw [←hl,List.take_length_add_append,show p.length+1+vs.length=p.length+(vs.length+1) from by omega,List.drop_length_add_append];simp
theorem XZ (place:Nat→Option (Nat × Nat)):∀(parts:List (Nat × Value)) (ps:List (Nat × Nat)) (xs cs cs':List D) (us:List Value),parts.map (fun p=>place p.1)=ps.map some→HV w F xs (parts.map (·.2))→cs.all D.single=true→cm w F cs us →
  DJ ps xs cs=some cs'→∃us',Instr.fill place us.toArray parts=some us'.toArray∧cm w F cs' us'∧cs'.all D.single=true
 | [],ps,xs,cs,cs',us,hp,hx,hs,hr,h=>by
  cases ps<;>simp at hp
  cases xs with
  | cons _ _=>exact hx.elim
  | nil =>
   simp [DJ] at h;subst h;exact⟨us,rfl,hr,hs⟩
 | (i,v)::parts,ps,xs,cs,cs',us,hp,hx,hs,hr,h=>by
  cases ps with
  | nil=>simp at hp
  | cons p ps =>
  cases xs with
  | nil=>exact hx.elim
  | cons x xs =>
   obtain⟨off,n⟩:=p;simp only [aiZ,aiX] at hp;simp only [DJ] at h;split at h
   ·rename_i hc
    obtain⟨h1,h2,h3⟩:=hc;have hxr:bU w F x v:=hx.1.rep (by intro e;subst e;simp [D.cells,D.single] at h3);obtain⟨_,g2,g3⟩:=gL hxr (xC h3);obtain⟨p1,p2⟩:=Gv hs g2 hr g3 off;have e1:=(dY _ _ g2 g3).1;have e2:=(dY _ _ hs hr).1;obtain⟨us',q1,q2,q3⟩:=XZ place parts ps xs _ cs' _ hp.2 hx.2 p2 p1 h;refine⟨us',?_,q2,q3⟩
    simp only [Instr.fill,hp.1];have e3:v.cells.size=n:=by rw [←h1,←e1];simp
    rw [if_neg (by simp [e3];omega)];have hk:=PQ v.cells.toList off 0 us (by rw [e1,h1];omega);simp only [Nat.add_zero] at hk;rw [←hk] at q1;rw [←q1];congr 1
    rw [←Array.foldl_toList];simp
   ·cases h
end
end Go.V

namespace Go.V
open Go.RowKit
def aB (δ:List D):List Nat→List D
 | []=>[]
 | s::ss=>nth δ s::aB δ ss
theorem fH {R:Type}:∀(δ:List D) (s:Nat) (k:D→R),iY δ s k=k (nth δ s)
 | [],_,_=>by simp [iY,nth]
 | _::_,0,_=>by simp [iY,nth]
 | _::l,s+1,k=>by simpa [iY,nth] using fH l s k
theorem UP {R:Type}:∀(δ:List D) (s:Nat) (d:D) (k:List D→R),Zw δ s d k=k (js δ s d)
 | [],_,_,_=>by simp [Zw,js]
 | _::_,0,_,_=>by simp [Zw,js]
 | _::l,s+1,d,k=>by simpa [Zw,js] using UP l s d _
theorem cg {R:Type} (δ:List D):∀(ss:List Nat) (k:List D→R),uT δ ss k=k (aB δ ss)
 | [],_=>by simp [uT,aB]
 | s::ss,k=>by simp only [uT,aB,fH];exact cg δ ss _
theorem dh {R:Type}:∀(δ:List D) (ss:List Nat) (ds:List D) (k:List D→R),fe δ ss ds k=k (az δ ss ds)
 | _,[],_,_=>by simp [fe,az]
 | δ,s::ss,[],k=>by simp only [fe,az,UP];exact dh _ ss [] k
 | δ,s::ss,d::ds,k=>by simp only [fe,az,UP];exact dh _ ss ds k
theorem sj {α:Type}:∀(a b:List α),app a b=a++b
 | [],_=>rfl
 | _::l,b=>by simp [app,sj l b]
theorem Ca {α β:Type} (f:α→β):∀(l:List α),uV f l=l.map f
 | []=>rfl
 | _::l=>by simp [uV,Ca f l]
theorem pD {α:Type}:∀(l:List α),lB l=l.length
 | []=>rfl
 | _::l=>by simp [lB,pD l]
theorem IB {α:Type}:∀(n:Nat) (l:List α),yM n l=l.drop n
 | 0,l=>by simp [yM]
 | n+1,[]=>by simp [yM]
 | n+1,_::l=>by simp [yM,IB n l]
theorem jZ:∀(n:Nat) (l:List Nat),oL n l=decide (n∈l)
 | _,[]=>by simp [oL]
 | n,m::l=>by
  simp only [oL];cases h:aiT n m
  ·have:n≠m:=fun e=>by subst e;simp at h
   simp [jZ n l,this]
  ·have:n=m:=ai8 h
   simp [this]
theorem Gq {α:Type}:∀(l:List α) (n:Nat),XQ l n=l[n]?
 | [],_=>by simp [XQ]
 | _::_,0=>by simp [XQ]
 | _::l,n+1=>by simpa [XQ] using Gq l n
theorem jk:∀(l:List D) (n:Nat),nth l n=l.getD n .bad
 | [],_=>by simp [nth]
 | _::_,0=>by simp [nth]
 | _::l,n+1=>by simpa [nth] using jk l n
theorem jA:∀(δ:List D) (s:Nat) (d:D),(js δ s d).length=δ.length
 | [],_,_=>by simp [js]
 | _::_,0,_=>by simp [js]
 | _::l,s+1,d=>by simp [js,jA l s d]
theorem ed:∀(δ:List D) (ss:List Nat) (ds:List D),(az δ ss ds).length=δ.length
 | _,[],_=>by simp [az]
 | δ,s::ss,[]=>by simp [az,ed _ ss,jA]
 | δ,s::ss,d::ds=>by simp [az,ed _ ss,jA]
theorem fD:∀(δ:List D) (s i:Nat) (d:D),s≠i→nth (js δ i d) s=nth δ s
 | [],_,_,_,_=>by simp [js]
 | _::_,0,0,_,h=>absurd rfl h
 | _::_,_+1,0,_,_=>by simp [nth]
 | _::_,0,_+1,_,_=>by simp [nth]
 | _::l,s+1,i+1,d,h=>by simpa [js,nth] using fD l s i d (by omega)
theorem cO:∀(δ:List D) (s:Nat) (d:D),nth (js δ s d) s=if s<δ.length then d else .bad
 | [],_,_=>by simp [nth]
 | _::_,0,_=>by simp [nth]
 | _::l,s+1,d=>by simpa [js,nth] using cO l s d
theorem aF:∀(ss:List Nat) (δ:List D) (ds:List D) (s:Nat),s∉ss→nth (az δ ss ds) s=nth δ s
 | [],_,_,_,_=>by simp [az]
 | i::ss,δ,[],s,h=>by
  simp only [ajd,not_or] at h;simp only [az];rw [aF ss _ _ s h.2,fD _ _ _ _ h.1]
 | i::ss,δ,d::ds,s,h=>by
  simp only [ajd,not_or] at h;simp only [az];rw [aF ss _ _ s h.2,fD _ _ _ _ h.1]
theorem nj:∀(ss:List Nat) (δ:List D) (s:Nat),s∈ss→nth (az δ ss []) s = .bad
 | i::ss,δ,s,h=>by
  simp only [az];by_cases hs:s∈ss
  ·exact nj ss _ s hs
  ·rw [aF ss _ _ s hs]
   have:s=i:=by simpa [hs] using h
   subst this;rw [cO];split<;>rfl
theorem BH:∀(ss ts:List Nat) (δ:List D) (ds:List D),ds.length=ss.length→az δ (ss++ts) ds=az (az δ ss ds) ts []
 | [],ts,δ,ds,h=>by
  have:ds=[]:=ajl h;subst this;simp [az]
 | s::ss,ts,δ,d::ds,h=>by
  simp only [ajJ,az];exact BH ss ts _ ds (by simpa using h)
theorem nK:∀(ss:List Nat) (δ:List D) (s:Nat),nth (az δ ss []) s=nth δ s∨nth (az δ ss []) s = .bad:=by
 intro ss δ s;by_cases h:s∈ss
 ·exact .inr (nj ss δ s h)
 ·exact .inl (aF ss δ [] s h)
theorem OQ {r:Nat}:∀(K:List Kd) (n s:Nat),(aD K s = .via r∨aD K s = .ref r)→n+s∈iw r K n
 | [],n,s,h=>by simp [aD] at h
 | k::K,n,0,h=>by
  simp only [aD] at h;rcases h with rfl | rfl<;>simp [iw]
 | k::K,n,s+1,h=>by
  have ih:=OQ K (n+1) s (by simpa [aD] using h);have e:n+(s+1)=n+1+s:=by omega
  rw [e];cases k<;>simp only [iw]<;>first
   | exact ih
   | (split<;>first | exact ih | exact ajC _ ih)
theorem mX {K:List Kd} {r s:Nat} (h:aD K s = .via r∨aD K s = .ref r):∀(rs:List Nat),r∈rs→s∈bu K rs
 | q::rs,hr=>by
  simp only [bu,sj,ajt];rcases ajd.1 hr with rfl | hr
  ·exact .inl (by have:=OQ K 0 s h;simpa using this)
  ·exact .inr (mX h rs hr)
theorem VH {r:Nat}:∀(K:List Kd) (n s:Nat),s∈iw r K n→n≤s∧(aD K (s - n) = .via r∨aD K (s - n) = .ref r)
 | [],n,s,h=>by simp [iw] at h
 | k::K,n,s,h=>by
  have ih:s∈iw r K (n+1)→n≤s∧(aD (k::K) (s - n) = .via r∨aD (k::K) (s - n) = .ref r):=by
   intro hm;obtain⟨h1,h2⟩:=VH K (n+1) s hm;have e:s - n=(s - (n+1))+1:=by omega
   rw [e];exact⟨by omega,by simpa [aD] using h2⟩
  cases k<;>simp only [iw] at h<;>try exact ih h
  all_goals
   split at h
   ·rename_i hb
    have:=ai8 hb;subst this;rcases ajd.1 h with rfl | h
    ·simp [aD]
    ·exact ih h
   ·exact ih h
theorem Ci {K:List Kd} {r s:Nat} (h:s∈iw r K 0):aD K s = .via r∨aD K s = .ref r:=by simpa using (VH K 0 s h).2
theorem xd {K:List Kd} {s:Nat}:∀(rs:List Nat),s∈bu K rs→∃r∈rs,aD K s = .via r∨aD K s = .ref r
 | [],h=>by simp [bu] at h
 | r::rs,h=>by
  simp only [bu,sj,ajt] at h;rcases h with h | h
  ·exact⟨r,by simp,Ci h⟩
  ·obtain⟨q,hq,hk⟩:=xd rs h
   exact⟨q,by simp [hq],hk⟩
def eN (K:List Kd) (r:Nat):Prop :=
 match aD K r with
 | .own _ _ _=>True
 | .box _ _ _=>True
 | _=>False
theorem YI {K:List Kd} {r q:Nat} (h:eN K r):r∉iw q K 0:=by
 intro hm;rcases Ci hm with e | e<;>simp [eN,e] at h
theorem uX {K:List Kd} {r:Nat} (h:eN K r) (rs:List Nat):r∉bu K rs:=by
 intro hm;obtain⟨q,_,e⟩:=xd rs hm;rcases e with e | e<;>simp [eN,e] at h
theorem oY {K:List Kd} {r:Nat} (h:ql K r=true):eN K r:=by
 unfold ql at h;unfold eN;split at h<;>simp_all
def av (a:Act) (s:Nat):Value:=a.tmps.getD s undef
def FB (F:Nat→Prop) (B:Nat):Nat→Nat→Prop
 | 0,_=>False
 | 1,b=>F b∧B≤b
 | _,b=>F b
def lL (w:World) (F:Nat→Prop) (own:Nat→Prop) (z:Nat) (d:D) (y:Value):Prop :=
 ∃l,d = .arr z l∧(∀e∈l,e.width=z)∧((y = .slice none 0 0∧l=[]) ∨
  ∃g o c us cs e,y = .slice (some ⟨g,o,none⟩) l.length c∧l.length≤c∧w.heap[g]?=some (.cells cs e (0,0))∧o+c*z≤cs.size∧cm w F l us ∧
   (∀(i:Nat) (u:Value),us[i]?=some u→cs[o+i]?=some u)∧own g)
def Gx (w:World) (F:Nat→Prop) (own:Nat→Prop) (n:Nat) (d:D) (y:Value):Prop :=
 ∃l us g e,d = .agg l∧y = .pointer (some ⟨g,0,none⟩)∧w.heap[g]?=some (.cells (List.toArray us) e (0,0))∧cm w F l us∧l.all D.single=true∧l.length=n∧own g
def zE (k:Kd) (y:Value) (i f:Nat) (p:Value):Prop :=
 match k with
 | .own z _ _=>∃g o n c,y = .slice (some ⟨g,o,none⟩) n c∧p = .pointer (some ⟨g,o+i*z+f,none⟩)
 | .box _ _ _=>∃g,y = .pointer (some ⟨g,0,none⟩)∧p = .pointer (some ⟨g,f,none⟩)
 | _=>False
theorem mY {K:List Kd} {r i f:Nat} {y p:Value} (h:zE (aD K r) y i f p):eN K r:=by
 unfold zE at h;unfold eN;split at h<;>simp_all
def Jn (B:Nat) (F:Nat→Prop) (O:Nat→Option (Nat × Nat)) (w:World) (id:Nat × Nat) (k:Kd) (d:D) (y:Value):Prop :=
 d = .bad∨match k with
  | .dat lv=>bU w (FB F B lv) d y
  | .own z lv io=>lL w (FB F B lv) (fun g=>O g=some id∧(io=false→B≤g)) z d y
  | .box n lv io=>Gx w (FB F B lv) (fun g=>O g=some id∧(io=false→B≤g)) n d y
  | _=>False
def Gh (K:List Kd) (B:Nat) (F:Nat→Prop) (O:Nat→Option (Nat × Nat)) (a:Act) (w:World) (δ:List D) (s:Nat):Prop :=
 nth δ s = .bad∨match aD K s with
  | .via r=>av a s=av a r∧nth δ s = .ref 0 0∧nth δ r ≠ .bad∧ql K r=true
  | .ref r=>∃i f,nth δ s = .ref i f∧nth δ r ≠ .bad∧zE (aD K r) (av a r) i f (av a s)
  | .tup ms=>∃l vs,nth δ s = .tup l∧av a s = .tuple vs∧∀i,Jn B F O w (s,i+1) (aD ms i) (nth l i) (vs.getD i undef)
  | .no=>True
  | k=>Jn B F O w (s,0) k (nth δ s) (av a s)
def gOk (G:List (Nat × (Obj→Prop))) (w:World) (F:Nat→Prop):Prop:=∀p∈G,F p.1∧∃o,w.heap[p.1]?=some o∧p.2 o
theorem iu {G:List (Nat × (Obj→Prop))} {w w':World} {F F':Nat→Prop} (hF:∀b,F b→F' b) (hw:∀b,F b→w'.heap[b]?=w.heap[b]?) (h:gOk G w F):gOk G w' F':=fun p hp=>by
 obtain⟨h1,o,h2,h3⟩:=h p hp;exact⟨hF _ h1,o,(hw _ h1).trans h2,h3⟩
structure Inv (c:Cx) (B:Nat) (X:Nat→Prop) (w0:World) (F0 F:Nat→Prop) (O:Nat→Option (Nat × Nat)) (a:Act) (w:World) (δ:List D):Prop where
 la:a.tmps.size=c.K.length
 ld:δ.length=c.K.length
 df:a.defers=[]
 slot:∀s,Gh c.K B F O a w δ s
 fl:∀b,F b→b<w.heap.size∧O b=none
 ol:∀b p,O b=some p→b<w.heap.size∧(B≤b∨X b)
 f0:∀b,F0 b→F b
 fn:∀b,F b→F0 b∨B≤b
 bb:B≤w.heap.size
 os:w.os=w0.os
 tape:w.tape=w0.tape
 output:w.output=w0.output
 keep:∀b,b<B→¬X b→w.heap[b]?=w0.heap[b]?
 gl:gOk c.G w F
theorem kc {F F':Nat→Prop} {B lv:Nat} (h:∀b,F b→F' b):∀b,FB F B lv b→FB F' B lv b:=by
 intro b hb;unfold FB at *;split at hb<;>simp_all
theorem iv {F:Nat→Prop} {B lv:Nat}:∀b,FB F B lv b→F b:=by
 intro b hb;unfold FB at *;split at hb<;>simp_all
theorem qv {F:Nat→Prop} {B lv lv':Nat} (h:lv≤lv'):∀b,FB F B lv b→FB F B lv' b:=by
 intro b hb
 match lv,lv',h with
 | 0,_,_=>exact hb.elim
 | 1,1,_=>exact hb
 | 1,n+2,_=>exact hb.1
 | m+2,n+2,_=>exact hb
theorem Sn {w w':World} {F F':Nat→Prop} {own own':Nat→Prop} {z:Nat} {d:D} {y:Value} (hF:∀b,F b→F' b) (hw:∀b,F b→w'.heap[b]?=w.heap[b]?)
  (ho:∀g,own g→own' g∧w'.heap[g]?=w.heap[g]?) (h:lL w F own z d y):lL w' F' own' z d y:=by
 obtain⟨l,h1,h2,h3⟩:=h;refine⟨l,h1,h2,?_⟩
 rcases h3 with h3 | ⟨g,o,c,us,cs,e,a1,a2,a3,a4,a5,a6,a7⟩
 ·exact .inl h3
 ·exact .inr ⟨g,o,c,us,cs,e,a1,a2,(ho g a7).2.trans a3,a4,cL hF hw _ _ a5,a6,(ho g a7).1⟩
theorem BT {w w':World} {F F':Nat→Prop} {own own':Nat→Prop} {n:Nat} {d:D} {y:Value} (hF:∀b,F b→F' b) (hw:∀b,F b→w'.heap[b]?=w.heap[b]?)
  (ho:∀g,own g→own' g∧w'.heap[g]?=w.heap[g]?) (h:Gx w F own n d y):Gx w' F' own' n d y:=by
 obtain⟨l,us,g,e,a1,a2,a3,a4,a5,a6,a7⟩:=h;exact⟨l,us,g,e,a1,a2,(ho g a7).2.trans a3,cL hF hw _ _ a4,a5,a6,(ho g a7).1⟩
theorem Cm {B:Nat} {w w':World} {F F':Nat→Prop} {O O':Nat→Option (Nat × Nat)} {id id':Nat × Nat} {k:Kd} {d:D} {y:Value} (hF:∀b,F b→F' b) (hw:∀b,F b→w'.heap[b]?=w.heap[b]?)
  (ho:∀g,O g=some id→O' g=some id'∧w'.heap[g]?=w.heap[g]?) (h:Jn B F O w id k d y):Jn B F' O' w' id' k d y:=by
 rcases h with h | h
 ·exact .inl h
 ·refine .inr ?_
  cases k
  case dat lv=>exact co (kc hF) (fun b hb=>hw b (iv b hb)) h
  case own z lv io=>exact Sn (kc hF) (fun b hb=>hw b (iv b hb)) (fun g hg=>⟨⟨(ho g hg.1).1,hg.2⟩,(ho g hg.1).2⟩) h
  case box n lv io=>exact BT (kc hF) (fun b hb=>hw b (iv b hb)) (fun g hg=>⟨⟨(ho g hg.1).1,hg.2⟩,(ho g hg.1).2⟩) h
  all_goals exact h
theorem Inv.step {c:Cx} {B:Nat} {X:Nat→Prop} {w0:World} {F0 F F':Nat→Prop} {O O':Nat→Option (Nat × Nat)} {a a':Act} {w w':World} {δ δ':List D}
  (h:Inv c B X w0 F0 F O a w δ) (U:Nat→Prop) (la:a'.tmps.size=a.tmps.size) (ld:δ'.length=δ.length) (df:a'.defers=a.defers)
  (hs:∀s,¬U s→av a' s=av a s∧(nth δ' s=nth δ s∨nth δ' s = .bad))
  (hF:∀b,F b→F' b) (hw:∀b,F b→w'.heap[b]?=w.heap[b]?)
  (ho:∀b p,O b=some p→¬U p.1→O' b=some p∧w'.heap[b]?=w.heap[b]?)
  (hd:∀s r,¬U s→(aD c.K s = .via r∨aD c.K s = .ref r)→nth δ' s ≠ .bad→av a' r=av a r∧nth δ' r ≠ .bad)
  (hU:∀s,U s→Gh c.K B F' O' a' w' δ' s)
  (fl:∀b,F' b→b<w'.heap.size∧O' b=none) (ol:∀b p,O' b=some p→b<w'.heap.size∧(B≤b∨X b)) (fn:∀b,F' b→F b∨B≤b) (sz:w.heap.size≤w'.heap.size)
  (os:w'.os=w.os) (tape:w'.tape=w.tape) (output:w'.output=w.output) (keep:∀b,b<B→¬X b→w'.heap[b]?=w.heap[b]?):Inv c B X w0 F0 F' O' a' w' δ':=by
 refine⟨la.trans h.la,ld.trans h.ld,df.trans h.df,fun s=>?_,fl,ol,fun b hb=>hF b (h.f0 b hb),fun b hb=>?_,Nat.le_trans h.bb sz,os.trans h.os,tape.trans h.tape,output.trans h.output,fun b h1 h2=>(keep b h1 h2).trans (h.keep b h1 h2),iu hF hw h.gl⟩
 ·by_cases hu:U s
  ·exact hU s hu
  ·obtain⟨e1,e2⟩:=hs s hu
   rcases e2 with e2 | e2
   case inr=>exact .inl e2
   by_cases hb:nth δ s = .bad
   ·exact .inl (e2.trans hb)
   have hb':nth δ' s ≠ .bad:=by rw [e2];exact hb
   have h0:=(h.slot s).resolve_left hb;refine .inr ?_
   have lone:∀(k:Kd) (i:Nat) (d:D) (y:Value),Jn B F O w (s,i) k d y→Jn B F' O' w' (s,i) k d y:=fun k i d y hl=>Cm hF hw (fun g hg=>ho g _ hg hu) hl
   have hdd:=hd s;rw [e1,e2];generalize hk:aD c.K s=k at h0 hdd;cases k
   case via r =>
    obtain⟨b1,b2,b3,b4⟩:=h0;obtain⟨d1,d2⟩:=hdd r hu (.inl rfl) hb';exact⟨b1.trans d1.symm,b2,d2,b4⟩
   case ref r =>
    obtain⟨i,f,b1,b2,b3⟩:=h0;obtain⟨d1,d2⟩:=hdd r hu (.inr rfl) hb';exact⟨i,f,b1,d2,by rw [d1];exact b3⟩
   case tup ms =>
    obtain⟨l,vs,b1,b2,b3⟩:=h0;exact⟨l,vs,b1,b2,fun i=>lone _ _ _ _ (b3 i)⟩
   case no=>trivial
   all_goals exact lone _ _ _ _ h0
 ·rcases fn b hb with hb | hb
  ·exact h.fn b hb
  ·exact .inr hb
theorem adn {a:Act} {d s:Nat} {v:Value}:av (a.put (some d) v) s=if s=d∧d<a.tmps.size then v else av a s:=by
 simp only [av,Act.put,Array.getD_eq_getD_getElem?,Array.getElem?_setIfInBounds];by_cases hs:d=s
 ·subst hs
  by_cases hd:d<a.tmps.size
  ·simp [hd]
  ·simp [hd]
 ·simp [hs,Ne.symm hs]
theorem eK {a:Act} {d s:Nat} {v:Value} (h:s≠d):av (a.put (some d) v) s=av a s:=by rw [adn,if_neg (by simp [h])]
theorem ip {a:Act} {d:Nat} {v:Value} (h:d<a.tmps.size):av (a.put (some d) v) d=v:=by rw [adn,if_pos ⟨rfl,h⟩]
theorem nH {a:Act} {d:Nat} {v:Value}:(a.put (some d) v).tmps.size=a.tmps.size:=by simp [Act.put]
theorem Inv.root {c:Cx} {B:Nat} {X:Nat→Prop} {w0:World} {F0 F:Nat→Prop} {O:Nat→Option (Nat × Nat)} {a:Act} {w:World} {δ:List D}
  (h:Inv c B X w0 F0 F O a w δ) {s r:Nat} (hv:aD c.K s = .via r∨aD c.K s = .ref r) (hb:nth δ s ≠ .bad):eN c.K r∧nth δ r ≠ .bad:=by
 have h0:=(h.slot s).resolve_left hb;rcases hv with hv | hv<;>rw [hv] at h0
 ·exact⟨oY h0.2.2.2,h0.2.2.1⟩
 ·obtain⟨_,_,_,h2,h3⟩:=h0
  exact⟨mY h3,h2⟩
def SB (K:List Kd) (B:Nat) (F:Nat→Prop) (a:Act) (w:World) (δ:List D) (d:Nat) (z:D) (y:Value):Prop :=
 z = .bad∨match aD K d with
  | .dat lv=>bU w (FB F B lv) z y
  | .via r=>y=av a r∧z = .ref 0 0∧nth δ r ≠ .bad∧ql K r=true
  | .ref r=>∃i f,z = .ref i f∧nth δ r ≠ .bad∧zE (aD K r) (av a r) i f y
  | .no=>True
  | _=>False
theorem Inv.put {c:Cx} {B:Nat} {X:Nat→Prop} {w0:World} {F0 F:Nat→Prop} {O:Nat→Option (Nat × Nat)} {a:Act} {w:World} {δ:List D}
  (h:Inv c B X w0 F0 F O a w δ) {d:Nat} {z:D} {y:Value} (hk:SB c.K B F a w δ d z y) :
  Inv c B X w0 F0 F O (a.put (some d) y) w (az δ (d::iw d c.K 0) [z]):=by
 have e0:az δ (d::iw d c.K 0) [z]=az (js δ d z) (iw d c.K 0) []:=by simp [az]
 rw [e0];have keepr:∀r,eN c.K r→r≠d→nth (az (js δ d z) (iw d c.K 0) []) r=nth δ r:=fun r hr hd=>by
  rw [aF _ _ _ _ (YI hr),fD _ _ _ _ hd]
 refine h.step (fun s=>s=d) nH (by rw [ed,jA]) rfl (fun s hs=>⟨eK hs,?_⟩) (fun _ hb=>hb) (fun _ _=>rfl) (fun _ _ h _=>⟨h,rfl⟩) (fun s r hs hv hb=>?_) (fun s hs=>?_) h.fl h.ol (fun _ hb=>.inl hb) (ajn _) rfl rfl rfl (fun _ _ _=>rfl)
 ·rcases nK (iw d c.K 0) (js δ d z) s with e | e
  ·exact .inl (e.trans (fD _ _ _ _ hs))
  ·exact .inr e
 ·by_cases hr:r=d
  ·subst hr
   exact absurd (nj _ _ _ (by have:=OQ c.K 0 s hv;simpa using this)) hb
  ·refine⟨eK hr,?_⟩
   have hs':s∉iw d c.K 0:=fun hm=>hb (nj _ _ _ hm)
   rw [aF _ _ _ _ hs',fD _ _ _ _ hs] at hb;obtain⟨h1,h2⟩:=h.root hv hb;rw [keepr r h1 hr];exact h2
 ·subst hs
  by_cases hdl:s<c.K.length
  case neg =>
   refine .inl ?_
   rcases nK (iw s c.K 0) (js δ s z) s with e | e
   ·rw [e,cO,if_neg (by rw [h.ld];exact hdl)]
   ·exact e
  have hav:av (a.put (some s) y) s=y:=ip (by rw [h.la];exact hdl);rcases nK (iw s c.K 0) (js δ s z) s with e | e
  case inr=>exact .inl e
  have ez:nth (az (js δ s z) (iw s c.K 0) []) s=z:=by rw [e,cO,if_pos (by rw [h.ld];exact hdl)]
  rcases hk with hk | hk
  ·exact .inl (ez.trans hk)
  ·refine .inr ?_
   rw [ez,hav];generalize hks:aD c.K s=k at hk;have hne:∀r,eN c.K r→(∀z lv io,k ≠ .own z lv io)→(∀n lv io,k ≠ .box n lv io)→r≠s:=by
    intro r hr h1 h2 e;subst e;unfold eN at hr;rw [hks] at hr;cases k
    case own z lv io=>exact h1 _ _ _ rfl
    case box n lv io=>exact h2 _ _ _ rfl
    all_goals exact hr
   cases k
   case dat lv=>exact .inr hk
   case via r =>
    obtain⟨b1,b2,b3,b4⟩:=hk;have hr:=hne r (oY b4) (by intros;simp) (by intros;simp);exact⟨by rw [eK hr];exact b1,b2,by rw [keepr r (oY b4) hr];exact b3,b4⟩
   case ref r =>
    obtain⟨i,f,b1,b2,b3⟩:=hk;have hr:=hne r (mY b3) (by intros;simp) (by intros;simp);exact⟨i,f,b1,by rw [keepr r (mY b3) hr];exact b2,by rw [eK hr];exact b3⟩
   case no=>trivial
   all_goals exact hk.elim
theorem Inv.forget {c:Cx} {B:Nat} {X:Nat→Prop} {w0:World} {F0 F:Nat→Prop} {O:Nat→Option (Nat × Nat)} {a:Act} {w:World} {δ δ':List D}
  (h:Inv c B X w0 F0 F O a w δ) (hl:δ'.length=δ.length) (hs:∀s,nth δ' s=nth δ s∨nth δ' s = .bad) (hr:∀s r,(aD c.K s = .via r∨aD c.K s = .ref r)→nth δ' s ≠ .bad→nth δ' r ≠ .bad):Inv c B X w0 F0 F O a w δ' :=
 h.step (fun _=>False) rfl hl rfl (fun s _=>⟨rfl,hs s⟩) (fun _ hb=>hb) (fun _ _=>rfl) (fun _ _ h _=>⟨h,rfl⟩) (fun s r _ hv hb=>⟨rfl,hr s r hv hb⟩) (fun _ h=>h.elim) h.fl h.ol (fun _ hb=>.inl hb) (ajn _) rfl rfl rfl (fun _ _ _=>rfl)
theorem Inv.dat {c:Cx} {B:Nat} {X:Nat→Prop} {w0:World} {F0 F:Nat→Prop} {O:Nat→Option (Nat × Nat)} {a:Act} {w:World} {δ:List D}
  (h:Inv c B X w0 F0 F O a w δ) {s lv:Nat} (hk:aD c.K s = .dat lv):dw w (FB F B lv) (nth δ s) (av a s):=by
 rcases h.slot s with hb | h0
 ·exact .inl hb
 ·rw [hk] at h0
  exact h0
def fX (c:Cx) (A:Ac) (δ:List D) (k:List D→Option Out):Option Out :=
 match A with
 | .one rd d h=>(h (aB δ rd)).bind fun z=>k (az δ (d::iw d c.K 0) [z])
 | .many rd hw cw fn=>fn (aB δ rd) fun outs=>k (az δ (hw++(cw++bu c.K hw)) outs)
def Next (c:Cx) (B:Nat) (X:Nat→Prop) (w0:World) (F0:Nat→Prop) (k:List D→Option Out) (r:Out) (a:Act) (w:World):Prop :=
 ∃F O δ,Inv c B X w0 F0 F O a w δ∧k δ=some r
section
variable {P:Program} {c:Cx} {B:Nat} {X:Nat→Prop} {w0:World} {F0 F:Nat→Prop} {O:Nat→Option (Nat × Nat)} {a:Act} {w:World} {δ:List D}
theorem dU:∀(xs:List Operand),fZ xs (aB δ (vD xs))=xs.map (opD δ)
 | []=>rfl
 | .tmp t::xs=>by simp [fZ,aB,opD,dU xs]
 | .const v::xs=>by simp [fZ,vD,opD,dU xs]
 | .func f::xs=>by simp [fZ,vD,opD,dU xs]
 | .global g::xs=>by simp [fZ,vD,opD,dU xs]
theorem Cd (a b:Nat):Rw a b=max a b:=by
 unfold Rw;cases h:aiY a b
 ·have:¬a≤b:=fun hl=>by rw [Nat.ble_eq_true_of_le hl] at h;cases h
  simp only;omega
 ·have:=Nat.le_of_ble_eq_true h
  simp only;omega
theorem cT {a b:Nat}:aiY a b=true↔a≤b:=⟨Nat.le_of_ble_eq_true,Nat.ble_eq_true_of_le⟩
theorem bd {a b:Nat}:aiT a b=true↔a=b:=⟨ai8,fun h=>by subst h;simp⟩
theorem rO {K:List Kd} {n:Nat}:∀{xs:List Operand},qW K xs≤n→∀x∈xs,gw K x≤n
 | [],_,x,hx=>by simp at hx
 | y::ys,h,x,hx=>by
  simp only [qW,Cd] at h;rcases ajd.1 hx with rfl | hx
  ·omega
  ·exact rO (by omega) x hx
theorem eF (a:Act) (t:Nat):a.eval (.tmp t)=av a t:=rfl
theorem Inv.opd (h:Inv c B X w0 F0 F O a w δ) {x:Operand} (hx:gw c.K x≤2):dw w (FB F B (gw c.K x)) (opD δ x) (a.eval x):=by
 cases x with
 | tmp t =>
  simp only [gw] at hx ⊢;split at hx
  ·rename_i lv hk
   exact h.dat hk
  ·omega
 | const v =>
  simp only [gw] at hx ⊢;split at hx
  case h_2=>omega
  rename_i hv;refine .inr ?_
  simp only [opD,Act.eval];unfold okC at hv;split at hv<;>first
   | (cases hv;done)
   | exact lV
   | exact dg rfl
 | func f =>
  refine .inr ?_
  simp only [Act.eval,bU,RepC];exact⟨[],rfl,aZ.2 rfl⟩
 | global g=>simp only [gw] at hx;omega
theorem WB {o:Oper} {y:Value} {K:Act→World→Prop} {Q:Exit→Act→World→Prop} {w':World} (hr:(execOp a.eval o).run P w = .ok (.value y) w') (hK:K (a.put o.dst y) w'):o.wp P a w K Q:=by
 unfold Oper.wp;rw [hr];exact hK
theorem ad5 {o:Oper} {K:Act→World→Prop} {Q:Exit→Act→World→Prop} {w':World} (hr:(execOp a.eval o).run P w = .ok .skip w') (hK:K (a.put o.dst undef) w'):o.wp P a w K Q:=by
 unfold Oper.wp;rw [hr];exact hK
theorem dD {o:Oper} {rd:List Nat} {d:Nat} {h:List D→Option D} (hI:Inv c B X w0 F0 F O a w δ) (hd:o.dst=some d) {k:List D→Option Out} {r:Out} (hg:fX c (.one rd d h) δ k=some r)
  (hrun:∀z,h (aB δ rd)=some z→∃y,(execOp a.eval o).run P w = .ok (.value y) w∧SB c.K B F a w δ d z y) (Q:Exit→Act→World→Prop):o.wp P a w (Next c B X w0 F0 k r) Q:=by
 simp only [fX] at hg;obtain⟨z,hz,hk⟩:=ai5.1 hg;obtain⟨y,hy,hp⟩:=hrun z hz;exact WB hy ⟨F,O,_,by rw [hd];exact hI.put hp,hk⟩
theorem kP {lv lv':Nat} (hl:lv≤lv') {z:D} {y:Value} (h:dw w (FB F B lv) z y):dw w (FB F B lv') z y:=h.imp id fun h=>co (qv hl) (fun _ _=>rfl) h
theorem bQ {o:Oper} {xs:List Operand} {lv:Nat} {h:List D→Option D} {A:Ac} (hA:cP c o.dst xs lv h=some A) (hI:Inv c B X w0 F0 F O a w δ) {k:List D→Option Out} {r:Out} (hg:fX c A δ k=some r)
  (hrun:(∀x∈xs,gw c.K x≤2∧dw w (FB F B (gw c.K x)) (opD δ x) (a.eval x))→∀z,h (xs.map (opD δ))=some z→∃y,(execOp a.eval o).run P w = .ok (.value y) w∧dw w (FB F B lv) z y) (Q:Exit→Act→World→Prop):o.wp P a w (Next c B X w0 F0 k r) Q:=by
 unfold cP at hA;split at hA
 ·cases hA
 rename_i d hd;split at hA
 case h_2=>cases hA
 rename_i l hk;split at hA
 ·cases hA
 rename_i hlv;rw [cT] at hlv;have hops:∀x∈xs,gw c.K x≤2∧dw w (FB F B (gw c.K x)) (opD δ x) (a.eval x):=fun x hx=>⟨rO hlv x hx,hI.opd (rO hlv x hx)⟩
 have putOk:∀z y,dw w (FB F B l) z y→SB c.K B F a w δ d z y:=fun z y hz=>hz.imp id fun hz=>by rw [hk];exact hz
 split at hA
 ·rename_i hle
  rw [cT] at hle;cases hA;refine dD hI hd hg (fun z hz=>?_) Q
  rw [dU] at hz;obtain⟨y,h1,h2⟩:=hrun hops z hz;exact⟨y,h1,putOk z y (kP hle h2)⟩
 ·split at hA
  case h_2=>cases hA
  cases hA;refine dD hI hd hg (fun z hz=>?_) Q
  rw [dU] at hz;obtain⟨z',hz',hc⟩:=ai5.1 hz;obtain⟨y,h1,h2⟩:=hrun hops z' hz';unfold aM at hc;split at hc
  case isFalse=>cases hc
  rename_i hv;cases hc;refine⟨y,h1,putOk z y (.inr (vx hv (h2.rep ?_)))⟩
  intro e;subst e;simp [D.isV] at hv
theorem fO {o:Oper} {s:Sem Value} {y:Value} {w':World} (he:execOp a.eval o=(do pure (.value (←s)))) (hs:s.run P w = .ok y w'):(execOp a.eval o).run P w = .ok (.value y) w':=by
 rw [he];simp [hs]
theorem pO {v:Value} (h:flat v=true) {G:Nat→Prop} {z:D} (hz:z = .v v):dw w G z v:=.inr (hz ▸ dg h)
theorem cK {h:D→Option D} {l:List D} {z:D} (e:km h l=some z):∃a,l=[a]∧h a=some z:=by
 unfold km at e;split at e
 ·exact⟨_,rfl,e⟩
 ·cases e
theorem mQ {h:D→D→Option D} {l:List D} {z:D} (e:Mm h l=some z):∃a b,l=[a,b]∧h a b=some z:=by
 unfold Mm at e;split at e
 ·exact⟨_,_,rfl,e⟩
 ·cases e
theorem SI {h:D→D→D→Option D} {l:List D} {z:D} (e:afy h l=some z):∃a b x,l=[a,b,x]∧h a b x=some z:=by
 unfold afy at e;split at e
 ·exact⟨_,_,_,rfl,e⟩
 ·cases e
def nO (P:Program) (c:Cx) (o:Oper):Prop :=
 ∀(A:Ac),dO c o=some A→∀(B:Nat) (X:Nat→Prop) (w0:World) (F0 F:Nat→Prop) (O:Nat→Option (Nat × Nat)) (a:Act) (w:World) (δ:List D),Inv c B X w0 F0 F O a w δ →
  ∀(k:List D→Option Out) (r:Out),fX c A δ k=some r→∀Q,o.wp P a w (Next c B X w0 F0 k r) Q
theorem aQ {t:Nat} {f:TI→Option Ac} {A:Ac} (h:iL c t f=some A):∃i,en c.T t=some i∧f i=some A:=by
 unfold iL at h;split at h
 ·exact⟨_,‹_›,h⟩
 ·cases h
theorem tok (hT:okT P c.T=true) {t:Nat} {i:TI} (h:en c.T t=some i):TOk P t i:=aev (ach hT h)
theorem Zj {o:Oper} {q x y:Operand} (ho:o.op = .pick q x y):nO P c o:=by
 intro A hA B X w0 F0 F O a w δ hI k r hg Q;simp only [dO,ho] at hA;refine bQ hA hI hg (fun hx z hz=>?_) Q
 obtain⟨d1,d2,d3,e,hz⟩:=SI hz;simp only [aiZ,ai3,aiX,and_true] at e;obtain⟨rfl,rfl,rfl⟩:=e;have h1:=(hx q (by simp)).2;have h2:=(hx x (by simp)).2;have h3:=(hx y (by simp)).2;rw [Cd];obtain⟨v,hv,hr⟩:=acr (P:=P) h1 (kP (Nat.le_max_left _ (gw c.K y)) h2) (kP (Nat.le_max_right (gw c.K x) _) h3) hz;refine⟨v,?_,hr⟩
 simp only [execOp,ho];simp only [aiW,ai1] at hv ⊢;cases hb:(asBool (a.eval q)).run P w with
 | halt s t=>rw [hb] at hv;simp at hv
 | ok b w' =>
  rw [hb] at hv;simp only [aiU,Result.ok.injEq] at hv ⊢;exact⟨by rw [hv.1],hv.2⟩
theorem Wl (hT:okT P c.T=true) {o:Oper} {op:BinOp} {t t':Nat} {x y:Operand} (ho:o.op = .binOp op t x y t'):nO P c o:=by
 intro A hA B X w0 F0 F O a w δ hI k r hg Q;simp only [dO,ho] at hA;obtain⟨i,hi,hA⟩:=aQ hA;split at hA
 ·rename_i hif
  refine bQ hA hI hg (fun hx z hz=>?_) Q
  obtain⟨d1,d2,e,hz⟩:=mQ hz;simp only [aiZ,ai3,aiX,and_true] at e;obtain⟨rfl,rfl⟩:=e;obtain⟨v,hv,hr,hf⟩:=abZ (P:=P) (tok hT hi) hif x y (fun hn=>by
   unfold acQ at hn;split at hn
   ·exact⟨_,rfl⟩
   ·cases hn) (hx x (by simp)).2 (hx y (by simp)).2 hz
  exact⟨v,fO (by simp only [execOp,ho]) hv,pO hf hr⟩
 split at hA
 ·rename_i hsl hny
  refine bQ hA hI hg (fun hx z hz=>?_) Q
  obtain⟨d1,d2,e,hz⟩:=mQ hz;simp only [aiZ,ai3,aiX,and_true] at e;obtain⟨rfl,rfl⟩:=e;have ey:y = .const (.slice none 0 0):=by
   unfold aeo at hny;split at hny
   ·rfl
   ·cases hny
  have ev:a.eval y = .slice none 0 0:=by rw [ey];rfl
  obtain⟨v,hv,hr,hf⟩:=aed (P:=P) (tok hT hi) hsl x y (hx x (by simp)).2 hz;rw [←ev] at hv;exact⟨v,fO (by simp only [execOp,ho]) hv,pO hf hr⟩
 refine bQ hA hI hg (fun hx z hz=>?_) Q
 obtain⟨d1,d2,e,hz⟩:=mQ hz;simp only [aiZ,ai3,aiX,and_true] at e;obtain⟨rfl,rfl⟩:=e;obtain⟨v,hv,hr,hf⟩:=aeA (P:=P) (tok hT hi) x y (hx x (by simp)).2 (hx y (by simp)).2 hz;exact⟨v,fO (by simp only [execOp,ho]) hv,pO hf hr⟩
theorem YA {o:Oper} {op:UnOp} {t:Nat} {x:Operand} (ho:o.op = .unOp op t x):nO P c o:=by
 intro A hA B X w0 F0 F O a w δ hI k r hg Q;simp only [dO,ho] at hA;refine bQ hA hI hg (fun hx z hz=>?_) Q
 obtain⟨d1,e,hz⟩:=cK hz;simp only [aiZ,ai3,aiX,and_true] at e;subst e;obtain⟨v,hv,hr,hf⟩:=agq (P:=P) (hx x (by simp)).2 hz;exact⟨v,fO (by simp only [execOp,ho]) hv,pO hf hr⟩
theorem xI {i ti:TI} {f off:Nat} (h:HC c i f=some (off,ti)):∃ty,i.fs[f]?=some (off,ty)∧en c.T ty=some ti:=by
 unfold HC at h;split at h
 ·rename_i o ty hf
  split at h
  ·rename_i j hj
   simp at h;obtain⟨rfl,rfl⟩:=h;rw [Gq] at hf;exact⟨ty,hf,hj⟩
  ·cases h
 ·cases h
theorem VE (hT:okT P c.T=true) {o:Oper} {t f:Nat} {x:Operand} (ho:o.op = .field t x f):nO P c o:=by
 intro A hA B X w0 F0 F O a w δ hI k r hg Q;simp only [dO,ho] at hA;obtain⟨i,hi,hA⟩:=aQ hA;split at hA
 case h_2=>cases hA
 rename_i off ti hf;obtain⟨ty,hf,hti⟩:=xI hf;refine bQ hA hI hg (fun hx z hz=>?_) Q
 obtain⟨d1,e,hz⟩:=cK hz;simp only [aiZ,ai3,aiX,and_true] at e;subst e;obtain⟨y,hy,hr⟩:=aez (tok hT hi) (tok hT hti) hf (hx x (by simp)).2 hz;exact⟨y,fO (by simp only [execOp,ho]) hy,.inr hr⟩
theorem XD (hT:okT P c.T=true) {o:Oper} {t:Nat} {x y:Operand} (ho:o.op = .index t x y):nO P c o:=by
 intro A hA B X w0 F0 F O a w δ hI k r hg Q;simp only [dO,ho] at hA;obtain⟨i,hi,hA⟩:=aQ hA;unfold afr at hA;split at hA
 ·rename_i hs
  refine bQ hA hI hg (fun hx z hz=>?_) Q
  obtain⟨d1,d2,e,hz⟩:=mQ hz;simp only [aiZ,ai3,aiX,and_true] at e;obtain⟨rfl,rfl⟩:=e;obtain⟨v,hv,hr,hf⟩:=acd (P:=P) (tok hT hi) hs (hx x (by simp)).2 (hx y (by simp)).2 hz;exact⟨v,fO (by simp only [execOp,ho]) hv,pO hf hr⟩
 ·split at hA
  ·cases hA
  ·rename_i n hn
   obtain⟨e',he,hA⟩:=aQ hA;refine bQ hA hI hg (fun hx z hz=>?_) Q
   obtain⟨d1,d2,e,hz⟩:=mQ hz;simp only [aiZ,ai3,aiX,and_true] at e;obtain⟨rfl,rfl⟩:=e;obtain⟨v,hv,hr⟩:=afU (P:=P) (tok hT hi) (tok hT he) (by intro h0;exact hn h0) rfl (hx x (by simp)).2 (hx y (by simp)).2 hz;exact⟨v,fO (by simp only [execOp,ho]) hv,.inr hr⟩
theorem Nf {o:Oper} {f:Nat} {u v:Array Operand} (ho:o.op = .makeFunc (.func f) u v):nO P c o:=by
 intro A hA B X w0 F0 F O a w δ hI k r hg Q;simp only [dO,ho] at hA;split at hA
 case h_3=>cases hA
 case h_2 =>
  rename_i x0 xs h1 h2;refine bQ hA hI hg (fun hx z hz=>?_) Q
  have e1:u=#[]:=by simpa using h1
  subst e1;unfold ahB at hz;split at hz
  case isFalse=>cases hz
  rename_i hall;cases hz;refine⟨.func (.func f) #[] (v.map a.eval),fO (s:=Instr.makeFunc (.func f) #[] (v.map a.eval)) (by simp [execOp,ho]) rfl,.inr ?_⟩
  simp only [bU,RepC];refine⟨(x0::xs).map a.eval,?_,?_⟩
  ·have:v=(x0::xs).toArray:=by rw [←h2]
   rw [this];simp
  ·have key:∀ys:List Operand,(∀y∈ys,y∈x0::xs)→(ys.map (opD δ)).all D.single=true→cm w (FB F B (qW c.K (x0::xs))) (ys.map (opD δ)) (ys.map a.eval):=by
    intro ys;induction ys with
    | nil=>intro _ _;exact aZ.2 rfl
    | cons y ys ih =>
     intro hm hs;simp only [aiZ,ajj,aiV] at hs;have h3:=(hx y (hm y (by simp))).2;have hne:opD δ y ≠ .bad:=fun e=>by rw [e] at hs;simp [D.single] at hs
     have h4:=h3.rep hne;rw [ng hs.1] at h4;exact ax.2 ⟨[a.eval y],ys.map a.eval,rfl,RepC_mono (qv (rO (ajn _) y (hm y (by simp)))) (fun _ _=>rfl) _ _ h4,ih (fun z hz=>hm z (by simp [hz])) hs.2⟩
   exact key (x0::xs) (fun _ h=>h) hall
 rename_i h1 h2;refine bQ hA hI hg (fun hx z hz=>?_) Q
 simp at hz;subst hz;have e1:u=#[]:=by simpa using h1
 have e2:v=#[]:=by simpa using h2
 subst e1 e2;refine⟨.func (.func f) #[] #[],fO (s:=Instr.makeFunc (.func f) #[] #[]) (by simp [execOp,ho]) rfl,.inr ?_⟩
 simp only [bU,RepC];exact⟨[],rfl,aZ.2 rfl⟩
theorem Ka {K:List Kd} {t:Nat} {rd:List Nat} {lv:Nat} {r:Option Nat} (h:ta K (.tmp t)=some (rd,lv,r)) :
  (aD K t = .dat lv∧rd=[t]∧r=none)∨(∃z io,aD K t = .own z lv io∧rd=[t]∧r=some t)∨(∃q z io,aD K t = .via q∧aD K q = .own z lv io∧rd=[t,q]∧r=some q):=by
 simp only [ta] at h;split at h
 ·rename_i l hk
  simp at h;obtain⟨rfl,rfl,rfl⟩:=h;exact .inl ⟨hk,rfl,rfl⟩
 ·rename_i z l io hk
  simp at h;obtain⟨rfl,rfl,rfl⟩:=h;exact .inr (.inl ⟨z,io,hk,rfl,rfl⟩)
 ·rename_i q hk
  split at h
  ·rename_i z l io hq
   simp at h;obtain⟨rfl,rfl,rfl⟩:=h;exact .inr (.inr ⟨q,z,io,hk,hq,rfl,rfl⟩)
  ·cases h
 ·cases h
theorem nT {w:World} {F:Nat→Prop} {own:Nat→Prop} {z:Nat} {d:D} {y:Value} (h:lL w F own z d y):bU w (fun b=>F b∨own b) d y:=by
 obtain⟨l,rfl,h2,h3⟩:=h;simp only [bU,RepC];rcases h3 with ⟨rfl,rfl⟩ | ⟨g,o,c,us,cs,e,rfl,a2,a3,a4,a5,a6,a7⟩
 ·exact⟨none,0,[],rfl,ajn _,aZ.2 rfl,h2,fun h=>absurd rfl h⟩
 ·refine⟨_,c,us,rfl,a2,cL (fun b hb=>.inl hb) (fun _ _=>rfl) _ _ a5,h2,fun _=>⟨g,o,rfl,.inr a7,fun i u hu=>?_⟩⟩
  simp [World.cell?,a3,a6 i u hu]
theorem Inv.own (h:Inv c B X w0 F0 F O a w δ) {s z lv:Nat} {io:Bool} (hk:aD c.K s = .own z lv io) (hb:nth δ s ≠ .bad):lL w (FB F B lv) (fun g=>O g=some (s,0)∧(io=false→B≤g)) z (nth δ s) (av a s):=by
 have h0:=(h.slot s).resolve_left hb;rw [hk] at h0;exact h0.resolve_left hb
theorem Inv.box (h:Inv c B X w0 F0 F O a w δ) {s n lv:Nat} {io:Bool} (hk:aD c.K s = .box n lv io) (hb:nth δ s ≠ .bad):Gx w (FB F B lv) (fun g=>O g=some (s,0)∧(io=false→B≤g)) n (nth δ s) (av a s):=by
 have h0:=(h.slot s).resolve_left hb;rw [hk] at h0;exact h0.resolve_left hb
theorem Inv.via (h:Inv c B X w0 F0 F O a w δ) {s q:Nat} (hk:aD c.K s = .via q) (hb:nth δ s ≠ .bad):av a s=av a q∧nth δ s = .ref 0 0∧nth δ q ≠ .bad∧ql c.K q=true:=by
 have h0:=(h.slot s).resolve_left hb;rw [hk] at h0;exact h0
theorem Inv.ref (h:Inv c B X w0 F0 F O a w δ) {s q:Nat} (hk:aD c.K s = .ref q) (hb:nth δ s ≠ .bad):∃i f,nth δ s = .ref i f∧nth δ q ≠ .bad∧zE (aD c.K q) (av a q) i f (av a s):=by
 have h0:=(h.slot s).resolve_left hb;rw [hk] at h0;exact h0
theorem cM {p x y:D} (h:aa p x=some y):p ≠ .bad∧x=y:=by
 unfold aa at h;split at h
 ·cases h
 ·rename_i hp
  simp at h;exact⟨hp,h⟩
theorem abT {k:Kd} {y p:Value} {i f:Nat} (h:zE k y i f p):∃g o,p = .pointer (some ⟨g,o,none⟩):=by
 unfold zE at h;split at h
 ·obtain⟨g,o,n,cc,_,e⟩:=h;exact⟨g,_,e⟩
 ·obtain⟨g,_,e⟩:=h;exact⟨g,_,e⟩
 ·exact h.elim
theorem OL {o:Oper} {x:Operand} (ho:o.op = .nilCheck x):nO P c o:=by
 intro A hA B X w0 F0 F O a w δ hI k r hg Q;simp only [dO,ho] at hA;have dat:cP c o.dst [x] (gw c.K x) (km Pg)=some A→o.wp P a w (Next c B X w0 F0 k r) Q:=by
  intro hA;refine bQ hA hI hg (fun hx z hz=>?_) Q
  obtain⟨d1,e,hz⟩:=cK hz;simp only [aiZ,ai3,aiX,and_true] at e;subst e;obtain⟨h1,h2⟩:=afA (P:=P) (hx x (by simp)).2 hz o x a.eval ho rfl;exact⟨_,h1,.inr h2⟩
 have run:∀t g o',x = .tmp t→av a t = .pointer (some ⟨g,o',none⟩)→(execOp a.eval o).run P w = .ok (.value (av a t)) w:=by
  intro t g o' hx hv;subst hx;simp [execOp,ho,eF,hv]
 unfold afl at hA;split at hA
 ·rename_i t
  split at hA
  ·rename_i n lv io hk
   split at hA
   ·cases hA
   rename_i d hd;split at hA
   case h_2=>cases hA
   rename_i rr hkd;split at hA
   case h_2=>cases hA
   rename_i hrt;rw [bd] at hrt;subst hrt;cases hA;refine dD hI hd hg (fun z hz=>?_) Q
   obtain⟨d1,e,hz⟩:=cK hz;simp only [aB,aiX,and_true] at e;subst e;obtain⟨h1,rfl⟩:=cM hz;obtain⟨m,us,g,e,_,a1,_⟩:=hI.box hk h1;refine⟨_,run _ g 0 rfl a1,.inr ?_⟩
   rw [hkd];refine⟨0,0,rfl,h1,?_⟩
   rw [hk];exact⟨g,a1,a1⟩
  ·rename_i rr hk
   split at hA
   ·cases hA
   rename_i d hd;split at hA
   case h_2=>cases hA
   rename_i r' hkd;split at hA
   case h_2=>cases hA
   rename_i hrt;rw [bd] at hrt;subst hrt;cases hA;refine dD hI hd hg (fun z hz=>?_) Q
   obtain⟨d1,e,hz⟩:=cK hz;simp only [aB,aiX,and_true] at e;subst e;obtain⟨h1,rfl⟩:=cM hz;obtain⟨ii,ff,g1,g2,g3⟩:=hI.ref hk h1;obtain⟨g,o',e⟩:=abT g3;refine⟨_,run _ g o' rfl e,.inr ?_⟩
   rw [hkd];exact⟨ii,ff,g1,g2,g3⟩
  ·exact dat hA
 ·exact dat hA
theorem Cp (hI:Inv c B X w0 F0 F O a w δ) {t:Nat} {rd:List Nat} {lv:Nat} {q:Option Nat} (h:ta c.K (.tmp t)=some (rd,lv,q)) {d:D}
  (hd:(match rd with
   | [_]=>some (nth (aB δ rd) 0)
   | _=>aa (nth (aB δ rd) 0) (nth (aB δ rd) 1))=some d):∃G,dw w G d (av a t):=by
 rcases Ka h with ⟨hk,rfl,rfl⟩ | ⟨z,io,hk,rfl,rfl⟩ | ⟨s,z,io,hk,hs,rfl,rfl⟩
 ·simp [aB,nth] at hd
  subst hd;exact⟨_,hI.dat hk⟩
 ·simp [aB,nth] at hd
  subst hd;by_cases hb:nth δ t = .bad
  ·exact⟨fun _=>True,.inl hb⟩
  ·exact⟨_,.inr (nT (hI.own hk hb))⟩
 ·simp only [aB,nth] at hd
  obtain⟨h1,rfl⟩:=cM hd;obtain⟨g1,g2,g3,g4⟩:=hI.via hk h1;rw [g1];exact⟨_,.inr (nT (hI.own hs g3))⟩
theorem Oi (hT:okT P c.T=true) {o:Oper} {x:Operand} {t:Nat} {str:Bool} (ho:o.op = .call {callee:=.builtin .len,args:=#[x],argTypes:=#[t]}) {i:TI} (hi:en c.T t=some i)
  (hs:str=false→rN i=true) (hs':str=true→i.str=true) {A:Ac} (hA:abq c o.dst str x=some A) (hI:Inv c B X w0 F0 F O a w δ) {k:List D→Option Out} {r:Out} (hg:fX c A δ k=some r) (Q:Exit→Act→World→Prop):o.wp P a w (Next c B X w0 F0 k r) Q:=by
 have run:∀(G:Nat→Prop) (d z:D),dw w G d (a.eval x)→lenD str d=some z→∃v,(execOp a.eval o).run P w = .ok (.value v) w∧z = .v v∧flat v=true:=by
  intro G d z hd hz;obtain⟨v,h1,h2,h3⟩:=aeT (P:=P) (t:=t) (ty:=o.type) hd (fun h=>⟨_,(rJ (tok hT hi) (hs h)).1⟩) (fun h=>((tok hT hi).str (hs' h)).1) hz;refine⟨v,?_,h2,h3⟩
  simp only [execOp,ho,resolve,invoke,builtin,aiW,ai1,aiU,List.map_toArray,aiZ,ai3,h1]
 have dat:∀A',cP c o.dst [x] 0 (km (lenD str))=some A'→fX c A' δ k=some r→o.wp P a w (Next c B X w0 F0 k r) Q:=by
  intro A' hA' hg';refine bQ hA' hI hg' (fun hx z hz=>?_) Q
  obtain⟨d1,e,hz⟩:=cK hz;simp only [aiZ,ai3,aiX,and_true] at e;subst e;obtain⟨v,h1,h2,h3⟩:=run _ _ z (hx x (by simp)).2 hz;exact⟨v,h1,pO h3 h2⟩
 unfold abq at hA;split at hA
 ·rename_i t'
  split at hA
  ·exact dat A hA hg
  ·split at hA
   case h_2=>cases hA
   rename_i d rd lv q hd hsrc;split at hA
   case h_2=>cases hA
   rename_i lv' hk;cases hA;refine dD hI hd hg (fun z hz=>?_) Q
   have key:∃G dd,dw w G dd (av a t')∧lenD str dd=some z:=by
    have hsrc':=hsrc;rcases Ka hsrc' with ⟨h1,rfl,rfl⟩ | ⟨_,_,h1,rfl,rfl⟩ | ⟨s,_,_,h1,h2,rfl,rfl⟩
    ·obtain⟨G,hG⟩:=Cp hI hsrc (d:=nth δ t') (by simp [aB,nth])
     exact⟨G,_,hG,by simpa [aB,nth] using hz⟩
    ·obtain⟨G,hG⟩:=Cp hI hsrc (d:=nth δ t') (by simp [aB,nth])
     exact⟨G,_,hG,by simpa [aB,nth] using hz⟩
    ·simp only [aB,nth] at hz
     obtain⟨dd,e1,e2⟩:=ai5.1 hz;obtain⟨G,hG⟩:=Cp hI hsrc (d:=dd) (by simpa [aB,nth] using e1);exact⟨G,dd,hG,e2⟩
   obtain⟨G,dd,h1,h2⟩:=key;obtain⟨v,e1,e2,e3⟩:=run G dd z h1 h2;exact⟨v,e1,(pO (G:=FB F B lv') e3 e2).imp id fun h=>by rw [hk];exact h⟩
 ·exact dat A hA hg
end
end Go.V

end
