/-
  A part of the proof: contracts and plain forms of functions beneath the statement, made small by a program (names shortened, what is not needed left out).
-/
import Derived.Test.YtkcojipciiakdaaRows
import Derived.WalkKit
open Nat renaming beq → HA, ble → HG, eq_of_beq_eq_true → HR, succ → HY, le_refl → Ii, add_assoc → Iy, lt_or_ge → IB, min_eq_left → IG
open Go.Result renaming andThen_ok → HB
open Bool renaming and_eq_true → HC, not_eq_true' → HK, false_eq_true → HZ
open Go.Sem renaming run_bind → HD, run_pure → HJ
open List.cons renaming injEq → HE
open List renaming map_cons → HH, map_nil → HL, getElem?_eq_some_iff → HM, mem_of_mem_take → HO, length_take → HT, all_eq_true → HU, mem_cons → HW, drop_eq_nil_of_le → Ia, all_cons → Ic, mem_of_mem_drop → Ie, eq_nil_of_length_eq_zero → Ig, length_drop → Im, nil_append → In, mem_append → Io, take_append_drop → Iv, mem_cons_of_mem → Ix, getElem?_drop → IA, cons_append → IE, length_cons → IF, foldl_cons → IH
open Option renaming map_eq_some_iff → HI, bind_eq_some_iff → HN
open Go.Op renaming equalIn → HQ, equal → HV, maxDepth → Ib, bytesLess → Ik, eqFields → Ir, intArith → It, stringOp → ID
open Go.Addr renaming add_lit → HS
open Go.Instr renaming indexAt → HX, sureAddr → Ih, loadAt → Il, index → Iu, fieldAt → Iz, sliceAt → IJ
open Option.some renaming injEq → Ij
open UInt8 renaming ofNat → Ip
open Go.Value renaming cells → Iq, int → II
open Go.World renaming cell?_of_block → Iw
open Go.Builtin renaming len_ → IC, min2 → IL, max2 → IM
open Go.Program renaming elem → IK
set_option maxRecDepth 100000
set_option linter.unusedSimpArgs false
set_option linter.unusedVariables false
noncomputable section
namespace Go.V
inductive D where
 | v (x:Value)
 | arr (z:Nat) (l:List D)
 | agg (l:List D)
 | ptr (l:List D)
 | clo (f:Nat) (l:List D)
 | ifc
 | raw (x:Value)
 | tup (l:List D)
 | ref (i f:Nat)
 | bad
 deriving Inhabited
abbrev B (b:Bool):D:=.v (.bool b)
abbrev I (n:Int):D:=.v (.int .i64 n)
abbrev U (n:Int):D:=.v (.int .u8 n)
abbrev T (s:ByteArray):D:=.v (.string s)
inductive Out where
 | nrm (δ:List D)
 | ext (id:Nat) (δ:List D)
 | ret (rs us:List D)
structure TI where
 agg:Bool:=false
 n:Nat:=1
 zero:List D:=[]
 elem:Nat:=0
 ez:Nat:=0
 eb:Nat:=0
 fs:List (Nat × Nat):=[]
 alen:Nat:=0
 eq:List Nat:=[]
 ik:Option IntKind:=none
 str:Bool:=false
 bl:Bool:=false
 ifc:Bool:=false
inductive Kd where
 | dat (lv:Nat)
 | own (z lv:Nat) (io:Bool)
 | box (n lv:Nat) (io:Bool)
 | via (r:Nat)
 | ref (r:Nat)
 | tup (l:List Kd)
 | no
structure FS where
 pm:List Kd
 rm:List Kd
 f:List D→Option Out
structure Cx where
 K:List Kd
 T:List (Nat × TI)
 S:List (Nat × FS)
 H:List (Nat × (List Nat × List Nat)):=[]
 res:List ResultVar
 ios:List Nat:=[]
 G:List (Nat × (Obj→Prop)):=[]
 N:List Nat:=[]
 C:List (Nat × Nat):=[]
section small
@[reducible] def zq {α:Type}:List α→Nat→Option α
 | [],_=>none
 | a::_,0=>some a
 | _::l,n+1=>zq l n
@[reducible] def nth:List D→Nat→D
 | [],_=>.bad
 | a::_,0=>a
 | _::l,n+1=>nth l n
@[reducible] def ak:List Kd→Nat→Kd
 | [],_=>.no
 | a::_,0=>a
 | _::l,n+1=>ak l n
@[reducible] def dY:List D→Nat→D→List D
 | [],_,_=>[]
 | _::l,0,b=>b::l
 | a::l,n+1,b=>a::dY l n b
@[reducible] def dl {α:Type}:List (Nat × α)→Nat→Option α
 | [],_=>none
 | (k,a)::l,n=>match HA k n with
  | true=>some a
  | false=>dl l n
@[reducible] def app {α:Type}:List α→List α→List α
 | [],b=>b
 | a::l,b=>a::app l b
@[reducible] def jN {α β:Type} (f:α→β):List α→List β
 | []=>[]
 | a::l=>f a::jN f l
@[reducible] def aj:List D→List Nat→List D→List D
 | δ,[],_=>δ
 | δ,s::ss,[]=>aj (dY δ s .bad) ss []
 | δ,s::ss,d::ds=>aj (dY δ s d) ss ds
@[reducible] def ep {R:Type}:List D→Nat→(D→R)→R
 | [],_,k=>k .bad
 | a::_,0,k=>k a
 | _::l,n+1,k=>ep l n k
@[reducible] def Ad {R:Type}:List D→Nat→D→(List D→R)→R
 | [],_,_,k=>k []
 | _::l,0,b,k=>k (b::l)
 | a::l,n+1,b,k=>Ad l n b fun l'=>k (a::l')
@[reducible] def oB {R:Type} (δ:List D):List Nat→(List D→R)→R
 | [],k=>k []
 | s::ss,k=>ep δ s fun a=>oB δ ss fun l=>k (a::l)
@[reducible] def cZ {R:Type}:List D→List Nat→List D→(List D→R)→R
 | δ,[],_,k=>k δ
 | δ,s::ss,[],k=>Ad δ s .bad fun δ=>cZ δ ss [] k
 | δ,s::ss,d::ds,k=>Ad δ s d fun δ=>cZ δ ss ds k
@[reducible] def jS:Nat→List Nat→Bool
 | _,[]=>false
 | n,m::l=>match HA n m with
  | true=>true
  | false=>jS n l
end small
def D.cells:D→List D
 | .agg l=>l
 | d=>[d]
def D.single:D→Bool
 | .v _ | .arr .. | .ptr _ | .clo .. | .ifc | .raw _=>true
 | _=>false
def D.width (d:D):Nat:=d.cells.length
def D.isV:D→Bool
 | .v _=>true
 | .agg l=>l.all fun | .v _=>true | _=>false
 | _=>false
def flat:Value→Bool
 | .bool _ | .int .. | .string _ | .nilFunc | .nilIface | .pointer none=>true
 | .slice none 0 0=>true
 | _=>false
def eH (op:BinOp) (k:IntKind) (a b:Int):Option D :=
 match op with
 | .add=>some (.v (.int k (k.wrap (a+b))))
 | .sub=>some (.v (.int k (k.wrap (a - b))))
 | .mul=>some (.v (.int k (k.wrap (a*b))))
 | .quo=>if b=0 then none else some (.v (.int k (k.wrap (a.tdiv b))))
 | .rem=>if b=0 then none else some (.v (.int k (a.tmod b)))
 | .and | .or | .xor | .andNot=>some (.v (.int k (bits op k a b)))
 | .eql=>some (B (a==b))
 | .neq=>some (B (a != b))
 | .lss=>some (B (a<b))
 | .leq=>some (B (a≤b))
 | .gtr=>some (B (a>b))
 | .geq=>some (B (a≥b))
 | .shl | .shr=>none
def nQ (op:BinOp) (a b:ByteArray):Option D :=
 match op with
 | .add=>if a.size+b.size≤1152921504606846976 then some (T (a++b)) else none
 | .eql=>some (B (a.toList==b.toList))
 | .neq=>some (B !(a.toList==b.toList))
 | .lss=>some (B (Ik a.toList b.toList))
 | .leq=>some (B (Ik a.toList b.toList||a.toList==b.toList))
 | .gtr=>some (B !(Ik a.toList b.toList||a.toList==b.toList))
 | .geq=>some (B !(Ik a.toList b.toList))
 | _=>none
def oP:List Nat→List D→List D→Option Bool
 | [],[],[]=>some true
 | 1::c,.v (.int k a)::l,.v (.int k' b)::m=>if k=k' then(oP c l m).map (a==b&&·) else none
 | 2::c,.v (.bool a)::l,.v (.bool b)::m=>(oP c l m).map (a==b&&·)
 | 3::c,.v (.string a)::l,.v (.string b)::m=>(oP c l m).map (a.toList==b.toList&&·)
 | _,_,_=>none
def bin (op:BinOp) (bl:Bool) (eq:List Nat) (x y:D):Option D :=
 match op,x,y with
 | .shl,.v (.int k a),.v (.int _ b)=>if 0≤b then some (.v (.int k (k.wrap (a*2 ^ min b.toNat k.bits)))) else none
 | .shr,.v (.int k a),.v (.int _ b)=>if 0≤b then some (.v (.int k (a.fdiv (2 ^ min b.toNat k.bits)))) else none
 | op,.v (.int k a),.v (.int k' b)=>if k=k' then eH op k a b else none
 | op,.v (.string a),.v (.string b)=>nQ op a b
 | .eql,.v (.bool a),.v (.bool b)=>if bl then some (B (a==b)) else none
 | .neq,.v (.bool a),.v (.bool b)=>if bl then some (B !(a==b)) else none
 | .eql,.agg a,.agg b=>if eq=[] then none else(oP eq a b).map B
 | .neq,.agg a,.agg b=>if eq=[] then none else(oP eq a b).map fun q=>B !q
 | _,_,_=>none
def Gy (nc:Bool) (op:BinOp) (x y:D):Option D :=
 match op,x,y with
 | .eql,.ifc,.v .nilIface=>some (B false)
 | .neq,.ifc,.v .nilIface=>some (B true)
 | .eql,.v .nilIface,.v .nilIface=>if nc then some (B true) else none
 | .neq,.v .nilIface,.v .nilIface=>if nc then some (B false) else none
 | _,_,_=>none
def Gz (op:BinOp) (x:D):Option D :=
 match op,x with
 | .eql,.v (.slice none 0 0)=>some (B true)
 | .neq,.v (.slice none 0 0)=>some (B false)
 | .eql,.arr _ (_::_)=>some (B false)
 | .neq,.arr _ (_::_)=>some (B true)
 | _,_=>none
def un (op:UnOp) (x:D):Option D :=
 match op,x with
 | .neg,.v (.int k n)=>some (.v (.int k (k.wrap (0 - n))))
 | .not,.v (.bool b)=>some (B !b)
 | _,_=>none
def bg (c a b:D):Option D :=
 match c with
 | .v (.bool true)=>some a
 | .v (.bool false)=>some b
 | _=>none
def lenD (str:Bool) (x:D):Option D :=
 match str,x with
 | false,.arr _ l=>some (I l.length)
 | true,.v (.string s)=>some (I s.size)
 | _,_=>none
def bj (z:Nat) (x i:D):Option (List D) :=
 match x,i with
 | .arr z' l,.v (.int _ n)=>if z'=z∧0≤n then(l[n.toNat]?).map D.cells else none
 | _,_=>none
def an (ag:Bool) (n:Nat) (l:List D):Option D :=
 if ag then(if n≤l.length then some (.agg (l.take n)) else none) else l.head?
def pf (x i:D):Option D :=
 match x,i with
 | .v (.string s),.v (.int _ n)=>if 0≤n then(s.data.toList[n.toNat]?).map fun b=>U b.toNat else none
 | _,_=>none
def fa (str:Bool) (z:Nat) (x lo hi:D):Option D :=
 match str,x,lo,hi with
 | false,.arr z' l,.v (.int _ a),.v (.int _ b)=>if z'=z∧0≤a∧a≤b∧b≤l.length then some (.arr z ((l.take b.toNat).drop a.toNat)) else none
 | true,.v (.string s),.v (.int _ a),.v (.int _ b)=>if 0≤a∧a≤b∧b≤s.size then some (T (s.extract a.toNat b.toNat)) else none
 | _,_,_,_=>none
def bB (d:D):Option D:=if d.isV then some d else none
def je (z eb:Nat) (x y:D):Option D :=
 match x,y with
 | .arr a l,.arr b m=>if (a=z∨l=[])∧(b=z∨m=[])∧(l.length+m.length)*eb≤140737488355328∧l.length+m.length≤1152921504606846976 then some (.arr z (l++m)) else none
 | _,_=>none
abbrev Y:Kd:=.dat 0
abbrev Yb:Kd:=.dat 1
abbrev Yc:Kd:=.dat 2
abbrev Yo (z l:Nat):Kd:=.own z l false
abbrev Yr (r:Nat):Kd:=.ref r
end Go.V

namespace Go.V
inductive Ac where
 | one (rd:List Nat) (d:Nat) (h:List D→Option D)
 | many (rd hw cw:List Nat) (fn:List D→(List D→Option Out)→Option Out)
def ifD (c:D) (t e:Option Out):Option Out :=
 match c with
 | .v (.bool true)=>t
 | .v (.bool false)=>e
 | _=>none
def al (v:D) (g:D) (pol:Bool) (r:Option D):Option D :=
 match g with
 | .v (.bool b)=>if b=pol then r else some v
 | .tup _=>some v
 | _=>none
def eW (g:D) (pol:Bool) (r:Option Out) (alt:List D) (k:List D→Option Out):Option Out :=
 match g with
 | .v (.bool b)=>if b=pol then(match r with
  | some (.nrm l)=>k l
  | _=>none) else k alt
 | .tup _=>k alt
 | _=>none
def aO (r:Option Out) (k:List D→List D→Option Out):Option Out :=
 match r with
 | some (.ret rs us)=>k rs us
 | _=>none
def kK (ag:Bool) (n off:Nat) (d:D):Option D :=
 match d with
 | .agg l=>an ag n (l.drop off)
 | _=>none
def ldD (ag:Bool) (n:Nat) (d:D):Option D :=
 match d with
 | .ptr l=>an ag n l
 | _=>none
def jE (off:Nat) (d:D):Option D :=
 match d with
 | .ptr l=>some (.ptr (l.drop off))
 | _=>none
def atD (o r:D):Option (List D) :=
 match o,r with
 | .arr _ l,.ref i f=>(l[i]?).map fun d=>d.cells.drop f
 | .agg l,.ref _ f=>some (l.drop f)
 | _,_=>none
def D.ofCells (old:D) (cs:List D):D :=
 match old,cs with
 | .agg _,cs=>.agg cs
 | _,c::_=>c
 | d,[]=>d
def ci (l:List D) (f:Nat) (vs:List D):List D:=l.take f++vs++l.drop (f+vs.length)
def stD (n:Nat) (o r x:D):Option D :=
 match o,r with
 | .arr z l,.ref i f=>match l[i]? with
  | some d=>if x.cells.length=n∧f+n≤d.width∧x.cells.all D.single then some (.arr z (l.set i (d.ofCells (ci d.cells f x.cells)))) else none
  | none=>none
 | .agg l,.ref _ f=>if x.cells.length=n∧f+n≤l.length∧x.cells.all D.single then some (.agg (ci l f x.cells)) else none
 | _,_=>none
def kt (z:Nat) (o i:D):Option D :=
 match o,i with
 | .arr z' l,.v (.int _ n)=>if z'=z∧0≤n∧n<l.length then some (.ref n.toNat 0) else none
 | _,_=>none
def ae (d:D) (x:D):Option D :=
 match d with
 | .bad=>none
 | _=>some x
def nV (z n:Nat) (l:List D):Bool:=l.all fun d=>d.width==z&&(d.single||(match d with | .agg c=>c.all D.single | _=>false))&&decide (l.length=n)
def dA (z:Nat) (l:List D):Option D:=if nV z l.length l then some (.arr z l) else none
def BV (z eb:Nat) (x:D) (n c:D):Option D :=
 match n,c with
 | .v (.int _ a),.v (.int _ b)=>if 0≤a∧a≤b∧b*(eb:Int)≤140737488355328∧b≤140737488355328 then some (.arr z (List.replicate a.toNat x)) else none
 | _,_=>none
def fF (n:Nat) (x:D):Option D:=if x.cells.length=n∧x.cells.all D.single then some (.agg x.cells) else none
def GW (y:D):Option D :=
 match y with
 | .agg l=>some (.ptr l)
 | _=>none
def Hc (f:Nat) (ds:List D):Option D:=if ds.all D.single then some (.clo f ds) else none
def Ga (f n:Nat) (cl:D):Option (List D) :=
 match cl with
 | .clo g l=>if g=f∧l.length=n∧l.all D.single then some l else none
 | _=>none
def jj (t:D) (i:Nat):Option D :=
 match t with
 | .tup l=>match l[i]? with
  | some .bad=>none
  | some (.tup _)=>none
  | r=>r
 | _=>none
def qu (t:D) (i:Nat):D :=
 match t with
 | .tup l=>.tup (l.set i .bad)
 | d=>d
@[reducible] def og:Value→D
 | .slice _ _ _=>.arr 0 []
 | v=>.v v
@[reducible] def okC:Value→Bool
 | .slice none 0 0=>true
 | .bool _=>true
 | .int _ _=>true
 | .string _=>true
 | .nilFunc=>true
 | .nilIface=>true
 | .pointer none=>true
 | _=>false
@[reducible] def kn:List Operand→List Nat
 | []=>[]
 | .tmp t::xs=>t::kn xs
 | _::xs=>kn xs
@[reducible] def cU:List Operand→List D→List D
 | [],_=>[]
 | .tmp _::xs,i::is=>i::cU xs is
 | .tmp _::xs,[]=>.bad::cU xs []
 | .const c::xs,is=>og c::cU xs is
 | .func f::xs,is=>.clo f []::cU xs is
 | .global _::xs,is=>.bad::cU xs is
@[reducible] def opD (δ:List D):Operand→D
 | .tmp t=>nth δ t
 | .const c=>og c
 | .func f=>.clo f []
 | .global _=>.bad
@[reducible] def Df (a b:Nat):Nat:=match HG a b with
 | true=>b
 | false=>a
@[reducible] def cW (K:List Kd):Operand→Nat
 | .tmp t=>match ak K t with
  | .dat lv=>lv
  | _=>9
 | .const v=>match okC v with
  | true=>0
  | false=>9
 | .func _=>0
 | .global _=>9
@[reducible] def iy (K:List Kd):List Operand→Nat
 | []=>0
 | x::xs=>Df (cW K x) (iy K xs)
@[reducible] def bG (c:Cx) (dst:Option Nat) (xs:List Operand) (lv:Nat) (h:List D→Option D):Option Ac :=
 match dst with
 | none=>none
 | some d=>match ak c.K d with
  | .dat l=>match HG (iy c.K xs) 2 with
   | false=>none
   | true=>match HG lv l with
    | true=>some (.one (kn xs) d fun is=>h (cU xs is))
    | false=>match HA l 0 with
     | true=>some (.one (kn xs) d fun is=>(h (cU xs is)).bind bB)
     | false=>none
  | _=>none
@[reducible] def dK (c:Cx) (t:Nat) (f:TI→Option Ac):Option Ac:=match dl c.T t with
 | some i=>f i
 | none=>none
@[reducible] def po (c:Cx) (i:TI) (f:Nat):Option (Nat × TI):=match zq i.fs f with
 | some (off,ty)=>match dl c.T ty with
  | some j=>some (off,j)
  | none=>none
 | none=>none
@[reducible] def ex (h:D→Option D):List D→Option D
 | [a]=>h a
 | _=>none
@[reducible] def rM (h:D→D→Option D):List D→Option D
 | [a,b]=>h a b
 | _=>none
@[reducible] def Ff (h:D→D→D→Option D):List D→Option D
 | [a,b,x]=>h a b x
 | _=>none
@[reducible] def dH (r:Nat):List Kd→Nat→List Nat
 | [],_=>[]
 | .via q::K,s=>match HA q r with
  | true=>s::dH r K (HY s)
  | false=>dH r K (HY s)
 | .ref q::K,s=>match HA q r with
  | true=>s::dH r K (HY s)
  | false=>dH r K (HY s)
 | _::K,s=>dH r K (HY s)
@[reducible] def bp (K:List Kd):List Nat→List Nat
 | []=>[]
 | r::rs=>app (dH r K 0) (bp K rs)
def wD (ik:Option IntKind) (str:Bool) (x:D):Option D :=
 match ik,str,x with
 | some k,_,.v (.int _ n)=>some (.v (.int k (k.wrap n)))
 | none,true,.v (.string s)=>some (T s)
 | _,_,_=>none
def kH:List D→Option (List UInt8)
 | []=>some []
 | .v (.int .u8 n)::l=>(kH l).map (Ip n.toNat::·)
 | _=>none
def xu (x:D):Option D :=
 match x with
 | .arr _ l=>(kH l).map fun b=>T ⟨b.toArray⟩
 | _=>none
def BX (x y:D):Option D :=
 match x,y with
 | .v (.int k a),.v (.int _ b)=>some (.v (.int k (if b<a then b else a)))
 | _,_=>none
def CC (x y:D):Option D :=
 match x,y with
 | .v (.int k a),.v (.int _ b)=>some (.v (.int k (if a<b then b else a)))
 | _,_=>none
def DU (x:D):Option D :=
 match x with
 | .ptr l=>some (.ptr l)
 | .clo f l=>some (.clo f l)
 | _=>none
def gI (off:Nat) (r:D):Option D :=
 match r with
 | .ref i f=>some (.ref i (f+off))
 | _=>none
def AJ (r x:D):Option D :=
 match r with
 | .ref 0 0=>some x
 | _=>none
def ixD (len z:Nat) (x i:D):Option D :=
 match x,i with
 | .ptr l,.v (.int _ n)=>if 0≤n∧n<len then some (.ptr (l.drop (n.toNat*z))) else none
 | _,_=>none
def ixA (ag:Bool) (len z:Nat) (x i:D):Option D :=
 match x,i with
 | .agg l,.v (.int _ n)=>if 0≤n∧n<len then an ag z (l.drop (n.toNat*z)) else none
 | _,_=>none
def yV (len z:Nat) (r i:D):Option D :=
 match r,i with
 | .ref j f,.v (.int _ n)=>if 0≤n∧n<len then some (.ref j (f+n.toNat*z)) else none
 | _,_=>none
def wQ:List (Nat × Nat)→List D→List D→Option (List D)
 | (off,n)::ps,x::xs,cs=>if x.cells.length=n∧off+n≤cs.length∧x.cells.all D.single then wQ ps xs (ci cs off x.cells) else none
 | [],[],cs=>some cs
 | _,_,_=>none
def zU (ps:List (Nat × Nat)) (z:List D) (xs:List D):Option D:=(wQ ps xs z).map .agg
def jk (str:Bool) (z:Nat) (x lo:D):Option D :=
 match str,x,lo with
 | false,.arr z' l,.v (.int _ a)=>if z'=z∧0≤a∧a≤l.length then some (.arr z (l.drop a.toNat)) else none
 | true,.v (.string s),.v (.int _ a)=>if 0≤a∧a≤s.size then some (T (s.extract a.toNat s.size)) else none
 | _,_,_=>none
@[reducible] def qR (e:TI):D :=
 match e.agg with
 | true=>.agg e.zero
 | false=>match e.zero with
  | v::_=>v
  | []=>.bad
@[reducible] def eo:List Kd→List Kd→Bool
 | [],[]=>true
 | .dat a::l,.dat b::m=>match HA a b with
  | true=>eo l m
  | false=>false
 | .own z a false::l,.own y b false::m=>match HA a b,HA z y with
  | true,true=>eo l m
  | _,_=>false
 | _,_=>false
@[reducible] def yi (c:Cx) (dst:Option Nat) (x:Operand) (ty:Nat):Option Ac :=
 match x with
 | .tmp t=>match ak c.K t with
  | .own z lv io=>match dst with
   | none=>none
   | some d=>match ak c.K d with
    | .via r=>match HA r t with
     | true=>some (.one [t] d fun is=>(ex fun x=>ae x (.ref 0 0)) is)
     | false=>none
    | .own z' lv' false=>match io,HA z z',HG lv lv' with
     | false,true,true=>some (.many [t] [d,t] [] fun is k=>ep is 0 fun x=>k [x,.bad])
     | _,_,_=>none
    | .dat lv'=>match io,HG 1 lv',HG lv lv' with
     | false,true,true=>some (.many [t] [d,t] [] fun is k=>ep is 0 fun x=>k [x,.bad])
     | _,_,_=>none
    | _=>none
  | .via r=>match dst with
   | none=>none
   | some d=>match ak c.K r with
    | .own z lv io=>match ak c.K d with
     | .via r'=>match HA r r' with
      | true=>some (.one [t] d fun is=>(ex fun x=>ae x (.ref 0 0)) is)
      | false=>none
     | .own z' lv' false=>match io,HA z z',HG lv lv' with
      | false,true,true=>some (.many [t,r] [d,r] [] fun is k=>ep is 0 fun p=>ep is 1 fun x=>(ae p x).bind fun y=>k [y,.bad])
      | _,_,_=>none
     | .dat lv'=>match io,HG 1 lv',HG lv lv' with
      | false,true,true=>some (.many [t,r] [d,r] [] fun is k=>ep is 0 fun p=>ep is 1 fun x=>(ae p x).bind fun y=>k [y,.bad])
      | _,_,_=>none
     | _=>none
    | _=>none
  | .box _ _ _=>match dst with
   | none=>none
   | some d=>match ak c.K d with
    | .ref r=>match HA r t with
     | true=>some (.one [t] d fun is=>(ex fun x=>ae x (.ref 0 0)) is)
     | false=>none
    | _=>none
  | .ref r=>match dst with
   | none=>none
   | some d=>match ak c.K d with
    | .ref r'=>match HA r r' with
     | true=>some (.one [t] d fun is=>(ex fun x=>ae x x) is)
     | false=>none
    | _=>none
  | .dat lv=>bG c dst [x] lv (ex some)
  | .tup ms=>match dst with
   | none=>none
   | some d=>match ak c.K d with
    | .tup ns=>match eo ms ns,HA d t with
     | true,false=>some (.many [t] [d,t] [] fun is k=>ep is 0 fun x=>k [x,.bad])
     | _,_=>none
    | _=>none
  | _=>none
 | .const (.slice none 0 0)=>match dst with
  | none=>none
  | some d=>match ak c.K d with
   | .own z _ false=>some (.many [] [d] [] fun _ k=>k [.arr z []])
   | .dat _=>match jS d c.N with
    | true=>bG c dst [x] 0 (fun _=>some (.v (.slice none 0 0)))
    | false=>dK c ty fun i=>bG c dst [x] 0 (fun _=>some (.arr i.ez []))
   | _=>none
 | x=>bG c dst [x] (cW c.K x) (ex some)
@[reducible] def FD {α β:Type} (f:α→β):Option α→Option β
 | none=>none
 | some a=>some (f a)
@[reducible] def wM (lv l:Nat) (h:List D→Option D):Option (List D→Option D) :=
 match HG lv l with
 | true=>some h
 | false=>match HA l 0 with
  | true=>some fun is=>(h is).bind bB
  | false=>none
@[reducible] def ek (K:List Kd) (r:Nat):Nat :=
 match ak K r with
 | .own _ lv _=>lv
 | .box _ lv _=>lv
 | _=>9
@[reducible] def jm (K:List Kd) (r:Nat):Bool :=
 match ak K r with
 | .own _ _ _=>true
 | _=>false
@[reducible] def GR (K:List Kd) (r:Nat):Nat :=
 match ak K r with
 | .own z _ _=>z
 | _=>0
@[reducible] def rV (K:List Kd) (r:Nat):Bool :=
 match ak K r with
 | .own _ _ false=>true
 | _=>false
@[reducible] def Fk (c:Cx) (dst:Option Nat) (i:TI) (p:Operand):Option Ac :=
 match p with
 | .tmp q=>match ak c.K q with
  | .dat lv=>bG c dst [p] lv (ex (ldD i.agg i.n))
  | .box _ lv _=>match dst with
   | none=>none
   | some d=>match ak c.K d with
    | .dat l=>FD (fun h=>.one [q] d h) (wM lv l (fun is=>kK i.agg i.n 0 (nth is 0)))
    | _=>none
  | .ref r=>match dst with
   | none=>none
   | some d=>match ak c.K d with
    | .dat l=>FD (fun h=>.one [q,r] d h) (wM (ek c.K r) l (fun is=>(atD (nth is 1) (nth is 0)).bind (an i.agg i.n)))
    | _=>none
  | _=>none
 | _=>none
@[reducible] def rdP (q r:Nat):List Nat :=
 match HA q r with
 | true=>[r]
 | false=>[q,r]
@[reducible] def goP (q r:Nat) (is:List D) (k:D→D→List D→Option Out):Option Out :=
 match HA q r with
 | true=>match is with
  | b::is=>k b (.ref 0 0) is
  | []=>none
 | false=>match is with
  | p::b::is=>k b p is
  | _=>none
@[reducible] def stK (chk:Bool) (n:Nat) (b p y:D) (k:D→Option Out):Option Out :=
 match chk with
 | true=>(bB y).bind fun y=>(stD n b p y).bind k
 | false=>(stD n b p y).bind k
@[reducible] def yO (c:Cx) (i:TI) (q r lv:Nat) (x:Operand):Option Ac :=
 match x with
 | .tmp s=>match ak c.K s with
  | .dat l=>match HG l lv,HA lv 0 with
   | true,_=>some (.many (app (rdP q r) [s]) [] [r] fun is k=>goP q r is fun b p is=>ep is 0 fun y=>stK false i.n b p y fun b=>k [b])
   | false,true=>some (.many (app (rdP q r) [s]) [] [r] fun is k=>goP q r is fun b p is=>ep is 0 fun y=>stK true i.n b p y fun b=>k [b])
   | false,false=>none
  | .own _ l false=>match HG 1 lv,HG l lv,HA s r with
   | true,true,false=>some (.many (app (rdP q r) [s]) [s] [r] fun is k=>goP q r is fun b p is=>ep is 0 fun y=>stK false i.n b p y fun b=>k [.bad,b])
   | _,_,_=>none
  | _=>none
 | .global _=>none
 | .const v=>match okC v with
  | true=>some (.many (app (rdP q r) []) [] [r] fun is k=>goP q r is fun b p _=>stK false i.n b p (og v) fun b=>k [b])
  | false=>none
 | .func f=>some (.many (app (rdP q r) []) [] [r] fun is k=>goP q r is fun b p _=>stK false i.n b p (.clo f []) fun b=>k [b])
@[reducible] def DF (c:Cx) (i:TI) (p x:Operand):Option Ac :=
 match p with
 | .tmp q=>match ak c.K q with
  | .box _ lv _=>yO c i q q lv x
  | .ref r=>yO c i q r (ek c.K r) x
  | _=>none
 | _=>none
@[reducible] def Fw (c:Cx) (dst:Option Nat) (i:TI) (f:Nat) (p:Operand):Option Ac :=
 match p,po c i f with
 | .tmp q,some (off,_)=>match ak c.K q with
  | .dat lv=>bG c dst [p] lv (ex (jE off))
  | .box _ _ _=>match dst with
   | none=>none
   | some d=>match ak c.K d with
    | .ref r=>match HA r q with
     | true=>some (.one [q] d (ex fun b=>ae b (.ref 0 off)))
     | false=>none
    | _=>none
  | .ref r=>match dst with
   | none=>none
   | some d=>match ak c.K d with
    | .ref r'=>match HA r r' with
     | true=>some (.one [q] d (ex (gI off)))
     | false=>none
    | _=>none
  | _=>none
 | _,_=>none
@[reducible] def tz (K:List Kd) (x:Operand):Bool:=HG (cW K x) 2
@[reducible] def iG (i:TI):Bool :=
 match i.alen,i.ez with
 | 0,0=>false
 | 0,_=>true
 | _,_=>false
@[reducible] def FR (c:Cx) (dst:Option Nat) (i:TI) (x ix:Operand):Option Ac :=
  match x,tz c.K ix with
  | .tmp q,true=>match iG i with
    | true=>match ak c.K q with
      | .dat lv=>bG c dst [x,ix] lv (rM fun x j=>(bj i.ez x j).map .ptr)
      | .own _ _ _=>match dst with
        | none=>none
        | some d=>match ak c.K d with
          | .ref r=>match HA r q with
            | true=>some (.one (q::kn [ix]) d fun is=>match is with
              | b::is=>ex (kt i.ez b) (cU [ix] is)
              | []=>none)
            | false=>none
          | _=>none
      | .via r=>match dst with
        | none=>none
        | some d=>match ak c.K d with
          | .ref r'=>match HA r r',jm c.K r with
            | true,true=>some (.one (q::r::kn [ix]) d fun is=>match is with
              | p::b::is=>(ae p b).bind fun b=>ex (kt i.ez b) (cU [ix] is)
              | _=>none)
            | _,_=>none
          | _=>none
      | _=>none
    | false=>match i.alen with
     | 0=>none
     | len=>match ak c.K q with
      | .dat lv=>bG c dst [x,ix] lv (rM (ixD len i.ez))
      | .box _ _ _=>match dst with
        | none=>none
        | some d=>match ak c.K d with
          | .ref r=>match HA r q with
            | true=>some (.one (q::kn [ix]) d fun is=>match is with
              | b::is=>(ae b (.ref 0 0)).bind fun p=>ex (yV len i.ez p) (cU [ix] is)
              | []=>none)
            | false=>none
          | _=>none
      | .ref r=>match dst with
        | none=>none
        | some d=>match ak c.K d with
          | .ref r'=>match HA r r' with
            | true=>some (.one (q::kn [ix]) d fun is=>match is with
              | p::is=>ex (yV len i.ez p) (cU [ix] is)
              | []=>none)
            | false=>none
          | _=>none
      | _=>none
  | _,_=>none
@[reducible] def eX (K:List Kd) (d z lv:Nat):Bool :=
 match ak K d with
 | .own z' l false=>match HA z z' with
  | true=>HG lv l
  | false=>false
 | .dat l=>match HG 1 l with
  | true=>HG lv l
  | false=>false
 | _=>false
@[reducible] def zV:Nat→List (Nat × Operand)→Nat→Bool
 | k,[],n=>HA k n
 | k,(i,_)::ps,n=>match HA i k with
  | true=>zV (HY k) ps n
  | false=>false
@[reducible] def Fg (c:Cx) (dst:Option Nat) (i:TI) (n:Nat) (parts:List (Nat × Operand)):Option Ac :=
 let xs:=jN (fun p=>p.2) parts
 match dst with
 | none=>none
 | some d =>
  match zV 0 parts n,HG (n*i.ez) 16777216,eX c.K d i.ez (iy c.K xs),HG (iy c.K xs) 2 with
  | true,true,true,true=>some (.many (kn xs) [d] [] fun is k=>(dA i.ez (cU xs is)).bind fun a=>k [a])
  | _,_,_,_=>none
@[reducible] def iZ (K:List Kd) (x:Operand):Option (List Nat × Nat × Option Nat) :=
 match x with
 | .tmp t=>match ak K t with
  | .dat lv=>some ([t],lv,none)
  | .own _ lv _=>some ([t],lv,some t)
  | .via r=>match ak K r with
   | .own _ lv _=>some ([t,r],lv,some r)
   | _=>none
  | _=>none
 | .const (.slice none 0 0)=>some ([],0,none)
 | _=>none
@[reducible] def gg (rd:List Nat) (is:List D) (k:D→Option Out):Option Out :=
 match rd with
 | []=>k (.arr 0 [])
 | [_]=>ep is 0 k
 | _=>ep is 0 fun p=>ep is 1 fun x=>(ae p x).bind k
@[reducible] def lh {α:Type}:Nat→List α→List α
 | 0,l=>l
 | _+1,[]=>[]
 | n+1,_::l=>lh n l
@[reducible] def jJ {α:Type}:List α→Nat
 | []=>0
 | _::l=>HY (jJ l)
@[reducible] def neO:Option Nat→Option Nat→Bool
 | some a,some b=>match HA a b with
  | true=>false
  | false=>true
 | _,_=>true
def kz (d:D):Option D :=
 match d with
 | .arr z l=>if l.all D.isV then some (.arr z l) else none
 | _=>none
@[reducible] def AQ (chk:Bool) (b:D) (k:D→Option Out):Option Out :=
 match chk with
 | true=>(kz b).bind k
 | false=>k b
@[reducible] def CO (c:Cx) (d:Nat) (i:TI) (chk:Bool) (rs rx:List Nat) (os:Option Nat):Option Ac :=
 match os with
 | some r=>match rV c.K r,HA (GR c.K r) i.ez with
  | true,true=>some (.many (app rs rx) [d,r] [] fun is k=>gg rs is fun a=>gg rx (lh (jJ rs) is) fun b=>AQ chk b fun b=>(je i.ez i.eb a b).bind fun y=>k [y,.bad])
  | _,_=>none
 | none=>match rs with
  | []=>some (.many rx [d] [] fun is k=>gg rx is fun b=>AQ chk b fun b=>(je i.ez i.eb (.arr 0 []) b).bind fun y=>k [y])
  | _=>none
@[reducible] def Ez (c:Cx) (dst:Option Nat) (i:TI) (s x:Operand):Option Ac :=
 match dst,iZ c.K s,iZ c.K x with
 | some d,some (rs,ls,os),some (rx,lx,ox) =>
  match neO os ox,eX c.K d i.ez (Df ls lx),eX c.K d i.ez ls with
  | true,true,_=>CO c d i false rs rx os
  | true,false,true=>CO c d i true rs rx os
  | _,_,_=>none
 | _,_,_=>none
@[reducible] def Cn (c:Cx) (dst:Option Nat) (str:Bool) (x:Operand):Option Ac :=
 match x with
 | .tmp t=>match ak c.K t with
  | .dat _=>bG c dst [x] 0 (ex (lenD str))
  | _=>match dst,iZ c.K x with
   | some d,some (rd,_,_)=>match ak c.K d with
    | .dat _=>some (.one rd d fun is=>match rd with
     | [_]=>lenD str (nth is 0)
     | _=>(ae (nth is 0) (nth is 1)).bind (lenD str))
    | _=>none
   | _,_=>none
 | _=>bG c dst [x] 0 (ex (lenD str))
@[reducible] def nX:Option Operand→Operand
 | some l=>l
 | none=>.const (.int .i64 0)
@[reducible] def wx (c:Cx) (dst:Option Nat) (i:TI) (x:Operand) (lo hi:Option Operand):Option Ac :=
 match dst,iZ c.K x with
 | some d,some (rd,lv,some r)=>match rV c.K r,eX c.K d i.ez lv,tz c.K (nX lo),i.str with
  | true,true,true,false=>match hi with
   | some h=>match tz c.K h with
    | true=>some (.many (app rd (kn [nX lo,h])) [d,r] [] fun is k=>gg rd is fun b =>
      (rM (fa false i.ez b) (cU [nX lo,h] (lh (jJ rd) is))).bind fun y=>k [y,.bad])
    | false=>none
   | none=>some (.many (app rd (kn [nX lo])) [d,r] [] fun is k=>gg rd is fun b =>
      (ex (jk false i.ez b) (cU [nX lo] (lh (jJ rd) is))).bind fun y=>k [y,.bad])
  | _,_,_,_=>none
 | _,_=>none
@[reducible] def zK (c:Cx) (dst:Option Nat) (i:TI) (x:Operand) (lo hi:Option Operand):Option Ac :=
 match x with
 | .tmp q=>match ak c.K q with
  | .dat lv=>match hi with
   | some h=>bG c dst [x,nX lo,h] lv (Ff (fa i.str i.ez))
   | none=>bG c dst [x,nX lo] lv (rM (jk i.str i.ez))
  | .own _ _ _=>wx c dst i x lo hi
  | .via _=>wx c dst i x lo hi
  | _=>none
 | _=>none
@[reducible] def Fy (c:Cx) (dst:Option Nat) (i e:TI) (n m:Operand):Option Ac :=
 match dst,tz c.K n,tz c.K m with
 | some d,true,true=>match eX c.K d i.ez 0 with
  | true=>some (.many (kn [n,m]) [d] [] fun is k=>(match cU [n,m] is with
    | [a,b]=>BV i.ez i.eb (qR e) a b
    | _=>none).bind fun y=>k [y])
  | false=>none
 | _,_,_=>none
@[reducible] def FN (c:Cx) (dst:Option Nat) (i:TI) (x:Operand):Option Ac :=
 match dst with
 | none=>none
 | some d=>match ak c.K d with
  | .box n l false=>match HA n i.n,tz c.K x with
   | true,true=>match HG (cW c.K x) l with
    | true=>some (.many (kn [x]) [d] [] fun is k=>(ex (fF n) (cU [x] is)).bind fun y=>k [y])
    | false=>match HA l 0 with
     | true=>some (.many (kn [x]) [d] [] fun is k=>(ex (fun x=>(bB x).bind (fF n)) (cU [x] is)).bind fun y=>k [y])
     | false=>none
   | _,_=>none
  | .dat l=>match tz c.K x,HG 1 l,HG (cW c.K x) l with
   | true,true,true=>some (.many (kn [x]) [d] [] fun is k=>(ex (fF i.n) (cU [x] is)).bind fun y=>(GW y).bind fun y=>k [y])
   | _,_,_=>none
  | _=>none
@[reducible] def Fj (c:Cx) (dst:Option Nat) (i:TI):Option Ac :=
 match dst with
 | none=>none
 | some d=>match ak c.K d with
  | .box n _ false=>match HA n i.n with
   | true=>some (.many [] [d] [] fun _ k=>k [.agg i.zero])
   | false=>none
  | _=>none
@[reducible] def FU (c:Cx) (dst:Option Nat) (x:Operand) (i:Nat):Option Ac :=
 match dst,x with
 | some d,.tmp t=>match ak c.K t with
  | .tup ms=>match ak ms i with
   | .dat lv=>match ak c.K d with
    | .dat l=>match HG lv l with
     | true=>some (.one [t] d fun is=>jj (nth is 0) i)
     | false=>none
    | _=>none
   | .own z lv false=>match eX c.K d z lv with
    | true=>some (.many [t] [d,t] [] fun is k=>ep is 0 fun t=>(jj t i).bind fun y=>k [y,qu t i])
    | false=>none
   | _=>none
  | _=>none
 | _,_=>none
inductive Ag where
 | d (x:Operand) (chk:Bool)
 | bor (t r:Nat)
 | io (t r:Nat)
@[reducible] def lZ (K:List Kd) (x:Operand) (m:Kd):Option Ag :=
 match m with
 | .dat l=>match x with
  | .tmp t=>match ak K t with
   | .dat lv=>match HG lv l with
    | true=>some (.d x false)
    | false=>match HA l 0 with
     | true=>some (.d x true)
     | false=>none
   | .own _ _ _=>match HA l 2 with
    | true=>some (.bor t t)
    | false=>none
   | .via r=>match HA l 2,jm K r with
    | true,true=>some (.bor t r)
    | _,_=>none
   | _=>none
  | .global _=>none
  | .func _=>some (.d x false)
  | .const v=>match okC v with
   | true=>some (.d x false)
   | false=>none
 | .own z l true=>match x with
  | .tmp t=>match ak K t with
   | .own z' lv _=>match HA z z',HA l lv with
    | true,true=>some (.io t t)
    | _,_=>none
   | .via r=>match ak K r with
    | .own z' lv _=>match HA z z',HA l lv with
     | true,true=>some (.io t r)
     | _,_=>none
    | _=>none
   | _=>none
  | _=>none
 | .box n l true=>match x with
  | .tmp t=>match ak K t with
   | .box n' lv _=>match HA n n',HA l lv with
    | true,true=>some (.io t t)
    | _,_=>none
   | .ref r=>match ak K r with
    | .box n' lv _=>match HA n n',HA l lv with
     | true,true=>some (.io t r)
     | _,_=>none
    | _=>none
   | _=>none
  | _=>none
 | _=>none
@[reducible] def fV (K:List Kd):List Operand→List Kd→Option (List Ag)
 | [],[]=>some []
 | x::xs,m::ms=>match lZ K x m,fV K xs ms with
  | some a,some l=>some (a::l)
  | _,_=>none
 | _,_=>none
@[reducible] def du:List Ag→List Nat
 | []=>[]
 | .d x _::l=>app (kn [x]) (du l)
 | .bor t r::l=>match HA t r with
  | true=>t::du l
  | false=>t::r::du l
 | .io t r::l=>match HA t r with
  | true=>t::du l
  | false=>t::r::du l
@[reducible] def cQ:List Ag→List Nat
 | []=>[]
 | .io _ r::l=>r::cQ l
 | _::l=>cQ l
@[reducible] def dZ:List Ag→List Nat
 | []=>[]
 | .bor _ r::l=>r::dZ l
 | _::l=>dZ l
@[reducible] def gF:List Nat→Bool
 | []=>true
 | a::l=>match jS a l with
  | true=>false
  | false=>gF l
@[reducible] def tm:List Nat→List Nat→Bool
 | [],_=>true
 | a::l,m=>match jS a m with
  | true=>false
  | false=>tm l m
@[reducible] def eT (acc:List D):List Ag→List D→(List D→Option Out)→Option Out
 | [],_,k=>k acc
 | .d x chk::l,is,k=>match x with
  | .tmp _=>match is with
   | i::is=>match chk with
    | false=>eT (app acc [i]) l is k
    | true=>(bB i).bind fun i=>eT (app acc [i]) l is k
   | []=>none
  | .const v=>eT (app acc [og v]) l is k
  | .func f=>eT (app acc [.clo f []]) l is k
  | .global _=>none
 | .bor t r::l,is,k=>match HA t r with
  | true=>match is with
   | i::is=>eT (app acc [i]) l is k
   | _=>none
  | false=>match is with
   | p::i::is=>(ae p i).bind fun i=>eT (app acc [i]) l is k
   | _=>none
 | .io t r::l,is,k=>match HA t r with
  | true=>match is with
   | i::is=>(ae i i).bind fun i=>eT (app acc [i]) l is k
   | _=>none
  | false=>match is with
   | p::i::is=>(AJ p i).bind fun i=>(ae i i).bind fun i=>eT (app acc [i]) l is k
   | _=>none
@[reducible] def zE (K:List Kd) (d:Nat):List Kd→Bool
 | [.dat lv]=>match ak K d with
  | .dat l=>HG lv l
  | _=>false
 | [.own z lv false]=>eX K d z lv
 | []=>true
 | ms=>match ak K d with
  | .tup ns=>eo ms ns
  | _=>false
@[reducible] def lX:List Kd→Bool
 | []=>true
 | .dat lv::l=>match HG lv 1 with
  | true=>lX l
  | false=>false
 | .own _ lv _::l=>match HG lv 1 with
  | true=>lX l
  | false=>false
 | _=>false
@[reducible] def gi:List Kd→Bool
 | []=>true
 | .dat lv::l=>match HA lv 1,HG lv 2 with
  | false,true=>gi l
  | _,_=>false
 | .own _ lv true::l=>match HA lv 1,HG lv 2 with
  | false,true=>gi l
  | _,_=>false
 | .box _ lv true::l=>match HA lv 1,HG lv 2 with
  | false,true=>gi l
  | _,_=>false
 | _=>false
@[reducible] def io0:List Kd→Bool
 | []=>true
 | .own _ lv _::l=>match HA lv 0 with
  | true=>io0 l
  | false=>false
 | .box _ lv _::l=>match HA lv 0 with
  | true=>io0 l
  | false=>false
 | _::l=>io0 l
@[reducible] def nS (c:Cx) (dst:Option Nat) (S:FS) (xs:List Operand):Option Ac :=
 match fV c.K xs S.pm with
 | none=>none
 | some ags =>
  let ios:=cQ ags
  let bor:=dZ ags
  let okB:=match bor with
   | []=>true
   | _=>match lX S.rm,io0 S.pm with
    | true,true=>tm bor ios
    | _,_=>false
  match okB,gF ios,gi S.pm with
  | true,true,true=>match dst with
   | none=>match S.rm with
    | []=>some (.many (du ags) [] ios fun is k=>eT [] ags is fun ds=>aO (S.f ds) fun _ us=>k (outs us ios))
    | _=>none
   | some d=>match zE c.K d S.rm,jS d ios,S.rm with
    | true,false,[]=>some (.many (du ags) [d] ios fun is k=>eT [] ags is fun ds=>aO (S.f ds) fun _ us=>k (.bad::outs us ios))
    | true,false,[_]=>some (.many (du ags) [d] ios fun is k=>eT [] ags is fun ds=>aO (S.f ds) fun rs us=>k (nth rs 0::outs us ios))
    | true,false,_=>some (.many (du ags) [d] ios fun is k=>eT [] ags is fun ds=>aO (S.f ds) fun rs us=>k (.tup rs::outs us ios))
    | _,_,_=>none
  | _,_,_=>none
where
 @[reducible] outs (us:List D) (ios:List Nat):List D:=go us 0 ios
 @[reducible] go (us:List D):Nat→List Nat→List D
  | _,[]=>[]
  | j,_::l=>nth us j::go us (HY j) l
@[reducible] def tr {α:Type}:Nat→List α→List α
 | 0,_=>[]
 | _+1,[]=>[]
 | n+1,a::l=>a::tr n l
@[reducible] def iD:List Kd→Bool
 | []=>true
 | .dat lv::l=>match HA lv 2 with
  | true=>iD l
  | false=>false
 | _=>false
@[reducible] def yI (c:Cx) (dst:Option Nat) (t f:Nat) (S:FS) (xs:List Operand):Option Ac :=
 match dst,ak c.K t,S.rm with
 | some d,.dat lt,[.dat lr]=>match fV c.K xs (tr (jJ xs) S.pm),ak c.K d with
  | some ags,.dat l=>match HG lr l,HG lt 2,gi (tr (jJ xs) S.pm),iD (lh (jJ xs) S.pm),cQ ags,dZ ags with
   | true,true,true,true,[],[]=>some (.many (t::du ags) [d] [] fun is k=>match is with
    | cl::is=>(Ga f (jJ (lh (jJ xs) S.pm)) cl).bind fun caps=>eT [] ags is fun ds=>aO (S.f (ds++caps)) fun rs _=>k [nth rs 0]
    | []=>none)
   | _,_,_,_,_,_=>none
  | _,_=>none
 | _,_,_=>none
@[reducible] def oT (c:Cx) (t:TI):List (Nat × Operand)→Option (List (Nat × Nat))
 | []=>some []
 | (i,_)::ps=>match po c t i,oT c t ps with
  | some (off,ti),some l=>some ((off,ti.n)::l)
  | _,_=>none
@[reducible] def rQ (z:Nat):List (Nat × Operand)→List (Nat × Nat)
 | []=>[]
 | (i,_)::ps=>(i*z,z)::rQ z ps
@[reducible] def sy (f:D→D→Option D):D→List D→Option D
 | x,[]=>some x
 | x,y::ys=>(f x y).bind fun z=>sy f z ys
@[reducible] def tp (f:D→D→Option D):List D→Option D
 | x::y::xs=>sy f x (y::xs)
 | _=>none
@[reducible] def FX (c:Cx) (i:TI):Bool :=
 match iG i with
 | true=>match dl c.T i.elem with
  | some e=>match e.ik with
   | some .u8=>true
   | _=>false
  | none=>false
 | false=>false
@[reducible] def Fz (c:Cx) (dst:Option Nat) (si di:TI) (x:Operand):Option Ac :=
 match di.str,si.str,si.ez with
 | true,false,1=>match dst,iZ c.K x with
  | some d,some (rd,_,_)=>match ak c.K d,FX c si with
   | .dat _,true=>some (.one rd d fun is=>match rd with
    | []=>none
    | [_]=>xu (nth is 0)
    | _=>(ae (nth is 0) (nth is 1)).bind xu)
   | _,_=>none
  | _,_=>none
 | _,_,_=>bG c dst [x] 0 (ex (wD di.ik (match di.str with
  | true=>si.str
  | false=>false)))
@[reducible] def Fc (c:Cx) (dst:Option Nat) (t:TI) (x i:Operand):Option Ac :=
 match t.str with
 | true=>bG c dst [x,i] 0 (rM pf)
 | false=>match t.alen with
  | 0=>none
  | n=>dK c t.elem fun e=>bG c dst [x,i] (cW c.K x) (rM (ixA e.agg n t.ez))
@[reducible] def Cc (c:Cx) (dst:Option Nat) (q:Call):Option Ac :=
 match q.callee,q.args.toList,q.argTypes.toList with
 | .builtin .len,[x],[t]=>dK c t fun i=>match iG i,i.str with
  | true,false=>Cn c dst false x
  | false,true=>Cn c dst true x
  | _,_=>none
 | .builtin .append,[s,x],[t,u]=>match HA t u with
  | true=>dK c t fun i=>dK c i.elem fun _=>match iG i with
   | true=>Ez c dst i s x
   | false=>none
  | false=>none
 | .builtin .min,xs,_=>bG c dst xs 0 (tp BX)
 | .builtin .max,xs,_=>bG c dst xs 0 (tp CC)
 | .value (.func f),xs,_=>match dl c.S f with
  | some S=>nS c dst S xs
  | none=>none
 | .value (.tmp t),xs,_=>match dl c.C t with
  | some f=>match dl c.S f with
   | some S=>yI c dst t f S xs
   | none=>none
  | none=>none
 | _,_,_=>none
@[reducible] def Fx (c:Cx) (dst:Option Nat) (i:TI) (parts:List (Nat × Operand)):Option Ac :=
 let xs:=jN (fun p=>p.2) parts
 match i.alen,i.agg with
 | 0,true=>match oT c i parts with
  | some ps=>bG c dst xs (iy c.K xs) (zU ps i.zero)
  | none=>none
 | 0,false=>none
 | _,_=>bG c dst xs (iy c.K xs) (zU (rQ i.ez parts) i.zero)
@[reducible] def Fr (c:Cx) (dst:Option Nat) (x:Operand):Option Ac :=
 match x with
 | .tmp t=>match ak c.K t with
  | .box _ _ _=>match dst with
   | none=>none
   | some d=>match ak c.K d with
    | .ref r=>match HA r t with
     | true=>some (.one [t] d fun is=>(ex fun x=>ae x (.ref 0 0)) is)
     | false=>none
    | _=>none
  | .ref r=>match dst with
   | none=>none
   | some d=>match ak c.K d with
    | .ref r'=>match HA r r' with
     | true=>some (.one [t] d fun is=>(ex fun x=>ae x x) is)
     | false=>none
    | _=>none
  | _=>bG c dst [x] (cW c.K x) (ex DU)
 | x=>bG c dst [x] (cW c.K x) (ex DU)
@[reducible] def Dg:Operand→Bool
 | .const .nilIface=>true
 | _=>false
@[reducible] def EO:Operand→Bool
 | .const (.slice none 0 0)=>true
 | _=>false
@[reducible] def cb (c:Cx) (o:Oper):Option Ac :=
 match o.op with
 | .move x=>yi c o.dst x o.type
 | .assign x=>yi c o.dst x o.type
 | .pick q a b=>bG c o.dst [q,a,b] (Df (cW c.K a) (cW c.K b)) (Ff bg)
 | .alloc t=>dK c t fun i=>Fj c o.dst i
 | .box t x=>dK c t fun i=>FN c o.dst i x
 | .build t parts=>dK c t fun i=>Fx c o.dst i parts.toList
 | .buildSlice t n parts=>dK c t fun i=>dK c i.elem fun _=>match iG i with
  | true=>Fg c o.dst i n parts.toList
  | false=>none
 | .load t p=>dK c t fun i=>Fk c o.dst i p
 | .store t p x=>match o.dst with
  | none=>dK c t fun i=>DF c i p x
  | some _=>none
 | .nilCheck x=>Fr c o.dst x
 | .binOp op t x y _=>dK c t fun i=>match i.ifc with
  | true=>bG c o.dst [x,y] 0 (rM (Gy (Dg y) op))
  | false=>match iG i,EO y with
   | true,true=>bG c o.dst [x,y] 0 (rM fun x _=>Gz op x)
   | _,_=>bG c o.dst [x,y] 0 (rM (bin op i.bl i.eq))
 | .unOp op _ x=>bG c o.dst [x] 0 (ex (un op))
 | .convert src dt x=>dK c src fun si=>dK c dt fun di=>Fz c o.dst si di x
 | .makeFunc (.func f) first cap=>match first.toList,cap.toList with
  | [],[]=>bG c o.dst [] 0 (fun _=>some (.clo f []))
  | [],x::xs=>bG c o.dst (x::xs) (iy c.K (x::xs)) (Hc f)
  | _,_=>none
 | .makeSlice t n m=>dK c t fun i=>dK c i.elem fun e=>match iG i with
  | true=>Fy c o.dst i e n m
  | false=>none
 | .slice t x lo hi none=>dK c t fun i=>match iG i,i.str with
  | true,false=>zK c o.dst i x lo hi
  | false,true=>zK c o.dst i x lo hi
  | _,_=>none
 | .fieldAddr t x f=>dK c t fun i=>Fw c o.dst i f x
 | .field t x f=>dK c t fun i=>match po c i f with
  | some (off,ti)=>bG c o.dst [x] (cW c.K x) (ex (kK ti.agg ti.n off))
  | none=>none
 | .indexAddr t x i=>dK c t fun ti=>FR c o.dst ti x i
 | .index t x i=>dK c t fun ti=>Fc c o.dst ti x i
 | .extract x i=>FU c o.dst x i
 | .call q=>Cc c o.dst q
 | _=>none
@[reducible] def Gg:Ac→List Nat
 | .one rd _ _=>rd
 | .many rd _ _ _=>rd
@[reducible] def tS (ops:List Oper) (j:Nat):Option Nat :=
 match zq ops j with
 | some o=>o.dst
 | none=>none
@[reducible] def pF:Kd→D
 | .dat _=>.tup []
 | _=>.bad
@[reducible] def zF (K:List Kd) (δ:List D) (dst:Option Nat):List Nat→(List D→Option Out)→Option Out
 | [],k=>k []
 | s::ss,k=>match dst with
  | some d=>match jS s (d::dH d K 0) with
   | true=>zF K δ dst ss fun l=>k (pF (ak K s)::l)
   | false=>ep δ s fun a=>zF K δ dst ss fun l=>k (a::l)
  | none=>ep δ s fun a=>zF K δ dst ss fun l=>k (a::l)
@[reducible] def fit (l:List D):Nat→List Nat→List D
 | _,[]=>[]
 | j,_::ss=>nth l j::fit l (HY j) ss
@[reducible] def cz (c:Cx) (ops:List Oper) (o:Oper) (δ:List D) (k:List D→Option Out):Option Out :=
 match cb c o with
 | none=>none
 | some A=>match o.guard with
  | none=>match A with
   | .one rd d h=>oB δ rd fun is=>(h is).bind fun z=>cZ δ (d::dH d c.K 0) [z] k
   | .many rd hw cw fn=>oB δ rd fun is=>fn is fun outs=>cZ δ (app hw (app cw (bp c.K hw))) outs k
  | some (j,pol)=>match tS ops j with
   | none=>none
   | some g=>ep δ g fun gv=>match A with
    | .one rd d h=>oB δ rd fun is=>(al (pF (ak c.K d)) gv pol (h is)).bind fun z=>cZ δ (d::dH d c.K 0) [z] k
    | .many rd hw cw fn=>oB δ rd fun is=>zF c.K δ o.dst (app hw cw) fun alt =>
     eW gv pol (fn is fun outs=>some (.nrm (fit outs 0 (app hw cw)))) alt fun outs =>
      cZ δ (app hw (app cw (bp c.K hw))) (fit outs 0 (app hw cw)) k
@[reducible] def im (c:Cx) (ops:List Oper):List Oper→List D→(List D→Option Out)→Option Out
 | [],δ,k=>k δ
 | o::os,δ,k=>cz c ops o δ fun δ'=>im c ops os δ' k
@[reducible] def uc:Nat→List D
 | 0=>[]
 | n+1=>.bad::uc n
@[reducible] def pt:Nat→List D→List D
 | 0,_=>[]
 | n+1,[]=>.bad::pt n []
 | n+1,a::l=>a::pt n l
@[reducible] def mC (n:Nat) (hl:List Nat) (s:List D) (k:List D→Option Out):Option Out :=
 cZ (uc n) hl (fit s 0 hl) k
def iter (body:List D→Option Out):Nat→List D→Option Out
 | 0,_=>none
 | n+1,s=>match body s with
  | some (.nrm s')=>iter body n s'
  | r=>r
open Classical in
def bh (body:List D→Option Out) (s:List D):Option Out :=
 if h:∃n,(iter body n s).isSome=true then iter body (Classical.choose h) s else none
@[reducible] def fw (hl xl:List Nat) (o:Out):Option Out :=
 match o with
 | .nrm δ=>oB δ hl fun l=>some (.nrm l)
 | .ext i δ=>oB δ xl fun l=>some (.ext i l)
 | .ret a b=>some (.ret a b)
@[reducible] def ky (c:Cx) (δ:List D):List ResultVar→(List D→Option Out)→Option Out
 | [],k=>k []
 | .tmp t::l,k=>ep δ t fun a=>ky c δ l fun as'=>k (a::as')
 | .cell a t::l,k=>match dl c.T t with
  | some i=>ep δ a fun b=>(kK i.agg i.n 0 b).bind fun y=>ky c δ l fun as'=>k (y::as')
  | none=>none
@[reducible] def usK:List D→Option Out→Option Out
 | [],o=>o
 | u::us,o=>(ae u u).bind fun _=>usK us o
@[reducible] def opC (δ:List D) (x:Operand) (k:D→Option Out):Option Out :=
 match x with
 | .tmp t=>ep δ t k
 | .const c=>k (og c)
 | .func f=>k (.clo f [])
 | .global _=>none
@[reducible] def Hs (o:Out) (f:List D→Option Out) (k:Out→Option Out):Option Out :=
 match o with
 | .nrm δ=>f δ
 | .ext i δ=>k (.ext i δ)
 | .ret a b=>k (.ret a b)
@[reducible] def Ft (id:Nat) (o:Out) (k:Out→Option Out):Option Out :=
 match o with
 | .nrm δ=>k (.nrm δ)
 | .ext i δ=>match HA i id with
  | true=>k (.nrm δ)
  | false=>k (.ext i δ)
 | .ret a b=>k (.ret a b)
def de (o:Out) (x:Nat→List D→Option Out) (r:List D→List D→Option Out):Option Out :=
 match o with
 | .nrm _=>none
 | .ext i s=>x i s
 | .ret a b=>r a b
@[reducible] def den (c:Cx):Nat→Code→List D→(Out→Option Out)→Option Out
 | _,.skip,δ,k=>k (.nrm δ)
 | _,.region _ ops _,δ,k=>im c ops.toList ops.toList δ fun δ'=>k (.nrm δ')
 | bid,.seq a b,δ,k=>den c bid a δ fun o=>Hs o (fun δ'=>den c bid b δ' k) k
 | bid,.cond x t e,δ,k=>opC δ x fun q=>ifD q (den c bid t δ k) (den c bid e δ k)
 | _,.block id b,δ,k=>den c id b δ fun o=>Ft id o k
 | bid,.loop b,δ,k=>match dl c.H bid with
  | none=>none
  | some (hl,xl) =>
   oB δ hl fun s=>(bh (fun s=>mC (jJ c.K) hl s fun δ=>den c bid b δ (fw hl xl)) s).bind fun o =>
    de o (fun i s=>mC (jJ c.K) xl s fun δ=>k (.ext i δ)) (fun a b=>k (.ret a b))
 | _,.exit id,δ,k=>k (.ext id δ)
 | _,.ret,δ,k=>ky c δ c.res fun rs=>oB δ c.ios fun us=>usK us (k (.ret rs us))
 | _,_,_,_=>none
@[reducible] def bQ (c:Cx) (fn:Func) (ds:List D):Option Out :=
 match fn.body with
 | none=>none
 | some b=>den c 0 b (pt fn.ntmps ds) fun o=>match o with
  | .nrm δ=>ky c δ c.res fun rs=>oB δ c.ios fun us=>usK us (some (.ret rs us))
  | .ext _ _=>none
  | .ret rs us=>some (.ret rs us)
open Go.RowKit
def cr (w:World) (b o:Nat) (us:List Value):Prop:=∀i u,us[i]?=some u→w.cell? ⟨b,o+i,none⟩=some u
mutual
def RepC (w:World) (F:Nat→Prop):D→List Value→Prop
 | .v x,vs=>vs=[x]∧flat x=true
 | .agg l,vs=>bw w F l vs∧l.all D.single=true
 | .arr z l,vs=>∃A c us,vs=[.slice A l.length c]∧l.length≤c∧bw w F l us∧(∀d∈l,d.width=z) ∧
   (l≠[]→∃b o,A=some ⟨b,o,none⟩∧F b∧cr w b o us)
 | .ptr l,vs=>∃b o us,vs=[.pointer (some ⟨b,o,none⟩)]∧bw w F l us∧l.all D.single=true∧F b∧cr w b o us
 | .clo f l,vs=>∃us:List Value,vs=[.func (.func f) #[] us.toArray]∧bw w F l us
 | .ifc,vs=>∃t x,vs=[.iface t x]
 | .raw x,vs=>vs=[x]∧∃A n c,x = .slice A n c
 | .tup _,_=>False
 | .ref _ _,_=>False
 | .bad,_=>False
def bw (w:World) (F:Nat→Prop):List D→List Value→Prop
 | [],vs=>vs=[]
 | d::ds,vs=>∃v1 v2,vs=v1++v2∧RepC w F d v1∧bw w F ds v2
end
def aQ (w:World) (F:Nat→Prop) (d:D) (y:Value):Prop :=
 match d with
 | .agg l=>∃vs:List Value,y = .agg vs.toArray∧RepC w F (.agg l) vs
 | .tup l=>l=[]∧y = .tuple #[]
 | d=>RepC w F d [y]
theorem all_append {α:Type} (p:α→Bool) (a b:List α):(a++b).all p=(a.all p&&b.all p):=by simp
mutual
theorem RepC_mono {w w':World} {F F':Nat→Prop} (hF:∀b,F b→F' b) (hw:∀b,F b→w'.heap[b]?=w.heap[b]?) :
  ∀(d:D) (vs:List Value),RepC w F d vs→RepC w' F' d vs
 | .v _,_,h=>by simpa only [RepC] using h
 | .agg l,vs,h=>by
  simp only [RepC] at h ⊢;exact⟨aX hF hw l vs h.1,h.2⟩
 | .arr z l,vs,h=>by
  simp only [RepC] at h ⊢;obtain⟨A,c,us,h1,h2,h3,h4,h5⟩:=h;refine⟨A,c,us,h1,h2,aX hF hw l us h3,h4,fun hl=>?_⟩
  obtain⟨b,o,e,hb,hc⟩:=h5 hl;exact⟨b,o,e,hF b hb,fun i u hu=>(Iw (w:=w) (hw b hb)).trans (hc i u hu)⟩
 | .ptr l,vs,h=>by
  simp only [RepC] at h ⊢;obtain⟨b,o,us,h1,h2,h3,h4,h5⟩:=h;exact⟨b,o,us,h1,aX hF hw l us h2,h3,hF b h4,fun i u hu=>(Iw (w:=w) (hw b h4)).trans (h5 i u hu)⟩
 | .clo f l,vs,h=>by
  simp only [RepC] at h ⊢;obtain⟨us,h1,h2⟩:=h;exact⟨us,h1,aX hF hw l us h2⟩
 | .ifc,_,h=>by simpa only [RepC] using h
 | .raw _,_,h=>by simpa only [RepC] using h
 | .tup _,_,h=>by simp only [RepC] at h
 | .ref _ _,_,h=>by simp only [RepC] at h
 | .bad,_,h=>by simp only [RepC] at h
theorem aX {w w':World} {F F':Nat→Prop} (hF:∀b,F b→F' b) (hw:∀b,F b→w'.heap[b]?=w.heap[b]?) :
  ∀(l:List D) (vs:List Value),bw w F l vs→bw w' F' l vs
 | [],vs,h=>by simpa only [bw] using h
 | d::ds,vs,h=>by
  simp only [bw] at h ⊢;obtain⟨v1,v2,h1,h2,h3⟩:=h;exact⟨v1,v2,h1,RepC_mono hF hw d v1 h2,aX hF hw ds v2 h3⟩
end
theorem aI {w w':World} {F F':Nat→Prop} (hF:∀b,F b→F' b) (hw:∀b,F b→w'.heap[b]?=w.heap[b]?) {d:D} {y:Value} (h:aQ w F d y):aQ w' F' d y:=by
 cases d<;>simp only [aQ] at h ⊢<;>first
  | exact h
  | exact RepC_mono hF hw _ _ h
  | (obtain⟨vs,h1,h2⟩:=h;exact⟨vs,h1,RepC_mono hF hw _ _ h2⟩)
theorem hZ {w:World} {F:Nat→Prop}:∀(d:D) (vs:List Value),d.single=true→RepC w F d vs→∃y,vs=[y]∧y.cells=#[y]∧y.oneCell'=true:=by
 intro d vs hs h;cases d<;>simp only [RepC] at h<;>simp only [D.single] at hs
 case v x =>
  obtain⟨rfl,hf⟩:=h;cases x<;>simp_all [flat,Iq,Value.oneCell']
 case arr z l=>obtain⟨A,c,us,rfl,_⟩:=h;exact⟨_,rfl,rfl,rfl⟩
 case ptr l=>obtain⟨b,o,us,rfl,_⟩:=h;exact⟨_,rfl,rfl,rfl⟩
 case clo f l=>obtain⟨us,rfl,_⟩:=h;exact⟨_,rfl,rfl,rfl⟩
 case ifc=>obtain⟨t,x,rfl⟩:=h;exact⟨_,rfl,rfl,rfl⟩
 case raw x=>obtain⟨rfl,A,n,c,rfl⟩:=h;exact⟨_,rfl,rfl,rfl⟩
 all_goals exact absurd hs (by simp)
theorem cX {d:D} (h:d.single=true):d.width=1∧d.cells=[d]:=by cases d<;>simp_all [D.single,D.width,D.cells]
theorem aC {w:World} {F:Nat→Prop} {d:D} {ds:List D} {vs:List Value}:bw w F (d::ds) vs↔∃v1 v2,vs=v1++v2∧RepC w F d v1∧bw w F ds v2:=by rw [bw]
theorem aP {w:World} {F:Nat→Prop} {vs:List Value}:bw w F [] vs↔vs=[]:=by rw [bw]
theorem cC {w:World} {F:Nat→Prop}:∀(l m:List D) (vs:List Value),bw w F (l++m) vs↔∃v1 v2,vs=v1++v2∧bw w F l v1∧bw w F m v2
 | [],m,vs=>by
  rw [In];exact⟨fun h=>⟨[],vs,rfl,aP.2 rfl,h⟩,fun⟨v1,v2,e,h1,h2⟩=>by rw [aP.1 h1] at e;rw [e];exact h2⟩
 | d::l,m,vs=>by
  rw [IE,aC];constructor
  ·rintro⟨v1,v2,rfl,h1,h2⟩
   obtain⟨u1,u2,rfl,h3,h4⟩:=(cC l m v2).1 h2;exact⟨v1++u1,u2,by simp,aC.2 ⟨v1,u1,rfl,h1,h3⟩,h4⟩
  ·rintro⟨v1,v2,rfl,h1,h2⟩
   obtain⟨u1,u2,rfl,h3,h4⟩:=aC.1 h1;exact⟨u1,u2++v2,by simp,h3,(cC l m _).2 ⟨u2,v2,rfl,h4,h2⟩⟩
theorem bX {w:World} {F:Nat→Prop}:∀(l:List D) (vs:List Value),l.all D.single=true→bw w F l vs→vs.length=l.length∧(∀u∈vs,u.oneCell'=true∧u.cells=#[u])∧∀(i:Nat) (d:D),l[i]?=some d→∃u,vs[i]?=some u∧RepC w F d [u]
 | [],vs,_,h=>by rw [aP] at h;subst h;simp
 | d::l,vs,hs,h=>by
  obtain⟨v1,v2,rfl,h1,h2⟩:=aC.1 h;simp only [Ic,HC] at hs;obtain⟨y,rfl,hy,hy'⟩:=hZ d v1 hs.1 h1;obtain⟨g1,g2,g3⟩:=bX l v2 hs.2 h2;refine⟨by simp [g1],?_,?_⟩
  ·intro u hu
   rcases Io.1 hu with hu | hu
   ·simp at hu;subst hu;exact⟨hy',hy⟩
   ·exact g2 u hu
  ·intro i e he
   cases i with
   | zero=>simp at he;subst he;exact⟨y,rfl,h1⟩
   | succ i=>simpa using g3 i e (by simpa using he)
theorem iQ {w:World} {F:Nat→Prop} {d:D} {vs:List Value} (h:RepC w F d vs):(∃l,d = .agg l)∨d.single=true:=by
 cases d
 case agg l=>exact .inl ⟨l,rfl⟩
 case tup l=>simp only [RepC] at h
 case ref i f=>simp only [RepC] at h
 case bad=>simp only [RepC] at h
 all_goals exact .inr rfl
theorem kJ {w:World} {F:Nat→Prop} {d:D} {vs:List Value} (h:RepC w F d vs):vs.length=d.width:=by
 rcases iQ h with ⟨l,rfl⟩ | hs
 ·simp only [RepC] at h
  simpa [D.width,D.cells] using (bX l vs h.2 h.1).1
 ·obtain⟨y,rfl,_⟩:=hZ _ _ hs h
  rw [(cX hs).1];rfl
theorem cD {w:World} {F:Nat→Prop} {z:Nat}:∀(l:List D) (vs:List Value),bw w F l vs→(∀d∈l,d.width=z)→vs.length=l.length*z
 | [],vs,h,_=>by rw [aP] at h;subst h;simp
 | d::l,vs,h,hw=>by
  obtain⟨v1,v2,rfl,h1,h2⟩:=aC.1 h;rw [List.length_append,kJ h1,cD l v2 h2 (fun d hd=>hw d (by simp [hd])),hw d (by simp)];simp [Nat.succ_mul,Nat.add_comm]
theorem pK {w:World} {F:Nat→Prop} {z:Nat} (l:List D) (vs:List Value) (h:bw w F l vs) (hw:∀d∈l,d.width=z) (i:Nat) (d:D) (hd:l[i]?=some d) :
  ∃p m q,vs=p++m++q∧p.length=i*z∧m.length=z∧RepC w F d m∧bw w F (l.take i) p∧bw w F (l.drop (i+1)) q:=by
 have hi:i<l.length:=(HM.1 hd).1;have e:l=l.take i++(d::l.drop (i+1)):=by
  have h1:l[i]=d:=(HM.1 hd).2
  conv=>lhs;rw [←Iv i l,List.drop_eq_getElem_cons hi,h1]
 rw [e] at h;obtain⟨p,r,rfl,hp,hr⟩:=(cC _ _ _).1 h;obtain⟨m,q,rfl,hm,hq⟩:=aC.1 hr;refine⟨p,m,q,by simp,?_,?_,hm,hp,hq⟩
 ·rw [cD _ _ hp (fun d hd=>hw d (HO hd)),HT]
  rw [IG (by omega)]
 ·rw [kJ hm];exact hw d (List.mem_of_getElem? hd)
theorem gD {w:World} {F:Nat→Prop} {z:Nat} (l:List D) (vs:List Value) (h:bw w F l vs) (hw:∀d∈l,d.width=z) (i:Nat):bw w F (l.take i) (vs.take (i*z))∧bw w F (l.drop i) (vs.drop (i*z)):=by
 by_cases hi:i≤l.length
 ·rw [←Iv i l] at h
  obtain⟨p,q,rfl,hp,hq⟩:=(cC _ _ _).1 h;have hl:p.length=i*z:=by
   rw [cD _ _ hp (fun d hd=>hw d (HO hd)),HT,IG hi]
  exact⟨by rw [←hl];simpa using hp,by rw [←hl];simpa using hq⟩
 ·have hl:=cD l vs h hw
  have h2:vs.length≤i*z:=by rw [hl];exact Nat.mul_le_mul_right _ (by omega)
  rw [List.take_of_length_le h2,Ia h2,List.take_of_length_le (by omega),Ia (by omega)];exact⟨h,aP.2 rfl⟩
theorem hJ {w:World} {F:Nat→Prop} (l:List D) (vs:List Value) (hs:l.all D.single=true) (h:bw w F l vs) (i:Nat):bw w F (l.take i) (vs.take i)∧bw w F (l.drop i) (vs.drop i):=by
 have:=gD (z:=1) l vs h (fun d hd=>(cX (HU.1 hs d hd)).1) i;simpa using this
theorem zt {α:Type} {p:α→Bool} {l:List α} (h:l.all p=true) (i:Nat):(l.take i).all p=true:=HU.2 fun x hx=>HU.1 h x (HO hx)
theorem jW {α:Type} {p:α→Bool} {l:List α} (h:l.all p=true) (i:Nat):(l.drop i).all p=true:=HU.2 fun x hx=>HU.1 h x (Ie hx)
theorem cr.take {w:World} {b o:Nat} {us:List Value} (h:cr w b o us) (n:Nat):cr w b o (us.take n):=fun i u hu=>h i u (by
 rw [List.getElem?_take] at hu;split at hu
 ·exact hu
 ·cases hu)
theorem cr.drop {w:World} {b o:Nat} {us:List Value} (h:cr w b o us) (n:Nat):cr w b (o+n) (us.drop n):=fun i u hu=>by
 rw [IA] at hu;rw [Iy];exact h _ u hu
theorem cr.part {w:World} {b o:Nat} {p m q:List Value} (h:cr w b o (p++m++q)):cr w b (o+p.length) m:=fun i u hu=>by
 rw [Iy];refine h _ u ?_
 have hi:i<m.length:=by
  rcases IB i m.length with hi | hi
  ·exact hi
  ·rw [List.getElem?_eq_none hi] at hu;cases hu
 rw [List.append_assoc,List.getElem?_append_right (by omega),Nat.add_sub_cancel_left,List.getElem?_append_left hi];exact hu
theorem fQ {w:World} {F:Nat→Prop} {d:D} {y:Value} (hs:d.single=true):aQ w F d y↔RepC w F d [y]:=by
 cases d<;>simp_all [D.single,aQ]
theorem Ce {w:World} {F:Nat→Prop} {d:D} {y:Value} (h:aQ w F d y) (hn:∀l,d ≠ .tup l):(∃l,d = .agg l)∨d.single=true:=by
 cases d
 case agg l=>exact .inl ⟨l,rfl⟩
 case tup l=>exact absurd rfl (hn l)
 all_goals exact(iQ (vs:=[y]) h).elim (fun⟨_,e⟩=>by cases e) .inr
theorem kx {d:D} (h:d.cells.all D.single=true) (l:List D):d ≠ .tup l:=by
 rintro rfl;simp [D.cells,D.single] at h
theorem dk {w:World} {F:Nat→Prop} {d:D} {y:Value} (h:aQ w F d y) (hn:∀l,d ≠ .tup l):RepC w F d y.cells.toList∧d.cells.all D.single=true∧bw w F d.cells y.cells.toList:=by
 rcases Ce h hn with ⟨l,rfl⟩ | hs
 ·obtain⟨vs,rfl,hr⟩:=h
  have hr':=hr;simp only [RepC] at hr';exact⟨by simpa [Iq] using hr,hr'.2,by simpa [Iq,D.cells] using hr'.1⟩
 ·rw [fQ hs] at h
  obtain⟨u,hu,hc,_⟩:=hZ _ _ hs h;simp at hu;subst hu;rw [(cX hs).2,hc];exact⟨h,by simp [hs],aC.2 ⟨_,[],by simp,h,aP.2 rfl⟩⟩
theorem dL {w:World} {F:Nat→Prop} {x y:Value}:aQ w F (.v x) y↔y=x∧flat x=true:=by simp [aQ,RepC]
theorem Dk {w:World} {F:Nat→Prop} {y:Value}:¬aQ w F .bad y:=by simp [aQ,RepC]
theorem Fq {w:World} {F:Nat→Prop} {d:D} {y:Value} (h:aQ w F d y):d ≠ .bad:=fun e=>Dk (e ▸ h)
theorem oG {w w':World} {F F':Nat→Prop}:∀(l:List D) (vs:List Value),(l.all fun | .v _=>true | _=>false)=true→bw w F l vs→bw w' F' l vs
 | [],vs,_,h=>by simpa only [bw] using h
 | d::l,vs,hv,h=>by
  obtain⟨v1,v2,rfl,h1,h2⟩:=aC.1 h;simp only [Ic,HC] at hv;refine aC.2 ⟨v1,v2,rfl,?_,oG l v2 hv.2 h2⟩
  cases d<;>simp at hv;simpa only [RepC] using h1
theorem kr {w w':World} {F F':Nat→Prop} {d:D} {y:Value} (hv:d.isV=true) (h:aQ w F d y):aQ w' F' d y:=by
 cases d
 case v x=>exact dL.2 (dL.1 h)
 case agg l =>
  obtain⟨vs,rfl,hr⟩:=h;refine⟨vs,rfl,?_⟩
  simp only [RepC] at hr ⊢;exact⟨oG l vs hv hr.1,hr.2⟩
 all_goals exact absurd hv (by simp [D.isV])
def en:List D→List Value→Bool
 | [],[]=>true
 | .v (.int k a)::l,.int k' b::m=>k==k'&&a==b&&en l m
 | .v (.bool a)::l,.bool b::m=>a==b&&en l m
 | .v (.string a)::l,.string b::m=>a.data.toList==b.data.toList&&en l m
 | .v .nilFunc::l,.nilFunc::m=>en l m
 | .v .nilIface::l,.nilIface::m=>en l m
 | .v (.pointer none)::l,.pointer none::m=>en l m
 | .arr _ []::l,.slice none 0 0::m=>en l m
 | _,_=>false
def uM (P:Program):List Field→List (Nat × Nat)→Bool
 | [],[]=>true
 | f::fs,(o,t)::l=>f.offset==o&&f.type==t&&(match P.info? t with
  | some x=>x.size != 0
  | none=>false)&&uM P fs l
 | _,_=>false
def Fs (P:Program) (t c:Nat):Bool :=
 match P.underlying t with
 | some (.int _)=>c==1
 | some .bool=>c==2
 | some .string=>c==3
 | _=>false
def Ah (P:Program):Nat→List Field→List Nat→Bool
 | _,[],[]=>true
 | n,f::fs,c::cs=>f.name != "_"&&f.offset==n&&Fs P f.type c&&Ah P (n+1) fs cs
 | _,_,_=>false
def pl:Value→Bool
 | .agg _=>true
 | _=>false
def Bj (P:Program) (t:Nat) (i:TI):Bool :=
 match P.info? t,P.underlying t with
 | some x,some u =>
  (!i.ifc||(match u with
   | .interface _=>true
   | _=>false))&&x.size==i.n&&(match x.zero with
   | some z=>en i.zero z.cells.toList&&pl z==i.agg&&i.zero.length==i.n
   | none=>false) &&
  (match u with
   | .struct fs=>i.agg&&i.alen==0&&i.ez==0&&i.ik==none && !i.str && !i.bl&&uM P fs.toList i.fs &&
     (i.eq==[]||(Ah P 0 fs.toList i.eq&&fs.size==i.n && !P.eqGuardType P.depth t && !P.stoodInHeld t))
   | .array n e=>i.agg&&i.alen==n&&n != 0&&i.elem==e&&i.fs==[]&&i.ik==none && !i.str && !i.bl&&i.eq==[]&&(match P.info? e with
    | some y=>y.size==i.ez&&y.size != 0
    | none=>false)&&i.n==n*i.ez
   | .slice e=>!i.agg&&i.alen==0&&i.elem==e&&i.fs==[]&&i.ik==none && !i.str && !i.bl&&i.eq==[]&&(match P.info? e with
    | some y=>y.size==i.ez&&y.size != 0&&y.bytes==i.eb&&y.bytes != 0
    | none=>false)
   | .int k=>!i.agg&&i.alen==0&&i.ez==0&&i.fs==[]&&i.ik==some k && !i.str && !i.bl&&i.eq==[]
   | .string=>!i.agg&&i.alen==0&&i.ez==0&&i.fs==[]&&i.ik==none&&i.str && !i.bl&&i.eq==[]
   | .bool=>!i.agg&&i.alen==0&&i.ez==0&&i.fs==[]&&i.ik==none && !i.str&&i.bl&&i.eq==[]
   | _=>!i.agg&&i.alen==0&&i.ez==0&&i.fs==[]&&i.ik==none && !i.str && !i.bl&&i.eq==[])
 | _,_=>false
def okT (P:Program):List (Nat × TI)→Bool
 | []=>true
 | (t,i)::l=>Bj P t i&&okT P l
theorem zm {α:Type}:∀(l:List (Nat × α)) (n:Nat) (a:α),dl l n=some a→(n,a)∈l
 | [],_,_,h=>by simp [dl] at h
 | (k,b)::l,n,a,h=>by
  simp only [dl] at h;split at h
  ·rename_i hb
   have:k=n:=HR hb;subst this;cases h;simp
  ·exact Ix _ (zm l n a h)
theorem Ei {P:Program} {T:List (Nat × TI)} (h:okT P T=true) {t:Nat} {i:TI} (hl:dl T t=some i):Bj P t i=true:=by
 have:=zm T t i hl;clear hl;induction T with
 | nil=>cases this
 | cons p T ih =>
  obtain⟨t',i'⟩:=p;simp only [okT,HC] at h;rcases HW.1 this with e | e
  ·cases e;exact h.1
  ·exact ih h.2 e
structure TOk (P:Program) (t:Nat) (i:TI):Prop where
 info:∃x z,P.info? t=some x∧x.size=i.n∧x.zero=some z∧en i.zero z.cells.toList=true∧pl z=i.agg
 zl:i.zero.length=i.n
 und:(P.underlying t).isSome=true
 agg:∀w:World,(isAgg t).run P w = .ok i.agg w
 sl:i.ez≠0→i.alen=0→P.underlying t=some (.slice i.elem)∧i.agg=false∧0<i.ez∧0<i.eb∧∃y,P.info? i.elem=some y∧y.size=i.ez∧y.bytes=i.eb
 ar:i.alen≠0→P.underlying t=some (.array i.alen i.elem)∧i.agg=true∧0<i.ez∧i.n=i.alen*i.ez∧∃y,P.info? i.elem=some y∧y.size=i.ez
 fs:∀(f:Nat) (o ty:Nat),i.fs[f]?=some (o,ty)→∃fs fl,P.underlying t=some (.struct fs)∧fs[f]?=some fl∧fl.offset=o∧fl.type=ty∧i.agg=true∧∃y,P.info? ty=some y∧y.size≠0
 st:i.agg=true→i.alen=0→∃fs,P.underlying t=some (.struct fs)∧uM P fs.toList i.fs=true
 eq:i.eq≠[]→∃fs,P.underlying t=some (.struct fs)∧Ah P 0 fs.toList i.eq=true∧fs.size=i.n∧P.eqGuardType P.depth t=false∧P.stoodInHeld t=false
 ik:∀k,i.ik=some k→P.underlying t=some (.int k)
 str:i.str=true→P.underlying t=some .string∧i.ez=0∧i.alen=0
 bl:i.bl=true→P.underlying t=some .bool
 ifc:i.ifc=true→∃ms,P.underlying t=some (.interface ms)
theorem yu {P:Program}:∀(fs:List Field) (l:List (Nat × Nat)),uM P fs l=true→∀(f o ty:Nat),l[f]?=some (o,ty)→∃fl,fs[f]?=some fl∧fl.offset=o∧fl.type=ty∧∃y,P.info? ty=some y∧y.size≠0
 | [],[],_,f,o,ty,h=>by simp at h
 | g::fs,(o',t')::l,hk,f,o,ty,h=>by
  simp only [uM,HC,beq_iff_eq] at hk;obtain⟨⟨⟨h1,h2⟩,h3⟩,h4⟩:=hk;cases f with
  | zero =>
   simp at h;obtain⟨rfl,rfl⟩:=h;refine⟨g,rfl,h1,h2,?_⟩
   split at h3
   ·rename_i x hx;exact⟨x,hx,by simpa using h3⟩
   ·cases h3
  | succ f=>exact yu fs l h4 f o ty (by simpa using h)
 | [],_::_,hk,_,_,_,_=>by simp [uM] at hk
 | _::_,[],hk,_,_,_,_=>by simp [uM] at hk
def Dt:TypeDesc→Bool
 | .struct _=>true
 | .array _ _=>true
 | _=>false
theorem sg {P:Program} {t:Nat} {i:TI} (h:Bj P t i=true):TOk P t i:=by
 unfold Bj at h;split at h
 case h_2=>cases h
 case h_1 x u hx hu =>
  simp only [HC] at h;obtain⟨⟨⟨hif,hn⟩,hz⟩,hk⟩:=h;have hifc:i.ifc=true→∃ms,P.underlying t=some (.interface ms):=by
   intro e;rw [e] at hif;simp only [Bool.not_true,Bool.false_or] at hif;split at hif
   ·rename_i ms;exact⟨ms,hu⟩
   ·cases hif
  clear hif;have hinfo:∃x z,P.info? t=some x∧x.size=i.n∧x.zero=some z∧en i.zero z.cells.toList=true∧pl z=i.agg:=by
   split at hz
   ·rename_i z hzz
    simp only [HC,beq_iff_eq] at hz;exact⟨x,z,hx,by simpa using hn,hzz,hz.1.1,hz.1.2⟩
   ·cases hz
  have hzl:i.zero.length=i.n:=by
   split at hz
   ·simp only [HC,beq_iff_eq] at hz
    exact hz.2
   ·cases hz
  have hund:(P.underlying t).isSome=true:=by rw [hu];rfl
  have hagg:∀(w:World) (b:Bool),Dt u=b→(isAgg t).run P w = .ok b w:=by
   intro w b hb;subst hb;simp only [isAgg,HD,run_underlying hu,HB];cases u<;>rfl
  have mk:∀(b:Bool),Dt u=false→i.agg=false→i.alen=0→i.ez=0→i.fs=[]→i.eq=[] →
    (∀k,i.ik=some k→P.underlying t=some (.int k))→(i.str=true→P.underlying t=some .string)→(i.bl=true→P.underlying t=some .bool)→TOk P t i:=by
   intro _ hb a1 a2 a3 a4 a5 a6 a7 a8;exact⟨hinfo,hzl,hund,fun w=>hagg w _ (hb.trans a1.symm),fun h=>absurd a3 h,fun h=>absurd a2 h,fun f o ty hf=>by(rw [a4] at hf;simp at hf),fun h=>by(rw [a1] at h;cases h),fun h=>absurd a5 h,a6,fun h=>⟨a7 h,a3,a2⟩,a8,hifc⟩
  have other:(!i.agg&&i.alen==0&&i.ez==0&&i.fs==[]&&i.ik==none && !i.str && !i.bl&&i.eq==[])=true →
    (i.agg=false→i.alen=0→i.ez=0→i.fs=[]→i.eq=[]→(∀k,i.ik=some k→P.underlying t=some (.int k))→(i.str=true→P.underlying t=some .string)→(i.bl=true→P.underlying t=some .bool)→TOk P t i)→TOk P t i:=by
   intro hk mk;simp only [HC,HK,beq_iff_eq] at hk;obtain⟨⟨⟨⟨⟨⟨⟨a1,a2⟩,a3⟩,a4⟩,a5⟩,a6⟩,a7⟩,a8⟩:=hk;exact mk a1 a2 a3 a4 a8 (fun k' hk=>by(rw [a5] at hk;cases hk)) (fun h=>by(rw [a6] at h;cases h)) (fun h=>by(rw [a7] at h;cases h))
  clear hz hn
  match u,hu,hk,hagg,mk with
  | .struct fs,hu,hk,hagg,_ =>
   simp only [HC,HK,beq_iff_eq] at hk;obtain⟨⟨⟨⟨⟨⟨⟨a1,a2⟩,a3⟩,a4⟩,a5⟩,a6⟩,a7⟩,a8⟩:=hk;refine⟨hinfo,hzl,hund,fun w=>hagg w _ a1.symm,fun h=>absurd a3 h,fun h=>absurd a2 h,fun f o ty hf=>?_,fun _ _=>⟨fs,hu,a7⟩,fun he=>?_,fun k hk=>by(rw [a4] at hk;cases hk),fun h=>by(rw [a5] at h;cases h),fun h=>by(rw [a6] at h;cases h),hifc⟩
   ·obtain⟨fl,h1,h2,h3,h4⟩:=yu _ _ a7 f o ty hf
    exact⟨fs,fl,hu,by simpa using h1,h2,h3,a1,h4⟩
   ·simp only [Bool.or_eq_true,beq_iff_eq,HC,HK] at a8
    rcases a8 with a8 | a8
    ·exact absurd a8 he
    ·exact⟨fs,hu,a8.1.1.1,a8.1.1.2,a8.1.2,a8.2⟩
  | .array n e,hu,hk,hagg,_ =>
   simp only [HC,HK,beq_iff_eq,bne_iff_ne,ne_eq] at hk;obtain⟨⟨⟨⟨⟨⟨⟨⟨⟨⟨a1,a2⟩,a3⟩,a4⟩,a5⟩,a6⟩,a7⟩,a8⟩,a9⟩,a10⟩,a11⟩:=hk;refine⟨hinfo,hzl,hund,fun w=>hagg w _ a1.symm,fun _ h=>absurd (a2 ▸ h) a3,fun _=>?_,fun f o ty hf=>by(rw [a5] at hf;simp at hf),fun _ h=>absurd (a2 ▸ h) a3,fun h=>absurd a9 h,fun k hk=>by(rw [a6] at hk;cases hk),fun h=>by(rw [a7] at h;cases h),fun h=>by(rw [a8] at h;cases h),hifc⟩
   split at a10
   ·rename_i y hy
    simp only [HC,beq_iff_eq,bne_iff_ne,ne_eq] at a10;refine⟨by rw [hu,a2,a4],a1,by omega,by rw [a2];exact a11,y,by rw [a4];exact hy,a10.1⟩
   ·cases a10
  | .slice e,hu,hk,hagg,_ =>
   simp only [HC,HK,beq_iff_eq] at hk;obtain⟨⟨⟨⟨⟨⟨⟨⟨a1,a2⟩,a3⟩,a4⟩,a5⟩,a6⟩,a7⟩,a8⟩,a9⟩:=hk;refine⟨hinfo,hzl,hund,fun w=>hagg w _ a1.symm,fun _ _=>?_,fun h=>absurd a2 h,fun f o ty hf=>by(rw [a4] at hf;simp at hf),fun h=>by(rw [a1] at h;cases h),fun h=>absurd a8 h,fun k hk=>by(rw [a5] at hk;cases hk),fun h=>by(rw [a6] at h;cases h),fun h=>by(rw [a7] at h;cases h),hifc⟩
   split at a9
   ·rename_i y hy
    simp only [HC,beq_iff_eq,bne_iff_ne,ne_eq] at a9;obtain⟨⟨⟨b1,b2⟩,b3⟩,b4⟩:=a9;exact⟨by rw [hu,a3],a1,by omega,by omega,y,by rw [a3];exact hy,b1,b3⟩
   ·cases a9
  | .int k,hu,hk,_,mk =>
   simp only [HC,HK,beq_iff_eq] at hk;obtain⟨⟨⟨⟨⟨⟨⟨a1,a2⟩,a3⟩,a4⟩,a5⟩,a6⟩,a7⟩,a8⟩:=hk;exact mk true rfl a1 a2 a3 a4 a8 (fun k' hk=>by rw [a5] at hk;cases hk;exact hu) (fun h=>by rw [a6] at h;cases h) (fun h=>by rw [a7] at h;cases h)
  | .string,hu,hk,_,mk =>
   simp only [HC,HK,beq_iff_eq] at hk;obtain⟨⟨⟨⟨⟨⟨⟨a1,a2⟩,a3⟩,a4⟩,a5⟩,a6⟩,a7⟩,a8⟩:=hk;exact mk true rfl a1 a2 a3 a4 a8 (fun k' hk=>by rw [a5] at hk;cases hk) (fun _=>hu) (fun h=>by rw [a7] at h;cases h)
  | .bool,hu,hk,_,mk =>
   simp only [HC,HK,beq_iff_eq] at hk;obtain⟨⟨⟨⟨⟨⟨⟨a1,a2⟩,a3⟩,a4⟩,a5⟩,a6⟩,a7⟩,a8⟩:=hk;exact mk true rfl a1 a2 a3 a4 a8 (fun k' hk=>by rw [a5] at hk;cases hk) (fun h=>by rw [a6] at h;cases h) (fun _=>hu)
  | .invalid,_,hk,_,mk=>exact other hk (mk true rfl)
  | .float _,_,hk,_,mk=>exact other hk (mk true rfl)
  | .complex _,_,hk,_,mk=>exact other hk (mk true rfl)
  | .unsafePointer,_,hk,_,mk=>exact other hk (mk true rfl)
  | .pointer _,_,hk,_,mk=>exact other hk (mk true rfl)
  | .map _ _,_,hk,_,mk=>exact other hk (mk true rfl)
  | .chan _ _,_,hk,_,mk=>exact other hk (mk true rfl)
  | .func _ _ _,_,hk,_,mk=>exact other hk (mk true rfl)
  | .interface _,_,hk,_,mk=>exact other hk (mk true rfl)
  | .tuple _,_,hk,_,mk=>exact other hk (mk true rfl)
  | .named _ _,_,hk,_,mk=>exact other hk (mk true rfl)
theorem TOk.size {P:Program} {t:Nat} {i:TI} (h:TOk P t i) (w:World):(sizeOf t).run P w = .ok i.n w:=by
 obtain⟨x,z,hx,hn,_⟩:=h.info;simp [sizeOf,typeInfo,hx,hn]
theorem cF {P:Program} {e:Nat} {y:TypeInfo} (h:P.info? e=some y) (w:World):(sizeOf e).run P w = .ok y.size w:=by simp [sizeOf,typeInfo,h]
theorem qn {w:World} {F:Nat→Prop} {x:Value} (h:flat x=true):RepC w F (.v x) [x]:=by simp only [RepC];exact⟨trivial,h⟩
theorem sL {w:World} {F:Nat→Prop} {z:Nat}:RepC w F (.arr z []) [.slice none 0 0]:=by
 simp only [RepC];exact⟨none,0,[],rfl,Ii _,aP.2 rfl,fun d hd=>(List.not_mem_nil hd).elim,fun h=>absurd rfl h⟩
theorem cS {w:World} {F:Nat→Prop}:∀(l:List D) (vs:List Value),en l vs=true→bw w F l vs∧l.all D.single=true
 | [],[],_=>⟨aP.2 rfl,rfl⟩
 | .v (.int k a)::l,.int k' b::m,h=>by
  simp only [en,HC,beq_iff_eq] at h;obtain⟨⟨rfl,rfl⟩,h⟩:=h;obtain⟨g1,g2⟩:=cS (w:=w) (F:=F) l m h;exact⟨aC.2 ⟨_,_,rfl,qn rfl,g1⟩,by simp [D.single,g2]⟩
 | .v (.bool a)::l,.bool b::m,h=>by
  simp only [en,HC,beq_iff_eq] at h;obtain⟨rfl,h⟩:=h;obtain⟨g1,g2⟩:=cS (w:=w) (F:=F) l m h;exact⟨aC.2 ⟨_,_,rfl,qn rfl,g1⟩,by simp [D.single,g2]⟩
 | .v (.string a)::l,.string b::m,h=>by
  simp only [en,HC,beq_iff_eq] at h;obtain⟨h1,h⟩:=h;have e:a=b:=by
   obtain⟨⟨a⟩⟩:=a;obtain⟨⟨b⟩⟩:=b;simpa using h1
  subst e;obtain⟨g1,g2⟩:=cS (w:=w) (F:=F) l m h;exact⟨aC.2 ⟨_,_,rfl,qn rfl,g1⟩,by simp [D.single,g2]⟩
 | .v .nilFunc::l,.nilFunc::m,h=>by
  obtain⟨g1,g2⟩:=cS (w:=w) (F:=F) l m (by simpa [en] using h);exact⟨aC.2 ⟨_,_,rfl,qn rfl,g1⟩,by simp [D.single,g2]⟩
 | .v .nilIface::l,.nilIface::m,h=>by
  obtain⟨g1,g2⟩:=cS (w:=w) (F:=F) l m (by simpa [en] using h);exact⟨aC.2 ⟨_,_,rfl,qn rfl,g1⟩,by simp [D.single,g2]⟩
 | .v (.pointer none)::l,.pointer none::m,h=>by
  obtain⟨g1,g2⟩:=cS (w:=w) (F:=F) l m (by simpa [en] using h);exact⟨aC.2 ⟨_,_,rfl,qn rfl,g1⟩,by simp [D.single,g2]⟩
 | .arr z []::l,.slice none 0 0::m,h=>by
  obtain⟨g1,g2⟩:=cS (w:=w) (F:=F) l m (by simpa [en] using h);exact⟨aC.2 ⟨_,_,rfl,sL,g1⟩,by simp [D.single,g2]⟩
theorem Co {e:TI} (h:e.zero.all D.single=true) {m:List D} (hm:qR e = .tup m):False:=by
 unfold qR at hm;cases hg:e.agg<;>rw [hg] at hm<;>simp only at hm
 ·cases hz:e.zero with
  | nil=>rw [hz] at hm;cases hm
  | cons d l =>
   rw [hz] at h hm;simp only at hm;subst hm;simp [D.single] at h
 ·cases hm
theorem TOk.zero {P:Program} {t:Nat} {i:TI} (h:TOk P t i):∃z,(∀w:World,(zeroValue t).run P w = .ok z w)∧(∀(w:World) (F:Nat→Prop),aQ w F (qR i) z∧bw w F i.zero z.cells.toList)∧i.zero.all D.single=true∧z.cells.size=i.zero.length:=by
 obtain⟨x,z,hx,hn,hz,h0,ha⟩:=h.info;obtain⟨_,hs⟩:=cS (w:=default) (F:=fun _=>True) _ _ h0;refine⟨z,fun w=>by simp [zeroValue,typeInfo,hx,hz],fun w F=>?_,hs,?_⟩
 ·obtain⟨g,_⟩:=cS (w:=w) (F:=F) _ _ h0
  refine⟨?_,g⟩
  unfold qR;cases hb:i.agg
  ·cases z<;>first
    | (simp only [pl] at ha;rw [hb] at ha;cases ha)
    | skip
   all_goals
    simp only [Iq] at g;generalize i.zero=l at g hs;cases l with
    | nil=>rw [aP] at g;cases g
    | cons d l =>
     obtain⟨v1,v2,e,h1,h2⟩:=aC.1 g;simp only [Ic,HC] at hs;obtain⟨y,rfl,_⟩:=hZ d v1 hs.1 h1;simp at e;rw [fQ hs.1,e.1];exact h1
  ·cases z<;>first
    | (simp only [pl] at ha;rw [hb] at ha;cases ha)
    | skip
   exact⟨_,rfl,by simp only [RepC];exact⟨g,hs⟩⟩
 ·obtain⟨g,_⟩:=cS (w:=default) (F:=fun _=>True) _ _ h0
  simpa using (bX _ _ hs g).1
def bU (w:World) (F:Nat→Prop) (d:D) (y:Value):Prop:=d = .bad∨aQ w F d y
section
variable {P:Program} {w:World} {F G:Nat→Prop}
theorem bU.rep {d:D} {y:Value} (h:bU w F d y) (hd:d ≠ .bad):aQ w F d y:=h.resolve_left hd
theorem aZ {x y:Value} (h:bU w F (.v x) y):y=x∧flat x=true:=dL.1 (h.rep (by simp))
theorem hY {x:Value} (hx:flat x=true):aQ w F (.v x) x:=dL.2 ⟨rfl,hx⟩
theorem qE:∀(fs:List Field) (n:Nat) (c:List Nat) (l m:List D) (us vs xs ys:List Value) (q:Bool),Ah P n fs c=true→oP c l m=some q→xs.length=n→ys.length=n→bw w F l us→bw w G m vs →
  (Ir 9999 (xs++us).toArray (ys++vs).toArray fs).run P w = .ok q w
 | [],n,[],l,m,us,vs,xs,ys,q,_,he,_,_,_,_=>by
  cases l<;>cases m<;>simp [oP] at he;subst he;simp [Ir]
 | f::fs,n,c::cs,l,m,us,vs,xs,ys,q,hk,he,hx,hy,hu,hv=>by
  simp only [Ah,HC,bne_iff_ne,ne_eq,beq_iff_eq] at hk;obtain⟨⟨⟨h1,h2⟩,h3⟩,h4⟩:=hk;have fin:∀(a b:Value) (l' m':List D) (us' vs':List Value) (r:Bool),us=a::us'→vs=b::vs'→bw w F l' us'→bw w G m' vs'→(oP cs l' m').map (r&&·)=some q →
    (isAgg f.type).run P w = .ok false w→(HQ 9999 f.type a b).run P w = .ok r w→(Ir 9999 (xs++us).toArray (ys++vs).toArray (f::fs)).run P w = .ok q w:=by
   intro a b l' m' us' vs' r e1 e2 g1 g2 g4 p0 p3;subst e1 e2;have p1:(part f.type (xs++a::us').toArray f.offset).run P w = .ok a w:=by simp [part,p0,h2,hx]
   have p2:(part f.type (ys++b::vs').toArray f.offset).run P w = .ok b w:=by simp [part,p0,h2,hy]
   obtain⟨q',g3,g5⟩:=HI.1 g4;simp only [Ir,h1,not_false_eq_true,if_true,ne_eq,HD,p1,p2,p3,HB,Sem.run_ite];cases r
   ·simp at g5;simp [g5]
   ·simp only [Bool.not_true,HZ,if_false,Bool.true_and] at g5 ⊢
    subst g5;have ih:=qE fs (n+1) cs l' m' us' vs' (xs++[a]) (ys++[b]) q' h4 g3 (by simp [hx]) (by simp [hy]) g1 g2;simpa using ih
  unfold oP at he;split at he
  ·cases ‹_::_=[]›
  ·rename_i c' k a l' k' b m' _
   split at he
   ·rename_i hkk
    subst hkk;obtain⟨v1,v2,rfl,r1,r2⟩:=aC.1 hu;obtain⟨u1,u2,rfl,s1,s2⟩:=aC.1 hv;simp only [RepC] at r1 s1;obtain⟨rfl,_⟩:=r1;obtain⟨rfl,_⟩:=s1;cases ‹c::cs=_›;unfold Fs at h3;split at h3<;>simp at h3
    rename_i kk hu;exact fin _ _ _ _ _ _ _ rfl rfl r2 s2 he (by simp [isAgg,run_underlying hu]) (run_equalIn_int w _ _ _ _ _ _ hu)
   ·cases he
  ·rename_i c' a l' b m' _
   obtain⟨v1,v2,rfl,r1,r2⟩:=aC.1 hu;obtain⟨u1,u2,rfl,s1,s2⟩:=aC.1 hv;simp only [RepC] at r1 s1;obtain⟨rfl,_⟩:=r1;obtain⟨rfl,_⟩:=s1;cases ‹c::cs=_›;unfold Fs at h3;split at h3<;>simp at h3
   rename_i hu;exact fin _ _ _ _ _ _ _ rfl rfl r2 s2 he (by simp [isAgg,run_underlying hu]) (run_equalIn_bool' w _ _ _ _ hu)
  ·rename_i c' a l' b m' _
   obtain⟨v1,v2,rfl,r1,r2⟩:=aC.1 hu;obtain⟨u1,u2,rfl,s1,s2⟩:=aC.1 hv;simp only [RepC] at r1 s1;obtain⟨rfl,_⟩:=r1;obtain⟨rfl,_⟩:=s1;cases ‹c::cs=_›;unfold Fs at h3;split at h3<;>simp at h3
   rename_i hu;exact fin _ _ _ _ _ _ _ rfl rfl r2 s2 he (by simp [isAgg,run_underlying hu]) (run_equalIn_string w _ _ _ _ hu)
  ·cases he
 | [],n,_::_,_,_,_,_,_,_,_,hk,_,_,_,_,_=>by simp [Ah] at hk
 | _::_,n,[],_,_,_,_,_,_,_,hk,_,_,_,_,_=>by simp [Ah] at hk
theorem FJ {op:BinOp} {t:Nat} {k:IntKind} {a b:Int} {z:D} (h:eH op k a b=some z):∃v,(binOp op t (.int k a) (.int k b)).run P w = .ok v w∧z = .v v∧flat v=true:=by
 cases op<;>simp only [eH,Ij] at h
 case quo =>
  split at h<;>simp at h
  rename_i hb;exact⟨_,by simp [binOp_quo,Op.intDiv,hb],h.symm,rfl⟩
 case rem =>
  split at h<;>simp at h
  rename_i hb;exact⟨_,by simp [binOp_rem,Op.intDiv,hb],h.symm,rfl⟩
 case shl=>cases h
 case shr=>cases h
 all_goals
  subst h;refine⟨_,?_,rfl,rfl⟩
  first
  | simp [binOp_add,It];done
  | simp [binOp_sub,It];done
  | simp [binOp_mul,It];done
  | simp [binOp_and,intBits_and];done
  | simp [binOp_or,intBits_or];done
  | simp [binOp_xor,intBits_xor];done
  | simp [binOp_andNot,intBits_andNot];done
  | simp [binOp_eql];done
  | simp [binOp_neq];done
  | simp [binOp_lss];done
  | simp [binOp_leq];done
  | simp [binOp_gtr];done
  | simp [binOp_geq];done
theorem Fp {op:BinOp} {t:Nat} {a b:ByteArray} {z:D} (h:nQ op a b=some z):∃v,(binOp op t (.string a) (.string b)).run P w = .ok v w∧z = .v v∧flat v=true:=by
 have e:binOp op t (.string a) (.string b)=ID op a b:=by cases op<;>rfl
 rw [e];cases op<;>simp only [nQ,Ij] at h<;>try (cases h;done)
 case add =>
  split at h<;>simp at h
  rename_i hb;subst h;refine⟨_,?_,rfl,rfl⟩
  have:¬(((a.size+b.size:Nat):Int)>IntKind.i64.max):=by rw [IntKind.max_i64];omega
  simp only [ID,if_neg this,HJ]
 all_goals
  subst h;exact⟨_,by simp [ID],rfl,rfl⟩
theorem FA {op:BinOp} {t:Nat} {i:TI} (hi:TOk P t i) {a b z:D} {x y:Value} (ox oy:Operand) (ha:bU w F a x) (hb:bU w G b y) (h:bin op i.bl i.eq a b=some z) :
  ∃v,(do eqGuard op t ox oy x y;binOp op t x y:Sem Value).run P w = .ok v w∧z = .v v∧flat v=true:=by
 unfold bin at h;split at h
 ·rename_i k a' _ b'
  obtain⟨rfl,_⟩:=aZ ha;obtain⟨rfl,_⟩:=aZ hb;split at h<;>simp at h
  rename_i h0;subst h;refine⟨_,?_,rfl,rfl⟩
  rw [eqGuard_at_int];simp [binOp_shl,Op.shift,Int.not_lt.2 h0]
 ·rename_i k a' _ b'
  obtain⟨rfl,_⟩:=aZ ha;obtain⟨rfl,_⟩:=aZ hb;split at h<;>simp at h
  rename_i h0;subst h;refine⟨_,?_,rfl,rfl⟩
  rw [eqGuard_at_int];simp [binOp_shr,Op.shift,Int.not_lt.2 h0]
 ·rename_i k a' k' b' _ _
  obtain⟨rfl,_⟩:=aZ ha;obtain⟨rfl,_⟩:=aZ hb;by_cases hk:k=k'
  case neg=>rw [if_neg hk] at h;cases h
  rw [if_pos hk] at h;subst hk;obtain⟨v,h1,h2,h3⟩:=FJ (P:=P) (w:=w) (t:=t) h;refine⟨v,?_,h2,h3⟩
  rw [eqGuard_at_int];simpa using h1
 ·obtain⟨rfl,_⟩:=aZ ha
  obtain⟨rfl,_⟩:=aZ hb;obtain⟨v,h1,h2,h3⟩:=Fp (P:=P) (w:=w) (t:=t) h;refine⟨v,?_,h2,h3⟩
  rw [eqGuard_at_string];simpa using h1
 ·obtain⟨rfl,_⟩:=aZ ha
  obtain⟨rfl,_⟩:=aZ hb;split at h<;>simp at h
  rename_i hbl;subst h;refine⟨_,?_,rfl,rfl⟩
  rw [eqGuard_at_bool];simp [binOp,HV,Ib,run_equalIn_bool' w _ t _ _ (hi.bl hbl)]
 ·obtain⟨rfl,_⟩:=aZ ha
  obtain⟨rfl,_⟩:=aZ hb;split at h<;>simp at h
  rename_i hbl;subst h;refine⟨_,?_,rfl,rfl⟩
  rw [eqGuard_at_bool];simp [binOp,HV,Ib,run_equalIn_bool' w _ t _ _ (hi.bl hbl)]
 ·split at h
  ·cases h
  ·rename_i he
   obtain⟨q,hq,rfl⟩:=HI.1 h;obtain⟨us,rfl,r1⟩:=ha.rep (by simp);obtain⟨vs,rfl,s1⟩:=hb.rep (by simp);simp only [RepC] at r1 s1;obtain⟨fs,f1,f2,f3,f4,f5⟩:=hi.eq he;have hfs:P.fieldsOf t=fs:=by simp [Program.fieldsOf,f1]
   refine⟨_,?_,rfl,rfl⟩
   have key:=qE (P:=P) fs.toList 0 i.eq _ _ us vs [] [] q f2 hq rfl rfl r1.1 s1.1;simp only [In] at key;simp only [HD,run_eqGuard_agg w _ _ _ _ _ _ f4,HB,run_eql_struct,run_equalIn_agg w 9999 t _ _ (by rw [hfs];exact f1) f5,hfs,key]
 ·split at h
  ·cases h
  ·rename_i he
   obtain⟨q,hq,rfl⟩:=HI.1 h;obtain⟨us,rfl,r1⟩:=ha.rep (by simp);obtain⟨vs,rfl,s1⟩:=hb.rep (by simp);simp only [RepC] at r1 s1;obtain⟨fs,f1,f2,f3,f4,f5⟩:=hi.eq he;have hfs:P.fieldsOf t=fs:=by simp [Program.fieldsOf,f1]
   refine⟨_,?_,rfl,rfl⟩
   have key:=qE (P:=P) fs.toList 0 i.eq _ _ us vs [] [] q f2 hq rfl rfl r1.1 s1.1;simp only [In] at key;simp only [HD,run_eqGuard_agg w _ _ _ _ _ _ f4,HB,run_neq_struct,run_equalIn_agg w 9999 t _ _ (by rw [hfs];exact f1) f5,hfs,key]
 ·cases h
theorem DC {op:BinOp} {t:Nat} {i:TI} (hi:TOk P t i) (hs:iG i=true) {a z:D} {x:Value} (ox oy:Operand) (ha:bU w F a x) (h:Gz op a=some z) :
  ∃v,(do eqGuard op t ox oy x (.slice none 0 0);binOp op t x (.slice none 0 0):Sem Value).run P w = .ok v w∧z = .v v∧flat v=true:=by
 have hez:i.ez≠0∧i.alen=0:=by
  unfold iG at hs;split at hs
  ·cases hs
  ·rename_i e1 h2
   exact⟨h2,e1⟩
  ·cases hs
 obtain⟨hu,_⟩:=hi.sl hez.1 hez.2;have eq1:∀(b:Addr) (n c:Nat),(HV t (.slice (some b) n c) (.slice none 0 0)).run P w = .ok false w:=fun b n c=>by
  have h:∀d:Nat,(HQ (d+1) t (.slice (some b) n c) (.slice none 0 0)).run P w = .ok false w:=fun d=>by
   simp [HQ,run_underlying hu]
  simp [HV,Ib,h 9999]
 have eq2:(HV t (.slice none 0 0) (.slice none 0 0)).run P w = .ok true w:=by
  have h:∀d:Nat,(HQ (d+1) t (.slice none 0 0) (.slice none 0 0)).run P w = .ok true w:=fun d=>by
   simp [HQ,run_underlying hu]
  simp [HV,Ib,h 9999]
 have g1:∀(op:BinOp) (b:Option Addr) (n c:Nat),(eqGuard op t ox oy (.slice b n c) (.slice none 0 0)).run P w = .ok () w:=fun op b n c=>by
  cases op<;>simp [eqGuard]
 unfold Gz at h;split at h
 ·obtain⟨rfl,_⟩:=aZ ha
  cases h;refine⟨_,?_,rfl,rfl⟩
  simp only [HD,g1,HB,binOp,eq2];rfl
 ·obtain⟨rfl,_⟩:=aZ ha
  cases h;refine⟨_,?_,rfl,rfl⟩
  simp only [HD,g1,HB,binOp,eq2];rfl
 ·have hr:=ha.rep (by simp)
  simp only [aQ,RepC] at hr;obtain⟨A,c,us,e,_,_,_,hA⟩:=hr;obtain⟨b,o,rfl,_⟩:=hA (by simp);simp only [HE,and_true] at e;subst e;cases h;refine⟨_,?_,rfl,rfl⟩
  simp only [HD,g1,HB,binOp,eq1];rfl
 ·have hr:=ha.rep (by simp)
  simp only [aQ,RepC] at hr;obtain⟨A,c,us,e,_,_,_,hA⟩:=hr;obtain⟨b,o,rfl,_⟩:=hA (by simp);simp only [HE,and_true] at e;subst e;cases h;refine⟨_,?_,rfl,rfl⟩
  simp only [HD,g1,HB,binOp,eq1];rfl
 ·cases h
theorem DS {op:BinOp} {t:Nat} {i:TI} (hi:TOk P t i) (hf:i.ifc=true) {a b z:D} {x y:Value} {nc:Bool} (ox oy:Operand) (hc:nc=true→∃v,oy = .const v) (ha:bU w F a x) (hb:bU w G b y) (h:Gy nc op a b=some z) :
  ∃v,(do eqGuard op t ox oy x y;binOp op t x y:Sem Value).run P w = .ok v w∧z = .v v∧flat v=true:=by
 obtain⟨ms,hu⟩:=hi.ifc hf;have eq1:∀(tx:TypeId) (v:Value),(HV t (.iface tx v) .nilIface).run P w = .ok false w:=fun tx v=>by
  have h:∀d:Nat,(HQ (d+1) t (.iface tx v) .nilIface).run P w = .ok false w:=fun d=>by
   simp [HQ,run_underlying hu]
  simp [HV,Ib,h 9999]
 have eq2:(HV t .nilIface .nilIface).run P w = .ok true w:=by
  have h:∀d:Nat,(HQ (d+1) t .nilIface .nilIface).run P w = .ok true w:=fun d=>by
   simp [HQ,run_underlying hu]
  simp [HV,Ib,h 9999]
 have g1:∀(op:BinOp) (tx:TypeId) (v:Value),(eqGuard op t ox oy (.iface tx v) .nilIface).run P w = .ok () w:=fun op tx v=>by
  cases op<;>simp [eqGuard]
 have g2:nc=true→∀op:BinOp,(eqGuard op t ox oy .nilIface .nilIface).run P w = .ok () w:=fun hn op=>by
  obtain⟨v,rfl⟩:=hc hn;cases op<;>simp [eqGuard]
 unfold Gy at h;split at h
 ·obtain⟨tx,v,e⟩:=ha.rep (by simp)
  obtain⟨rfl,_⟩:=aZ hb;simp only [HE,and_true] at e;subst e;cases h;refine⟨_,?_,rfl,rfl⟩
  simp only [HD,g1,HB,binOp,eq1];rfl
 ·obtain⟨tx,v,e⟩:=ha.rep (by simp)
  obtain⟨rfl,_⟩:=aZ hb;simp only [HE,and_true] at e;subst e;cases h;refine⟨_,?_,rfl,rfl⟩
  simp only [HD,g1,HB,binOp,eq1];rfl
 ·obtain⟨rfl,_⟩:=aZ ha
  obtain⟨rfl,_⟩:=aZ hb;split at h
  case isFalse=>cases h
  rename_i hn;cases h;refine⟨_,?_,rfl,rfl⟩
  simp only [HD,g2 hn,HB,binOp,eq2];rfl
 ·obtain⟨rfl,_⟩:=aZ ha
  obtain⟨rfl,_⟩:=aZ hb;split at h
  case isFalse=>cases h
  rename_i hn;cases h;refine⟨_,?_,rfl,rfl⟩
  simp only [HD,g2 hn,HB,binOp,eq2];rfl
 ·cases h
theorem Gq {op:UnOp} {a z:D} {x:Value} (ha:bU w F a x) (h:un op a=some z):∃v,(Op.unary op x).run P w = .ok v w∧z = .v v∧flat v=true:=by
 unfold un at h;split at h
 ·obtain⟨rfl,_⟩:=aZ ha
  simp at h;subst h;exact⟨_,by simp [Op.unary,It],rfl,rfl⟩
 ·obtain⟨rfl,_⟩:=aZ ha
  simp at h;subst h;exact⟨_,by simp [Op.unary],rfl,rfl⟩
 ·cases h
theorem DL {q a b z:D} {xq xa xb:Value} (hq:bU w F q xq) (ha:bU w G a xa) (hb:bU w G b xb) (h:bg q a b=some z):∃y,(do pure (if ←asBool xq then xa else xb):Sem Value).run P w = .ok y w∧bU w G z y:=by
 unfold bg at h;split at h
 ·obtain⟨rfl,_⟩:=aZ hq
  simp at h;subst h;exact⟨xa,by simp [asBool],ha⟩
 ·obtain⟨rfl,_⟩:=aZ hq
  simp at h;subst h;exact⟨xb,by simp [asBool],hb⟩
 ·cases h
theorem EM {src dst:Nat} {si di:TI} (hs:TOk P src si) (hd:TOk P dst di) {a z:D} {x:Value} (ha:bU w F a x) (h:wD di.ik (match di.str with | true=>si.str | false=>false) a=some z) :
  ∃v,(convert src dst x).run P w = .ok v w∧z = .v v∧flat v=true:=by
 unfold wD at h;split at h
 ·rename_i k kk n hk
  obtain⟨rfl,_⟩:=aZ ha;simp at h;subst h;obtain⟨d,hu⟩:=Option.isSome_iff_exists.1 hs.und;refine⟨_,?_,rfl,rfl⟩
  simp [convert,run_underlying hu,run_underlying (hd.ik k hk),Conv.intToInt]
 ·rename_i s hk
  obtain⟨rfl,_⟩:=aZ ha;simp at h;subst h;split at hk
  ·rename_i hdd
   have h1:=(hd.str hdd).1;have h2:=(hs.str hk).1;refine⟨_,?_,rfl,rfl⟩
   simp [convert,run_underlying h1,run_underlying h2]
  ·cases hk
 ·cases h
theorem iH {t:Nat} {i:TI} (hi:TOk P t i) (h:iG i=true):P.underlying t=some (.slice i.elem)∧i.agg=false∧0<i.ez∧0<i.eb∧∃y,P.info? i.elem=some y∧y.size=i.ez∧y.bytes=i.eb:=by
 unfold iG at h;split at h
 ·cases h
 ·rename_i h1 h2
  exact hi.sl (by intro h0;exact h2 h0) h1
 ·cases h
theorem kg {z:Nat} {l:List D} {y:Value} (h:aQ w F (.arr z l) y):∃A c us,y = .slice A l.length c∧l.length≤c∧bw w F l us∧(∀d∈l,d.width=z)∧(l≠[]→∃b o,A=some ⟨b,o,none⟩∧F b∧cr w b o us):=by
 simp only [aQ,RepC] at h;obtain⟨A,c,us,h1,h2⟩:=h;simp at h1;exact⟨A,c,us,h1,h2⟩
theorem oL {l:List D} {y:Value} (h:aQ w F (.ptr l) y):∃b o us,y = .pointer (some ⟨b,o,none⟩)∧bw w F l us∧l.all D.single=true∧F b∧cr w b o us:=by
 simp only [aQ,RepC] at h;obtain⟨b,o,us,h1,h2⟩:=h;simp at h1;exact⟨b,o,us,h1,h2⟩
theorem ER {t ty:Nat} {str:Bool} {a z:D} {x:Value} (ha:bU w F a x) (hs:str=false→∃e,P.underlying t=some (.slice e)) (ht:str=true→P.underlying t=some .string) (h:lenD str a=some z) :
  ∃v,(IC #[t] ty #[x]).run P w = .ok v w∧z = .v v∧flat v=true:=by
 unfold lenD at h;split at h
 ·obtain⟨e,hu⟩:=hs rfl
  obtain⟨A,c,us,rfl,_⟩:=kg (ha.rep (by simp));simp at h;subst h;exact⟨_,by simp [IC,run_underlying hu,goInt],rfl,rfl⟩
 ·have hu:=ht rfl
  obtain⟨rfl,_⟩:=aZ ha;simp at h;subst h;exact⟨_,by simp [IC,run_underlying hu,goInt],rfl,rfl⟩
 ·cases h
theorem wt {ag:Bool} {n:Nat} {l:List D} {us:List Value} {z:D} (hr:bw w F l us) (hs:l.all D.single=true) (h:an ag n l=some z) :
  (ag=true→n≤us.length∧aQ w F z (.agg (us.take n).toArray))∧(ag=false→∃u,us[0]?=some u∧aQ w F z u):=by
 have hl:=(bX l us hs hr).1;unfold an at h;constructor
 ·rintro rfl
  simp only [if_true] at h;split at h
  ·rename_i hn
   simp at h;subst h;refine⟨by omega,_,rfl,?_⟩
   simp only [RepC];exact⟨(hJ l us hs hr n).1,zt hs n⟩
  ·cases h
 ·rintro rfl
  simp only [HZ,if_false] at h;cases l with
  | nil=>cases h
  | cons d l =>
   simp at h;subst h;simp only [Ic,HC] at hs;obtain⟨v1,v2,rfl,h1,h2⟩:=aC.1 hr;obtain⟨y,rfl,_⟩:=hZ _ _ hs.1 h1;exact⟨y,rfl,(fQ hs.1).2 h1⟩
theorem zo {t:Nat} {i:TI} (hi:TOk P t i) {off:Nat} {l:List D} {us:List Value} {z:D} (hr:bw w F l us) (hs:l.all D.single=true) (h:an i.agg i.n (l.drop off)=some z) :
  ∃y,(part t us.toArray off).run P w = .ok y w∧aQ w F z y:=by
 obtain⟨h1,h2⟩:=wt (hJ l us hs hr off).2 (jW hs off) h;cases ha:i.agg
 ·obtain⟨u,hu,hv⟩:=h2 ha
  refine⟨u,?_,hv⟩
  rw [IA] at hu;simp only [part,HD,hi.agg,ha,HB,HZ,if_false];have:us.toArray[off]?=some u:=by simpa using hu
  rw [this];rfl
 ·obtain⟨hn,hv⟩:=h1 ha
  refine⟨_,?_,hv⟩
  simp only [part,HD,hi.agg,ha,HB,if_true,hi.size,HJ];congr 2
  apply Array.ext';simp
theorem EY {t ft f off:Nat} {i ti:TI} (hi:TOk P t i) (hf:TOk P ft ti) {a z:D} {x:Value} (hl:i.fs[f]?=some (off,ft)) (ha:bU w F a x) (h:kK ti.agg ti.n off a=some z) :
  ∃y,(Instr.field t x f).run P w = .ok y w∧aQ w F z y:=by
 unfold kK at h;split at h
 ·rename_i l
  obtain⟨us,rfl,hr⟩:=ha.rep (by simp);simp only [RepC] at hr;obtain⟨fs,fl,h1,h2,h3,h4,_⟩:=hi.fs f off ft hl;obtain⟨y,hy,hv⟩:=zo hf hr.1 hr.2 h;refine⟨y,?_,hv⟩
  simp only [Instr.field,HD,run_underlying h1,HB,h2,asAgg,HJ,h3,h4,hy]
 ·cases h
theorem pd {t:Nat} {i:TI} (hi:TOk P t i) {b o:Nat} {l:List D} {us:List Value} {z:D} (hr:bw w F l us) (hs:l.all D.single=true) (hc:cr w b o us) (h:an i.agg i.n l=some z) :
  ∃y,(Il t (.pointer (some ⟨b,o,none⟩))).run P w = .ok y w∧aQ w F z y:=by
 obtain⟨h1,h2⟩:=wt hr hs h;cases ha:i.agg
 ·obtain⟨u,hu,hv⟩:=h2 ha
  refine⟨u,?_,hv⟩
  have hcell:=hc 0 u hu;rw [Nat.add_zero] at hcell;simp only [Il,Ih,HD,HJ,HB,loadVar,hi.agg,ha,HZ,if_false,run_load,hcell]
 ·obtain⟨hn,hv⟩:=h1 ha
  refine⟨_,?_,hv⟩
  have hlc:(loadCells ⟨b,o,none⟩ i.n).run P w = .ok (us.take i.n).toArray w:=by
   have hlen:(us.take i.n).length=i.n:=by rw [HT];omega
   have:=run_loadCells_list (P:=P) w ⟨b,o,none⟩ (us.take i.n) (fun j v hj=>by rw [HS];exact(hc.take i.n) j v hj);rwa [hlen] at this
  simp only [Il,Ih,HD,HJ,HB,loadVar,hi.agg,ha,if_true,hi.size,hlc]
theorem Gc {t:Nat} {i:TI} (hi:TOk P t i) {a z:D} {x:Value} (ha:bU w F a x) (h:ldD i.agg i.n a=some z):∃y,(Il t x).run P w = .ok y w∧aQ w F z y:=by
 unfold ldD at h;split at h
 ·obtain⟨b,o,us,rfl,h1,h2,_,h4⟩:=oL (ha.rep (by simp))
  exact pd hi h1 h2 h4 h
 ·cases h
theorem lT {t f off ft:Nat} {i:TI} (hi:TOk P t i) (hl:i.fs[f]?=some (off,ft)) (b o:Nat):(Iz t (.pointer (some ⟨b,o,none⟩)) f).run P w = .ok (.pointer (some ⟨b,o+off,none⟩)) w:=by
 obtain⟨fs,fl,h1,h2,h3,h4,_,y,h5,h6⟩:=hi.fs f off ft hl;simp only [Iz,HD,run_underlying h1,HB,h2,Ih,HJ,fieldPlace,h4,cF h5,if_neg h6,h3,HS]
theorem ET {t f off ft:Nat} {i:TI} (hi:TOk P t i) (hl:i.fs[f]?=some (off,ft)) {a z:D} {x:Value} (ha:bU w F a x) (h:jE off a=some z):∃y,(Iz t x f).run P w = .ok y w∧aQ w F z y:=by
 unfold jE at h;split at h
 ·rename_i l
  obtain⟨b,o,us,rfl,h1,h2,h3,h4⟩:=oL (ha.rep (by simp));simp at h;subst h;refine⟨_,lT hi hl b o,?_⟩
  simp only [aQ,RepC];exact⟨b,o+off,us.drop off,rfl,(hJ l us h2 h1 off).2,jW h2 off,h3,h4.drop off⟩
 ·cases h
theorem qK {t:Nat} {i:TI} (hi:TOk P t i) (hsl:iG i=true) (b o len c:Nat) (k:IntKind) (n:Int) (h0:0≤n) (h1:n<len) :
  (HX t (.slice (some ⟨b,o,none⟩) len c) (.int k n)).run P w = .ok (.pointer (some ⟨b,o+n.toNat*i.ez,none⟩)) w:=by
 obtain⟨hu,_,_,_,y,hy,hz,_⟩:=iH hi hsl;simp only [HX,asIntOf,HD,HJ,HB,run_underlying hu,h0,h1,and_self,if_true,cF hy,hz,HS]
theorem qP {t:Nat} {i:TI} (hi:TOk P t i) (ha:i.alen≠0) (b o:Nat) (k:IntKind) (n:Int) (h0:0≤n) (h1:n<i.alen) :
  (HX t (.pointer (some ⟨b,o,none⟩)) (.int k n)).run P w = .ok (.pointer (some ⟨b,o+n.toNat*i.ez,none⟩)) w:=by
 obtain⟨hu,_,_,_,y,hy,hz⟩:=hi.ar ha;simp only [HX,asIntOf,HD,HJ,HB,run_underlying hu,Ih,h0,h1,and_self,if_true,cF hy,hz,HS]
theorem Ec {t:Nat} {i:TI} (hi:TOk P t i) (hsl:iG i=true) {a j:D} {x y:Value} {l:List D} (ha:bU w F a x) (hj:bU w G j y) (h:bj i.ez a j=some l) :
  ∃v,(HX t x y).run P w = .ok v w∧aQ w F (.ptr l) v:=by
 unfold bj at h;split at h
 ·rename_i z' m k n
  split at h
  ·rename_i hz
   obtain⟨rfl,h0⟩:=hz;obtain⟨d,hd,rfl⟩:=HI.1 h;obtain⟨rfl,_⟩:=aZ hj;obtain⟨A,c,us,rfl,h1,h2,h3,h4⟩:=kg (ha.rep (by simp));have hn:n.toNat<m.length:=(HM.1 hd).1;obtain⟨b,o,rfl,hb,hc⟩:=h4 (by intro e;subst e;simp at hn);refine⟨_,qK hi hsl b o _ c k n h0 (by omega),?_⟩
   obtain⟨p,q,r,rfl,hp,hq,hr,_⟩:=pK m us h2 h3 _ d hd;simp only [aQ,RepC];have hrr:bw w F d.cells q∧d.cells.all D.single=true:=by
    rcases iQ hr with ⟨l,rfl⟩ | hs
    ·simpa only [RepC,D.cells] using hr
    ·rw [(cX hs).2]
     exact⟨aC.2 ⟨q,[],by simp,hr,aP.2 rfl⟩,by simp [hs]⟩
   refine⟨b,_,q,rfl,hrr.1,hrr.2,hb,?_⟩
   rw [←hp];exact hc.part
  ·cases h
 ·cases h
theorem Fi {t:Nat} {i:TI} (hi:TOk P t i) (hal:i.alen≠0) {a j z:D} {x y:Value} (ha:bU w F a x) (hj:bU w G j y) (h:ixD i.alen i.ez a j=some z):∃v,(HX t x y).run P w = .ok v w∧aQ w F z v:=by
 unfold ixD at h;split at h
 ·rename_i l k n
  split at h
  ·rename_i hn
   simp at h;subst h;obtain⟨rfl,_⟩:=aZ hj;obtain⟨b,o,us,rfl,h1,h2,h3,h4⟩:=oL (ha.rep (by simp));refine⟨_,qP hi hal b o k n hn.1 hn.2,?_⟩
   simp only [aQ,RepC];exact⟨b,_,_,rfl,(hJ l us h2 h1 _).2,jW h2 _,h3,h4.drop _⟩
  ·cases h
 ·cases h
theorem FF {t et:Nat} {i e:TI} (hi:TOk P t i) (he:TOk P et e) (hal:i.alen≠0) (hel:i.elem=et) {a j z:D} {x y:Value} (ha:bU w F a x) (hj:bU w G j y) (h:ixA e.agg i.alen i.ez a j=some z):∃v,(Iu t x y).run P w = .ok v w∧aQ w F z v:=by
 unfold ixA at h;split at h
 ·rename_i l k n
  split at h
  ·rename_i hn
   obtain⟨rfl,_⟩:=aZ hj;obtain⟨us,rfl,hr⟩:=ha.rep (by simp);simp only [RepC] at hr;obtain⟨hu,_,_,_,y,hy,hz⟩:=hi.ar hal;have hen:e.n=i.ez:=by
    obtain⟨x',_,h1,h2,_⟩:=he.info;rw [hel] at hy;rw [hy] at h1;cases h1;omega
   rw [←hen] at h;obtain⟨v,hv,hrep⟩:=zo he hr.1 hr.2 h;refine⟨v,?_,hrep⟩
   subst hel;simp only [Iu,asIntOf,HD,HJ,HB,run_underlying hu,hn.1,hn.2,and_self,if_true,cF hy,hz];rw [←hen];exact hv
  ·cases h
 ·cases h
theorem Eh {t:Nat} {i:TI} (hi:TOk P t i) (hs:i.str=true) {a j z:D} {x y:Value} (ha:bU w F a x) (hj:bU w G j y) (h:pf a j=some z):∃v,(Iu t x y).run P w = .ok v w∧z = .v v∧flat v=true:=by
 unfold pf at h;split at h
 ·rename_i s k n
  split at h
  ·rename_i h0
   obtain⟨b,hb,rfl⟩:=HI.1 h;obtain⟨rfl,_⟩:=aZ ha;obtain⟨rfl,_⟩:=aZ hj;refine⟨_,?_,rfl,rfl⟩
   have hb':s[n.toNat]?=some b:=by
    have hlt:n.toNat<s.data.toList.length:=(HM.1 hb).1;have hlt':n.toNat<s.size:=by rw [Array.length_toList] at hlt;exact hlt
    rw [getElem?_pos s n.toNat hlt'];have h2:=(HM.1 hb).2;refine congrArg some ?_
    rw [←h2,Array.getElem_toList];rfl
   simp only [Iu,asIntOf,HD,HJ,HB,run_underlying (hi.str hs).1];rw [if_pos h0,hb'];rfl
  ·cases h
 ·cases h
def LoV (w:World) (F:Nat→Prop) (lo:D) (v:Option Value):Prop:=(∃y,v=some y∧bU w F lo y)∨(v=none∧lo=I 0)
theorem mB {k:IntKind} {p:Int} {v:Option Value} (h:LoV w F (.v (.int k p)) v):v=some (.int k p)∨(v=none∧p=0):=by
 rcases h with ⟨y,rfl,hy⟩ | ⟨rfl,e⟩
 ·obtain⟨rfl,_⟩:=aZ hy
  exact .inl rfl
 ·simp at e
  exact .inr ⟨rfl,e.2⟩
theorem BO {t:Nat} {i:TI} (hi:TOk P t i) (hsl:i.str=false→iG i=true) {a lo hi' z:D} {x yh:Value} {yl:Option Value} (ha:bU w F a x) (hl:LoV w G lo yl) (hh:bU w G hi' yh) (h:fa i.str i.ez a lo hi'=some z) :
  ∃v,(IJ t x yl (some yh) none).run P w = .ok v w∧aQ w F z v:=by
 unfold fa at h;split at h
 ·rename_i z' l k p k' q hs
  split at h
  ·rename_i hc
   obtain⟨rfl,h0,h1,h2⟩:=hc;simp at h;subst h;have hl:=mB hl;obtain⟨rfl,_⟩:=aZ hh;obtain⟨hu,_,hez,_,y,hy,hz,_⟩:=iH hi (hsl hs);obtain⟨A,c,us,rfl,g1,g2,g3,g4⟩:=kg (ha.rep (by simp));have he:P.elem t=i.elem:=by simp [IK,hu]
   refine⟨sliced A p.toNat q.toNat c i.ez,?_,?_⟩
   ·rcases hl with rfl | ⟨rfl,rfl⟩
    ·rw [run_sliceAt_slice w t _ _ _ _ (by rw [he];exact hu),run_slice_lh w t A _ c (by rw [he];exact hu) k k' p q h0 h1 (by omega),he,cF hy,hz]
     rfl
    ·rw [run_sliceAt_slice w t _ _ _ _ (by rw [he];exact hu),run_slice_h w t A _ c (by rw [he];exact hu) k' q (by omega) (by omega),he,cF hy,hz]
     rfl
   ·simp only [aQ,RepC,sliced]
    have hlen:((l.take q.toNat).drop p.toNat).length=q.toNat - p.toNat:=by rw [Im,HT];omega
    obtain⟨t1,_⟩:=gD l us g2 g3 q.toNat;obtain⟨_,t2⟩:=gD (l.take q.toNat) (us.take (q.toNat*i.ez)) t1 (fun d hd=>g3 d (HO hd)) p.toNat;refine⟨_,c - p.toNat,_,by rw [hlen],by rw [hlen];omega,t2,fun d hd=>g3 d (HO (Ie hd)),fun hne=>?_⟩
    have hpos:p.toNat<q.toNat:=by
     rcases IB p.toNat q.toNat with hlt | hge
     ·exact hlt
     ·exact absurd (Ig (by rw [hlen];omega)) hne
    obtain⟨b,o,rfl,hb,hcell⟩:=g4 (by intro e;subst e;simp at h2;omega);refine⟨b,o+p.toNat*i.ez,?_,hb,(hcell.take _).drop _⟩
    rw [if_neg (by omega)];simp [HS]
  ·cases h
 ·rename_i s k p k' q hs
  split at h
  ·rename_i hc
   obtain⟨h0,h1,h2⟩:=hc;simp at h;subst h;obtain⟨rfl,_⟩:=aZ ha;have hl:=mB hl;obtain⟨rfl,_⟩:=aZ hh;have hu:=(hi.str hs).1;refine⟨_,?_,hY rfl⟩
   have e1:((q.toNat:Nat):Int)=q:=by omega
   rcases hl with rfl | ⟨rfl,rfl⟩
   case inr=>rw [run_sliceAt_string w t _ _ _ _ hu,run_slice_string_h w t s hu k' q (by omega) (by omega)];rfl
   simp [run_sliceAt_string w t _ _ _ _ hu,Instr.slice,run_underlying hu,Instr.sliceBounds,run_sliceBound w k' q s.size _ (by omega) h2,run_sliceBound w k p q.toNat _ h0 (by omega)]
  ·cases h
 ·cases h
theorem yT {t:Nat} {i:TI} (hi:TOk P t i) (hsl:i.str=false→iG i=true) {a lo z:D} {x:Value} {yl:Option Value} (ha:bU w F a x) (hl:LoV w G lo yl) (h:jk i.str i.ez a lo=some z) :
  ∃v,(IJ t x yl none none).run P w = .ok v w∧aQ w F z v:=by
 unfold jk at h;split at h
 ·rename_i z' l k p hs
  split at h
  ·rename_i hc
   obtain⟨rfl,h0,h1⟩:=hc;simp at h;subst h;have hl:=mB hl;obtain⟨hu,_,hez,_,y,hy,hz,_⟩:=iH hi (hsl hs);obtain⟨A,c,us,rfl,g1,g2,g3,g4⟩:=kg (ha.rep (by simp));have he:P.elem t=i.elem:=by simp [IK,hu]
   refine⟨sliced A p.toNat l.length c i.ez,?_,?_⟩
   ·rcases hl with rfl | ⟨rfl,rfl⟩
    ·rw [run_sliceAt_slice w t _ _ _ _ (by rw [he];exact hu),run_slice_l w t A _ c (by rw [he];exact hu) k p h0 h1,he,cF hy,hz]
     rfl
    ·rw [run_sliceAt_slice w t _ _ _ _ (by rw [he];exact hu),run_slice_all w t A _ c (by rw [he];exact hu),he,cF hy,hz]
     rfl
   ·simp only [aQ,RepC,sliced]
    obtain⟨_,t2⟩:=gD l us g2 g3 p.toNat;refine⟨_,c - p.toNat,_,by rw [Im],by rw [Im];omega,t2,fun d hd=>g3 d (Ie hd),fun hne=>?_⟩
    have hpos:p.toNat<l.length:=by
     rcases IB p.toNat l.length with hlt | hge
     ·exact hlt
     ·exact absurd (Ia hge) hne
    obtain⟨b,o,rfl,hb,hcell⟩:=g4 (by intro e;subst e;simp at hpos);refine⟨b,o+p.toNat*i.ez,?_,hb,hcell.drop _⟩
    rw [if_neg (by omega)];simp [HS]
  ·cases h
 ·rename_i s k p hs
  split at h
  ·rename_i hc
   obtain⟨h0,h1⟩:=hc;simp at h;subst h;obtain⟨rfl,_⟩:=aZ ha;have hl:=mB hl;have hu:=(hi.str hs).1;refine⟨_,?_,hY rfl⟩
   rcases hl with rfl | ⟨rfl,rfl⟩
   case inr=>rw [run_sliceAt_string w t _ _ _ _ hu,run_slice_string_all w t s hu];rfl
   simp [run_sliceAt_string w t _ _ _ _ hu,Instr.slice,run_underlying hu,Instr.sliceBounds,run_sliceBound w k p s.size _ h0 h1]
  ·cases h
 ·cases h
theorem Fh {a b z:D} {x y:Value} (ha:bU w F a x) (hb:bU w G b y) (h:BX a b=some z):∃v,(IL x y).run P w = .ok v w∧z = .v v∧flat v=true:=by
 unfold BX at h;split at h
 ·obtain⟨rfl,_⟩:=aZ ha
  obtain⟨rfl,_⟩:=aZ hb;simp at h;subst h;exact⟨_,by simp [IL],rfl,rfl⟩
 ·cases h
theorem Fv {a b z:D} {x y:Value} (ha:bU w F a x) (hb:bU w G b y) (h:CC a b=some z):∃v,(IM x y).run P w = .ok v w∧z = .v v∧flat v=true:=by
 unfold CC at h;split at h
 ·obtain⟨rfl,_⟩:=aZ ha
  obtain⟨rfl,_⟩:=aZ hb;simp at h;subst h;exact⟨_,by simp [IM],rfl,rfl⟩
 ·cases h
def pq (w:World) (F:Nat→Prop):List D→List Value→Prop
 | [],[]=>True
 | d::ds,y::ys=>bU w F d y∧pq w F ds ys
 | _,_=>False
theorem yJ {f:D→D→Option D} {g:Value→Value→Sem Value} (hf:∀(a b z:D) (x y:Value),bU w F a x→bU w F b y→f a b=some z→∃v,(g x y).run P w = .ok v w∧z = .v v∧flat v=true) :
  ∀(ds:List D) (ys:List Value) (z:D) (x:Value),flat x=true→pq w F ds ys→sy f (.v x) ds=some z→∃v,(ys.foldlM g x).run P w = .ok v w∧z = .v v∧flat v=true
 | [],[],z,x,ha,_,h=>by
  simp only [sy,Ij] at h;subst h;exact⟨x,by simp,rfl,ha⟩
 | d::ds,y::ys,z,x,ha,hb,h=>by
  simp only [sy] at h;obtain⟨u,hu,h⟩:=HN.1 h;obtain⟨v,h1,rfl,h3⟩:=hf (.v x) d u x y (.inr (hY ha)) hb.1 hu;obtain⟨v',h4,h5⟩:=yJ hf ds ys z v h3 hb.2 h;exact⟨v',by simp [h1,h4],h5⟩
 | [],_::_,_,_,_,hb,_=>hb.elim
 | _::_,[],_,_,_,hb,_=>hb.elim
theorem BL {f:D→D→Option D} {g:Value→Value→Sem Value} (hf:∀(a b z:D) (x y:Value),bU w F a x→bU w F b y→f a b=some z→∃v,(g x y).run P w = .ok v w∧z = .v v∧flat v=true)
  {a b:D} {ds:List D} {x y:Value} {ys:List Value} {z:D} (ha:bU w F a x) (hb:bU w F b y) (hd:pq w F ds ys) (h:sy f a (b::ds)=some z):∃v,((y::ys).foldlM g x).run P w = .ok v w∧z = .v v∧flat v=true:=by
 simp only [sy] at h;obtain⟨u,hu,h⟩:=HN.1 h;obtain⟨v,h1,rfl,h3⟩:=hf a b u x y ha hb hu;obtain⟨v',h4,h5⟩:=yJ hf ds ys z v h3 hd h;exact⟨v',by simp [h1,h4],h5⟩
theorem EV {a z:D} {x:Value} (ha:bU w F a x) (h:DU a=some z) (o:Oper) (q:Operand) (ρ:Operand→Value) (ho:o.op = .nilCheck q) (hq:ρ q=x):(execOp ρ o).run P w = .ok (.value x) w∧aQ w F z x:=by
 unfold DU at h;split at h
 ·have hr:=ha.rep (by simp)
  obtain⟨b,of,us,rfl,_⟩:=oL hr;simp at h;subst h;exact⟨by simp [execOp,ho,hq],hr⟩
 ·have hr:=ha.rep (by simp)
  simp at h;subst h;have hr':=hr;simp only [aQ,RepC] at hr';obtain⟨us,hx,_⟩:=hr';simp at hx;subst hx;exact⟨by simp [execOp,ho,hq],hr⟩
 ·cases h
theorem FH {src dst:Nat} {si di ei:TI} (hs:TOk P src si) (hd:TOk P dst di) (he:TOk P si.elem ei) (hsl:iG si=true) (hb:ei.ik=some .u8) (hds:di.str=true) {a z:D} {x:Value} (ha:aQ w F a x) (h:xu a=some z) :
  ∃v,(convert src dst x).run P w = .ok v w∧z = .v v∧flat v=true:=by
 unfold xu at h;split at h
 ·rename_i zz l
  obtain⟨b,hbb,rfl⟩:=HI.1 h;obtain⟨A,c,us,rfl,g1,g2,g3,g4⟩:=kg ha;obtain⟨hu,_⟩:=iH hs hsl;have hel:=he.ik _ hb;have hst:=(hd.str hds).1;refine⟨_,?_,rfl,rfl⟩
  rw [run_convert_bytes_string w src dst si.elem A _ c hu hel hst];by_cases hl:l=[]
  ·subst hl
   simp [kH] at hbb;subst hbb;cases A with
   | none=>simp [Conv.bytesToString];rfl
   | some A=>simp [Conv.bytesToString,loadCells,loadCellsFrom];rfl
  ·obtain⟨bb,o,rfl,_,hc⟩:=g4 hl
   have key:∀(l:List D) (us:List Value) (b:List UInt8),kH l=some b→bw w F l us→∃ns:List Int,us=ns.map (II .u8)∧ns.map (fun n=>Ip n.toNat)=b∧l.length=ns.length:=by
    intro l;induction l with
    | nil =>
     intro us b h hr;simp [kH] at h;rw [aP] at hr;exact⟨[],by simp [hr],by simp [h],rfl⟩
    | cons d l ih =>
     intro us b h hr;unfold kH at h;split at h
     ·cases ‹_=[]›
     ·rename_i n l' e
      cases e;obtain⟨b',hb',rfl⟩:=HI.1 h;obtain⟨v1,v2,rfl,h1,h2⟩:=aC.1 hr;simp only [RepC] at h1;obtain⟨rfl,_⟩:=h1;obtain⟨ns,rfl,e2,e3⟩:=ih v2 b' hb' h2;exact⟨n::ns,by simp,by simp [e2],by simp [e3]⟩
     ·cases h
   obtain⟨ns,rfl,e2,e3⟩:=key l us b hbb g2;have hlc:(loadCells ⟨bb,o,none⟩ l.length).run P w = .ok (ns.map (II .u8)).toArray w:=by
    have:=run_loadCells_list (P:=P) w ⟨bb,o,none⟩ (ns.map (II .u8)) (fun j v hj=>by rw [HS];exact hc j v hj);rwa [List.length_map,←e3] at this
   rw [run_bytesToString w _ _ c ns hlc];congr 2
   have:∀(ns:List Int) (acc:ByteArray),ns.foldl (fun r n=>r.push (Ip n.toNat)) acc=⟨acc.data++(ns.map (fun n=>Ip n.toNat)).toArray⟩:=by
    intro ns;induction ns with
    | nil=>intro acc;simp
    | cons n ns ih =>
     intro acc;rw [IH,ih];congr 1
     simp [ByteArray.push]
   rw [this,e2];congr 1
   show #[]++b.toArray=b.toArray
   simp
 ·cases h
theorem oX {l vs:List D} {us ws:List Value} (hl:l.all D.single=true) (hv:vs.all D.single=true) (hr:bw w F l us) (hw:bw w F vs ws) (f:Nat) :
  bw w F (ci l f vs) (us.take f++ws++us.drop (f+ws.length))∧(ci l f vs).all D.single=true:=by
 have e:=(bX _ _ hv hw).1;refine⟨?_,?_⟩
 ·unfold ci
  rw [e];exact(cC _ _ _).2 ⟨_,_,rfl,(cC _ _ _).2 ⟨_,_,rfl,(hJ l us hl hr f).1,hw⟩,(hJ l us hl hr _).2⟩
 ·unfold ci
  rw [all_append,all_append,zt hl,jW hl,hv];rfl
theorem sf:∀(vs:List Value) (off k:Nat) (us:List Value),off+k+vs.length≤us.length →
  ((vs.zipIdx k).foldl (fun(cs:Array Value) (p:Value × Nat)=>cs.setIfInBounds (off+p.2) p.1) us.toArray)=(us.take (off+k)++vs++us.drop (off+k+vs.length)).toArray
 | [],off,k,us,h=>by simp
 | v::vs,off,k,us,h=>by
  simp only [IF] at h;have ih:=sf vs off (k+1) (us.set (off+k) v) (by simp;omega);simp only [List.zipIdx_cons,IH,List.setIfInBounds_toArray];rw [ih];congr 1
  have hs:us.set (off+k) v=us.take (off+k)++v::us.drop (off+k+1):=List.set_eq_take_append_cons_drop.trans (by rw [if_pos (by omega)]);have hl:(us.take (off+k)).length=off+k:=by rw [HT];omega
  rw [hs,←Iy];have e3:us.drop (off+k+(v::vs).length)=(us.drop (off+k+1)).drop vs.length:=by rw [List.drop_drop,IF];congr 1;omega
  rw [e3];generalize us.take (off+k)=p at hl;generalize us.drop (off+k+1)=r;rw [←hl,List.take_length_add_append,show p.length+1+vs.length=p.length+(vs.length+1) from by omega,List.drop_length_add_append];simp
theorem zO (place:Nat→Option (Nat × Nat)):∀(parts:List (Nat × Value)) (ps:List (Nat × Nat)) (xs cs cs':List D) (us:List Value),parts.map (fun p=>place p.1)=ps.map some→pq w F xs (parts.map (·.2))→cs.all D.single=true→bw w F cs us →
  wQ ps xs cs=some cs'→∃us',Instr.fill place us.toArray parts=some us'.toArray∧bw w F cs' us'∧cs'.all D.single=true
 | [],ps,xs,cs,cs',us,hp,hx,hs,hr,h=>by
  cases ps<;>simp at hp;cases xs with
  | cons _ _=>exact hx.elim
  | nil =>
   simp [wQ] at h;subst h;exact⟨us,rfl,hr,hs⟩
 | (i,v)::parts,ps,xs,cs,cs',us,hp,hx,hs,hr,h=>by
  cases ps with
  | nil=>simp at hp
  | cons p ps =>
  cases xs with
  | nil=>exact hx.elim
  | cons x xs =>
   obtain⟨off,n⟩:=p;simp only [HH,HE] at hp;simp only [wQ] at h;split at h
   ·rename_i hc
    obtain⟨h1,h2,h3⟩:=hc;have hxr:aQ w F x v:=hx.1.rep (by intro e;subst e;simp [D.cells,D.single] at h3);obtain⟨_,g2,g3⟩:=dk hxr (kx h3);obtain⟨p1,p2⟩:=oX hs g2 hr g3 off;have e1:=(bX _ _ g2 g3).1;have e2:=(bX _ _ hs hr).1;obtain⟨us',q1,q2,q3⟩:=zO place parts ps xs _ cs' _ hp.2 hx.2 p2 p1 h;refine⟨us',?_,q2,q3⟩
    simp only [Instr.fill,hp.1];have e3:v.cells.size=n:=by rw [←h1,←e1];simp
    rw [if_neg (by simp [e3];omega)];have hk:=sf v.cells.toList off 0 us (by rw [e1,h1];omega);simp only [Nat.add_zero] at hk;rw [←hk] at q1;rw [←q1];congr 1
    rw [←Array.foldl_toList];simp
   ·cases h
end
end Go.V

namespace Go.V
open Go.RowKit
def ai (δ:List D):List Nat→List D
 | []=>[]
 | s::ss=>nth δ s::ai δ ss
theorem dy {R:Type}:∀(δ:List D) (s:Nat) (k:D→R),ep δ s k=k (nth δ s)
 | [],_,_=>by simp [ep,nth]
 | _::_,0,_=>by simp [ep,nth]
 | _::l,s+1,k=>by simpa [ep,nth] using dy l s k
theorem xm {R:Type}:∀(δ:List D) (s:Nat) (d:D) (k:List D→R),Ad δ s d k=k (dY δ s d)
 | [],_,_,_=>by simp [Ad,dY]
 | _::_,0,_,_=>by simp [Ad,dY]
 | _::l,s+1,d,k=>by simpa [Ad,dY] using xm l s d _
theorem cq {R:Type} (δ:List D):∀(ss:List Nat) (k:List D→R),oB δ ss k=k (ai δ ss)
 | [],_=>by simp [oB,ai]
 | s::ss,k=>by simp only [oB,ai,dy];exact cq δ ss _
theorem bV {R:Type}:∀(δ:List D) (ss:List Nat) (ds:List D) (k:List D→R),cZ δ ss ds k=k (aj δ ss ds)
 | _,[],_,_=>by simp [cZ,aj]
 | δ,s::ss,[],k=>by simp only [cZ,aj,xm];exact bV _ ss [] k
 | δ,s::ss,d::ds,k=>by simp only [cZ,aj,xm];exact bV _ ss ds k
theorem iV {α:Type}:∀(a b:List α),app a b=a++b
 | [],_=>rfl
 | _::l,b=>by simp [app,iV l b]
theorem my {α β:Type} (f:α→β):∀(l:List α),jN f l=l.map f
 | []=>rfl
 | _::l=>by simp [jN,my f l]
theorem jg {α:Type}:∀(l:List α),jJ l=l.length
 | []=>rfl
 | _::l=>by simp [jJ,jg l]
theorem pr {α:Type}:∀(n:Nat) (l:List α),lh n l=l.drop n
 | 0,l=>by simp [lh]
 | n+1,[]=>by simp [lh]
 | n+1,_::l=>by simp [lh,pr n l]
theorem fp:∀(n:Nat) (l:List Nat),jS n l=decide (n∈l)
 | _,[]=>by simp [jS]
 | n,m::l=>by
  simp only [jS];cases h:HA n m
  ·have:n≠m:=fun e=>by subst e;simp at h
   simp [fp n l,this]
  ·have:n=m:=HR h
   simp [this]
theorem ph {α:Type}:∀(l:List α) (n:Nat),zq l n=l[n]?
 | [],_=>by simp [zq]
 | _::_,0=>by simp [zq]
 | _::l,n+1=>by simpa [zq] using ph l n
theorem eK:∀(l:List D) (n:Nat),nth l n=l.getD n .bad
 | [],_=>by simp [nth]
 | _::_,0=>by simp [nth]
 | _::l,n+1=>by simpa [nth] using eK l n
theorem eN:∀(δ:List D) (s:Nat) (d:D),(dY δ s d).length=δ.length
 | [],_,_=>by simp [dY]
 | _::_,0,_=>by simp [dY]
 | _::l,s+1,d=>by simp [dY,eN l s d]
theorem cB:∀(δ:List D) (ss:List Nat) (ds:List D),(aj δ ss ds).length=δ.length
 | _,[],_=>by simp [aj]
 | δ,s::ss,[]=>by simp [aj,cB _ ss,eN]
 | δ,s::ss,d::ds=>by simp [aj,cB _ ss,eN]
theorem cJ:∀(δ:List D) (s i:Nat) (d:D),s≠i→nth (dY δ i d) s=nth δ s
 | [],_,_,_,_=>by simp [dY]
 | _::_,0,0,_,h=>absurd rfl h
 | _::_,_+1,0,_,_=>by simp [nth]
 | _::_,0,_+1,_,_=>by simp [nth]
 | _::l,s+1,i+1,d,h=>by simpa [dY,nth] using cJ l s i d (by omega)
theorem bK:∀(δ:List D) (s:Nat) (d:D),nth (dY δ s d) s=if s<δ.length then d else .bad
 | [],_,_=>by simp [nth]
 | _::_,0,_=>by simp [nth]
 | _::l,s+1,d=>by simpa [dY,nth] using bK l s d
theorem aq:∀(ss:List Nat) (δ:List D) (ds:List D) (s:Nat),s∉ss→nth (aj δ ss ds) s=nth δ s
 | [],_,_,_,_=>by simp [aj]
 | i::ss,δ,[],s,h=>by
  simp only [HW,not_or] at h;simp only [aj];rw [aq ss _ _ s h.2,cJ _ _ _ _ h.1]
 | i::ss,δ,d::ds,s,h=>by
  simp only [HW,not_or] at h;simp only [aj];rw [aq ss _ _ s h.2,cJ _ _ _ _ h.1]
theorem ib:∀(ss:List Nat) (δ:List D) (s:Nat),s∈ss→nth (aj δ ss []) s = .bad
 | i::ss,δ,s,h=>by
  simp only [aj];by_cases hs:s∈ss
  ·exact ib ss _ s hs
  ·rw [aq ss _ _ s hs]
   have:s=i:=by simpa [hs] using h
   subst this;rw [bK];split<;>rfl
theorem mb:∀(ss ts:List Nat) (δ:List D) (ds:List D),ds.length=ss.length→aj δ (ss++ts) ds=aj (aj δ ss ds) ts []
 | [],ts,δ,ds,h=>by
  have:ds=[]:=Ig h;subst this;simp [aj]
 | s::ss,ts,δ,d::ds,h=>by
  simp only [IE,aj];exact mb ss ts _ ds (by simpa using h)
theorem gf:∀(ss:List Nat) (δ:List D) (s:Nat),nth (aj δ ss []) s=nth δ s∨nth (aj δ ss []) s = .bad:=by
 intro ss δ s;by_cases h:s∈ss
 ·exact .inr (ib ss δ s h)
 ·exact .inl (aq ss δ [] s h)
theorem te {r:Nat}:∀(K:List Kd) (n s:Nat),(ak K s = .via r∨ak K s = .ref r)→n+s∈dH r K n
 | [],n,s,h=>by simp [ak] at h
 | k::K,n,0,h=>by
  simp only [ak] at h;rcases h with rfl | rfl<;>simp [dH]
 | k::K,n,s+1,h=>by
  have ih:=te K (n+1) s (by simpa [ak] using h);have e:n+(s+1)=n+1+s:=by omega
  rw [e];cases k<;>simp only [dH]<;>first
   | exact ih
   | (split<;>first | exact ih | exact Ix _ ih)
theorem qM {K:List Kd} {r s:Nat} (h:ak K s = .via r∨ak K s = .ref r):∀(rs:List Nat),r∈rs→s∈bp K rs
 | q::rs,hr=>by
  simp only [bp,iV,Io];rcases HW.1 hr with rfl | hr
  ·exact .inl (by have:=te K 0 s h;simpa using this)
  ·exact .inr (qM h rs hr)
theorem zD {r:Nat}:∀(K:List Kd) (n s:Nat),s∈dH r K n→n≤s∧(ak K (s - n) = .via r∨ak K (s - n) = .ref r)
 | [],n,s,h=>by simp [dH] at h
 | k::K,n,s,h=>by
  have ih:s∈dH r K (n+1)→n≤s∧(ak (k::K) (s - n) = .via r∨ak (k::K) (s - n) = .ref r):=by
   intro hm;obtain⟨h1,h2⟩:=zD K (n+1) s hm;have e:s - n=(s - (n+1))+1:=by omega
   rw [e];exact⟨by omega,by simpa [ak] using h2⟩
  cases k<;>simp only [dH] at h<;>try exact ih h
  all_goals
   split at h
   ·rename_i hb
    have:=HR hb;subst this;rcases HW.1 h with rfl | h
    ·simp [ak]
    ·exact ih h
   ·exact ih h
theorem mx {K:List Kd} {r s:Nat} (h:s∈dH r K 0):ak K s = .via r∨ak K s = .ref r:=by simpa using (zD K 0 s h).2
theorem pD {K:List Kd} {s:Nat}:∀(rs:List Nat),s∈bp K rs→∃r∈rs,ak K s = .via r∨ak K s = .ref r
 | [],h=>by simp [bp] at h
 | r::rs,h=>by
  simp only [bp,iV,Io] at h;rcases h with h | h
  ·exact⟨r,by simp,mx h⟩
  ·obtain⟨q,hq,hk⟩:=pD rs h
   exact⟨q,by simp [hq],hk⟩
def dp (K:List Kd) (r:Nat):Prop :=
 match ak K r with
 | .own _ _ _=>True
 | .box _ _ _=>True
 | _=>False
theorem Ar {K:List Kd} {r q:Nat} (h:dp K r):r∉dH q K 0:=by
 intro hm;rcases mx hm with e | e<;>simp [dp,e] at h
theorem vF {K:List Kd} {r:Nat} (h:dp K r) (rs:List Nat):r∉bp K rs:=by
 intro hm;obtain⟨q,_,e⟩:=pD rs hm;rcases e with e | e<;>simp [dp,e] at h
theorem nN {K:List Kd} {r:Nat} (h:jm K r=true):dp K r:=by
 unfold jm at h;unfold dp;split at h<;>simp_all
def av (a:Act) (s:Nat):Value:=a.tmps.getD s undef
def FB (F:Nat→Prop) (B:Nat):Nat→Nat→Prop
 | 0,_=>False
 | 1,b=>F b∧B≤b
 | _,b=>F b
def bf (w:World) (F:Nat→Prop) (own:Nat→Prop) (z:Nat) (d:D) (y:Value):Prop :=
 ∃l,d = .arr z l∧(∀e∈l,e.width=z)∧((y = .slice none 0 0∧l=[]) ∨
  ∃g o c us cs e,y = .slice (some ⟨g,o,none⟩) l.length c∧l.length≤c∧w.heap[g]?=some (.cells cs e (0,0))∧o+c*z≤cs.size∧bw w F l us ∧
   (∀(i:Nat) (u:Value),us[i]?=some u→cs[o+i]?=some u)∧own g)
def rN (w:World) (F:Nat→Prop) (own:Nat→Prop) (n:Nat) (d:D) (y:Value):Prop :=
 ∃l us g e,d = .agg l∧y = .pointer (some ⟨g,0,none⟩)∧w.heap[g]?=some (.cells (List.toArray us) e (0,0))∧bw w F l us∧l.all D.single=true∧l.length=n∧own g
def ly (k:Kd) (y:Value) (i f:Nat) (p:Value):Prop :=
 match k with
 | .own z _ _=>∃g o n c,y = .slice (some ⟨g,o,none⟩) n c∧p = .pointer (some ⟨g,o+i*z+f,none⟩)
 | .box _ _ _=>∃g,y = .pointer (some ⟨g,0,none⟩)∧p = .pointer (some ⟨g,f,none⟩)
 | _=>False
theorem kp {K:List Kd} {r i f:Nat} {y p:Value} (h:ly (ak K r) y i f p):dp K r:=by
 unfold ly at h;unfold dp;split at h<;>simp_all
def qi (B:Nat) (F:Nat→Prop) (O:Nat→Option (Nat × Nat)) (w:World) (id:Nat × Nat) (k:Kd) (d:D) (y:Value):Prop :=
 d = .bad∨match k with
  | .dat lv=>aQ w (FB F B lv) d y
  | .own z lv io=>bf w (FB F B lv) (fun g=>O g=some id∧(io=false→B≤g)) z d y
  | .box n lv io=>rN w (FB F B lv) (fun g=>O g=some id∧(io=false→B≤g)) n d y
  | _=>False
def tD (K:List Kd) (B:Nat) (F:Nat→Prop) (O:Nat→Option (Nat × Nat)) (a:Act) (w:World) (δ:List D) (s:Nat):Prop :=
 nth δ s = .bad∨match ak K s with
  | .via r=>av a s=av a r∧nth δ s = .ref 0 0∧nth δ r ≠ .bad∧jm K r=true
  | .ref r=>∃i f,nth δ s = .ref i f∧nth δ r ≠ .bad∧ly (ak K r) (av a r) i f (av a s)
  | .tup ms=>∃l vs,nth δ s = .tup l∧av a s = .tuple vs∧∀i,qi B F O w (s,i+1) (ak ms i) (nth l i) (vs.getD i undef)
  | .no=>True
  | k=>qi B F O w (s,0) k (nth δ s) (av a s)
def gOk (G:List (Nat × (Obj→Prop))) (w:World) (F:Nat→Prop):Prop:=∀p∈G,F p.1∧∃o,w.heap[p.1]?=some o∧p.2 o
theorem zp {G:List (Nat × (Obj→Prop))} {w w':World} {F F':Nat→Prop} (hF:∀b,F b→F' b) (hw:∀b,F b→w'.heap[b]?=w.heap[b]?) (h:gOk G w F):gOk G w' F':=fun p hp=>by
 obtain⟨h1,o,h2,h3⟩:=h p hp;exact⟨hF _ h1,o,(hw _ h1).trans h2,h3⟩
theorem eP {w:World} {F:Nat→Prop}:gOk [] w F:=fun p hp=>by cases hp
structure Inv (c:Cx) (B:Nat) (X:Nat→Prop) (w0:World) (F0 F:Nat→Prop) (O:Nat→Option (Nat × Nat)) (a:Act) (w:World) (δ:List D):Prop where
 la:a.tmps.size=c.K.length
 ld:δ.length=c.K.length
 df:a.defers=[]
 slot:∀s,tD c.K B F O a w δ s
 fl:∀b,F b→b<w.heap.size∧O b=none
 ol:∀b p,O b=some p→b<w.heap.size∧(B≤b∨X b)
 f0:∀b,F0 b→F b
 fn:∀b,F b→F0 b∨B≤b
 bb:B≤w.heap.size
 os:w.os=w0.os
 tape:w.tape=w0.tape
 output:w.output=w0.output
 keep:∀b,b<B→¬X b→w.heap[b]?=w0.heap[b]?
 gl:gOk c.G w F
theorem gN {F F':Nat→Prop} {B lv:Nat} (h:∀b,F b→F' b):∀b,FB F B lv b→FB F' B lv b:=by
 intro b hb;unfold FB at *;split at hb<;>simp_all
theorem dF {F:Nat→Prop} {B lv:Nat}:∀b,FB F B lv b→F b:=by
 intro b hb;unfold FB at *;split at hb<;>simp_all
theorem iu {F:Nat→Prop} {B lv lv':Nat} (h:lv≤lv'):∀b,FB F B lv b→FB F B lv' b:=by
 intro b hb
 match lv,lv',h with
 | 0,_,_=>exact hb.elim
 | 1,1,_=>exact hb
 | 1,n+2,_=>exact hb.1
 | m+2,n+2,_=>exact hb
theorem Cz {w w':World} {F F':Nat→Prop} {own own':Nat→Prop} {z:Nat} {d:D} {y:Value} (hF:∀b,F b→F' b) (hw:∀b,F b→w'.heap[b]?=w.heap[b]?)
  (ho:∀g,own g→own' g∧w'.heap[g]?=w.heap[g]?) (h:bf w F own z d y):bf w' F' own' z d y:=by
 obtain⟨l,h1,h2,h3⟩:=h;refine⟨l,h1,h2,?_⟩
 rcases h3 with h3 | ⟨g,o,c,us,cs,e,a1,a2,a3,a4,a5,a6,a7⟩
 ·exact .inl h3
 ·exact .inr ⟨g,o,c,us,cs,e,a1,a2,(ho g a7).2.trans a3,a4,aX hF hw _ _ a5,a6,(ho g a7).1⟩
theorem qm {w w':World} {F F':Nat→Prop} {own own':Nat→Prop} {n:Nat} {d:D} {y:Value} (hF:∀b,F b→F' b) (hw:∀b,F b→w'.heap[b]?=w.heap[b]?)
  (ho:∀g,own g→own' g∧w'.heap[g]?=w.heap[g]?) (h:rN w F own n d y):rN w' F' own' n d y:=by
 obtain⟨l,us,g,e,a1,a2,a3,a4,a5,a6,a7⟩:=h;exact⟨l,us,g,e,a1,a2,(ho g a7).2.trans a3,aX hF hw _ _ a4,a5,a6,(ho g a7).1⟩
theorem qD {B:Nat} {w w':World} {F F':Nat→Prop} {O O':Nat→Option (Nat × Nat)} {id id':Nat × Nat} {k:Kd} {d:D} {y:Value} (hF:∀b,F b→F' b) (hw:∀b,F b→w'.heap[b]?=w.heap[b]?)
  (ho:∀g,O g=some id→O' g=some id'∧w'.heap[g]?=w.heap[g]?) (h:qi B F O w id k d y):qi B F' O' w' id' k d y:=by
 rcases h with h | h
 ·exact .inl h
 ·refine .inr ?_
  cases k
  case dat lv=>exact aI (gN hF) (fun b hb=>hw b (dF b hb)) h
  case own z lv io=>exact Cz (gN hF) (fun b hb=>hw b (dF b hb)) (fun g hg=>⟨⟨(ho g hg.1).1,hg.2⟩,(ho g hg.1).2⟩) h
  case box n lv io=>exact qm (gN hF) (fun b hb=>hw b (dF b hb)) (fun g hg=>⟨⟨(ho g hg.1).1,hg.2⟩,(ho g hg.1).2⟩) h
  all_goals exact h
theorem Inv.step {c:Cx} {B:Nat} {X:Nat→Prop} {w0:World} {F0 F F':Nat→Prop} {O O':Nat→Option (Nat × Nat)} {a a':Act} {w w':World} {δ δ':List D}
  (h:Inv c B X w0 F0 F O a w δ) (U:Nat→Prop) (la:a'.tmps.size=a.tmps.size) (ld:δ'.length=δ.length) (df:a'.defers=a.defers)
  (hs:∀s,¬U s→av a' s=av a s∧(nth δ' s=nth δ s∨nth δ' s = .bad))
  (hF:∀b,F b→F' b) (hw:∀b,F b→w'.heap[b]?=w.heap[b]?)
  (ho:∀b p,O b=some p→¬U p.1→O' b=some p∧w'.heap[b]?=w.heap[b]?)
  (hd:∀s r,¬U s→(ak c.K s = .via r∨ak c.K s = .ref r)→nth δ' s ≠ .bad→av a' r=av a r∧nth δ' r ≠ .bad)
  (hU:∀s,U s→tD c.K B F' O' a' w' δ' s)
  (fl:∀b,F' b→b<w'.heap.size∧O' b=none) (ol:∀b p,O' b=some p→b<w'.heap.size∧(B≤b∨X b)) (fn:∀b,F' b→F b∨B≤b) (sz:w.heap.size≤w'.heap.size)
  (os:w'.os=w.os) (tape:w'.tape=w.tape) (output:w'.output=w.output) (keep:∀b,b<B→¬X b→w'.heap[b]?=w.heap[b]?):Inv c B X w0 F0 F' O' a' w' δ':=by
 refine⟨la.trans h.la,ld.trans h.ld,df.trans h.df,fun s=>?_,fl,ol,fun b hb=>hF b (h.f0 b hb),fun b hb=>?_,Nat.le_trans h.bb sz,os.trans h.os,tape.trans h.tape,output.trans h.output,fun b h1 h2=>(keep b h1 h2).trans (h.keep b h1 h2),zp hF hw h.gl⟩
 ·by_cases hu:U s
  ·exact hU s hu
  ·obtain⟨e1,e2⟩:=hs s hu
   rcases e2 with e2 | e2
   case inr=>exact .inl e2
   by_cases hb:nth δ s = .bad
   ·exact .inl (e2.trans hb)
   have hb':nth δ' s ≠ .bad:=by rw [e2];exact hb
   have h0:=(h.slot s).resolve_left hb;refine .inr ?_
   have lone:∀(k:Kd) (i:Nat) (d:D) (y:Value),qi B F O w (s,i) k d y→qi B F' O' w' (s,i) k d y:=fun k i d y hl=>qD hF hw (fun g hg=>ho g _ hg hu) hl
   have hdd:=hd s;rw [e1,e2];generalize hk:ak c.K s=k at h0 hdd;cases k
   case via r =>
    obtain⟨b1,b2,b3,b4⟩:=h0;obtain⟨d1,d2⟩:=hdd r hu (.inl rfl) hb';exact⟨b1.trans d1.symm,b2,d2,b4⟩
   case ref r =>
    obtain⟨i,f,b1,b2,b3⟩:=h0;obtain⟨d1,d2⟩:=hdd r hu (.inr rfl) hb';exact⟨i,f,b1,d2,by rw [d1];exact b3⟩
   case tup ms =>
    obtain⟨l,vs,b1,b2,b3⟩:=h0;exact⟨l,vs,b1,b2,fun i=>lone _ _ _ _ (b3 i)⟩
   case no=>trivial
   all_goals exact lone _ _ _ _ h0
 ·rcases fn b hb with hb | hb
  ·exact h.fn b hb
  ·exact .inr hb
theorem DB {a:Act} {d s:Nat} {v:Value}:av (a.put (some d) v) s=if s=d∧d<a.tmps.size then v else av a s:=by
 simp only [av,Act.put,Array.getD_eq_getD_getElem?,Array.getElem?_setIfInBounds];by_cases hs:d=s
 ·subst hs
  by_cases hd:d<a.tmps.size
  ·simp [hd]
  ·simp [hd]
 ·simp [hs,Ne.symm hs]
theorem cj {a:Act} {d s:Nat} {v:Value} (h:s≠d):av (a.put (some d) v) s=av a s:=by rw [DB,if_neg (by simp [h])]
theorem dz {a:Act} {d:Nat} {v:Value} (h:d<a.tmps.size):av (a.put (some d) v) d=v:=by rw [DB,if_pos ⟨rfl,h⟩]
theorem gj {a:Act} {d:Nat} {v:Value}:(a.put (some d) v).tmps.size=a.tmps.size:=by simp [Act.put]
theorem Inv.root {c:Cx} {B:Nat} {X:Nat→Prop} {w0:World} {F0 F:Nat→Prop} {O:Nat→Option (Nat × Nat)} {a:Act} {w:World} {δ:List D}
  (h:Inv c B X w0 F0 F O a w δ) {s r:Nat} (hv:ak c.K s = .via r∨ak c.K s = .ref r) (hb:nth δ s ≠ .bad):dp c.K r∧nth δ r ≠ .bad:=by
 have h0:=(h.slot s).resolve_left hb;rcases hv with hv | hv<;>rw [hv] at h0
 ·exact⟨nN h0.2.2.2,h0.2.2.1⟩
 ·obtain⟨_,_,_,h2,h3⟩:=h0
  exact⟨kp h3,h2⟩
def wj (K:List Kd) (B:Nat) (F:Nat→Prop) (a:Act) (w:World) (δ:List D) (d:Nat) (z:D) (y:Value):Prop :=
 z = .bad∨match ak K d with
  | .dat lv=>aQ w (FB F B lv) z y
  | .via r=>y=av a r∧z = .ref 0 0∧nth δ r ≠ .bad∧jm K r=true
  | .ref r=>∃i f,z = .ref i f∧nth δ r ≠ .bad∧ly (ak K r) (av a r) i f y
  | .no=>True
  | _=>False
theorem Inv.put {c:Cx} {B:Nat} {X:Nat→Prop} {w0:World} {F0 F:Nat→Prop} {O:Nat→Option (Nat × Nat)} {a:Act} {w:World} {δ:List D}
  (h:Inv c B X w0 F0 F O a w δ) {d:Nat} {z:D} {y:Value} (hk:wj c.K B F a w δ d z y) :
  Inv c B X w0 F0 F O (a.put (some d) y) w (aj δ (d::dH d c.K 0) [z]):=by
 have e0:aj δ (d::dH d c.K 0) [z]=aj (dY δ d z) (dH d c.K 0) []:=by simp [aj]
 rw [e0];have keepr:∀r,dp c.K r→r≠d→nth (aj (dY δ d z) (dH d c.K 0) []) r=nth δ r:=fun r hr hd=>by
  rw [aq _ _ _ _ (Ar hr),cJ _ _ _ _ hd]
 refine h.step (fun s=>s=d) gj (by rw [cB,eN]) rfl (fun s hs=>⟨cj hs,?_⟩) (fun _ hb=>hb) (fun _ _=>rfl) (fun _ _ h _=>⟨h,rfl⟩) (fun s r hs hv hb=>?_) (fun s hs=>?_) h.fl h.ol (fun _ hb=>.inl hb) (Ii _) rfl rfl rfl (fun _ _ _=>rfl)
 ·rcases gf (dH d c.K 0) (dY δ d z) s with e | e
  ·exact .inl (e.trans (cJ _ _ _ _ hs))
  ·exact .inr e
 ·by_cases hr:r=d
  ·subst hr
   exact absurd (ib _ _ _ (by have:=te c.K 0 s hv;simpa using this)) hb
  ·refine⟨cj hr,?_⟩
   have hs':s∉dH d c.K 0:=fun hm=>hb (ib _ _ _ hm)
   rw [aq _ _ _ _ hs',cJ _ _ _ _ hs] at hb;obtain⟨h1,h2⟩:=h.root hv hb;rw [keepr r h1 hr];exact h2
 ·subst hs
  by_cases hdl:s<c.K.length
  case neg =>
   refine .inl ?_
   rcases gf (dH s c.K 0) (dY δ s z) s with e | e
   ·rw [e,bK,if_neg (by rw [h.ld];exact hdl)]
   ·exact e
  have hav:av (a.put (some s) y) s=y:=dz (by rw [h.la];exact hdl);rcases gf (dH s c.K 0) (dY δ s z) s with e | e
  case inr=>exact .inl e
  have ez:nth (aj (dY δ s z) (dH s c.K 0) []) s=z:=by rw [e,bK,if_pos (by rw [h.ld];exact hdl)]
  rcases hk with hk | hk
  ·exact .inl (ez.trans hk)
  ·refine .inr ?_
   rw [ez,hav];generalize hks:ak c.K s=k at hk;have hne:∀r,dp c.K r→(∀z lv io,k ≠ .own z lv io)→(∀n lv io,k ≠ .box n lv io)→r≠s:=by
    intro r hr h1 h2 e;subst e;unfold dp at hr;rw [hks] at hr;cases k
    case own z lv io=>exact h1 _ _ _ rfl
    case box n lv io=>exact h2 _ _ _ rfl
    all_goals exact hr
   cases k
   case dat lv=>exact .inr hk
   case via r =>
    obtain⟨b1,b2,b3,b4⟩:=hk;have hr:=hne r (nN b4) (by intros;simp) (by intros;simp);exact⟨by rw [cj hr];exact b1,b2,by rw [keepr r (nN b4) hr];exact b3,b4⟩
   case ref r =>
    obtain⟨i,f,b1,b2,b3⟩:=hk;have hr:=hne r (kp b3) (by intros;simp) (by intros;simp);exact⟨i,f,b1,by rw [keepr r (kp b3) hr];exact b2,by rw [cj hr];exact b3⟩
   case no=>trivial
   all_goals exact hk.elim
theorem Inv.forget {c:Cx} {B:Nat} {X:Nat→Prop} {w0:World} {F0 F:Nat→Prop} {O:Nat→Option (Nat × Nat)} {a:Act} {w:World} {δ δ':List D}
  (h:Inv c B X w0 F0 F O a w δ) (hl:δ'.length=δ.length) (hs:∀s,nth δ' s=nth δ s∨nth δ' s = .bad) (hr:∀s r,(ak c.K s = .via r∨ak c.K s = .ref r)→nth δ' s ≠ .bad→nth δ' r ≠ .bad):Inv c B X w0 F0 F O a w δ' :=
 h.step (fun _=>False) rfl hl rfl (fun s _=>⟨rfl,hs s⟩) (fun _ hb=>hb) (fun _ _=>rfl) (fun _ _ h _=>⟨h,rfl⟩) (fun s r _ hv hb=>⟨rfl,hr s r hv hb⟩) (fun _ h=>h.elim) h.fl h.ol (fun _ hb=>.inl hb) (Ii _) rfl rfl rfl (fun _ _ _=>rfl)
theorem Inv.dat {c:Cx} {B:Nat} {X:Nat→Prop} {w0:World} {F0 F:Nat→Prop} {O:Nat→Option (Nat × Nat)} {a:Act} {w:World} {δ:List D}
  (h:Inv c B X w0 F0 F O a w δ) {s lv:Nat} (hk:ak c.K s = .dat lv):bU w (FB F B lv) (nth δ s) (av a s):=by
 rcases h.slot s with hb | h0
 ·exact .inl hb
 ·rw [hk] at h0
  exact h0
def cT (c:Cx) (A:Ac) (δ:List D) (k:List D→Option Out):Option Out :=
 match A with
 | .one rd d h=>(h (ai δ rd)).bind fun z=>k (aj δ (d::dH d c.K 0) [z])
 | .many rd hw cw fn=>fn (ai δ rd) fun outs=>k (aj δ (hw++(cw++bp c.K hw)) outs)
def Next (c:Cx) (B:Nat) (X:Nat→Prop) (w0:World) (F0:Nat→Prop) (k:List D→Option Out) (r:Out) (a:Act) (w:World):Prop :=
 ∃F O δ,Inv c B X w0 F0 F O a w δ∧k δ=some r
section
variable {P:Program} {c:Cx} {B:Nat} {X:Nat→Prop} {w0:World} {F0 F:Nat→Prop} {O:Nat→Option (Nat × Nat)} {a:Act} {w:World} {δ:List D}
theorem ce:∀(xs:List Operand),cU xs (ai δ (kn xs))=xs.map (opD δ)
 | []=>rfl
 | .tmp t::xs=>by simp [cU,ai,opD,ce xs]
 | .const v::xs=>by simp [cU,kn,opD,ce xs]
 | .func f::xs=>by simp [cU,kn,opD,ce xs]
 | .global g::xs=>by simp [cU,kn,opD,ce xs]
theorem rW (a b:Nat):Df a b=max a b:=by
 unfold Df;cases h:HG a b
 ·have:¬a≤b:=fun hl=>by rw [Nat.ble_eq_true_of_le hl] at h;cases h
  simp only;omega
 ·have:=Nat.le_of_ble_eq_true h
  simp only;omega
theorem bM {a b:Nat}:HG a b=true↔a≤b:=⟨Nat.le_of_ble_eq_true,Nat.ble_eq_true_of_le⟩
theorem aM {a b:Nat}:HA a b=true↔a=b:=⟨HR,fun h=>by subst h;simp⟩
theorem iO {K:List Kd} {n:Nat}:∀{xs:List Operand},iy K xs≤n→∀x∈xs,cW K x≤n
 | [],_,x,hx=>by simp at hx
 | y::ys,h,x,hx=>by
  simp only [iy,rW] at h;rcases HW.1 hx with rfl | hx
  ·omega
  ·exact iO (by omega) x hx
theorem ch (a:Act) (t:Nat):a.eval (.tmp t)=av a t:=rfl
theorem Inv.opd (h:Inv c B X w0 F0 F O a w δ) {x:Operand} (hx:cW c.K x≤2):bU w (FB F B (cW c.K x)) (opD δ x) (a.eval x):=by
 cases x with
 | tmp t =>
  simp only [cW] at hx ⊢;split at hx
  ·rename_i lv hk
   exact h.dat hk
  ·omega
 | const v =>
  simp only [cW] at hx ⊢;split at hx
  case h_2=>omega
  rename_i hv;refine .inr ?_
  simp only [opD,Act.eval];unfold okC at hv;split at hv<;>first
   | (cases hv;done)
   | exact sL
   | exact hY rfl
 | func f =>
  refine .inr ?_
  simp only [Act.eval,aQ,RepC];exact⟨[],rfl,aP.2 rfl⟩
 | global g=>simp only [cW] at hx;omega
theorem zS {o:Oper} {y:Value} {K:Act→World→Prop} {Q:Exit→Act→World→Prop} {w':World} (hr:(execOp a.eval o).run P w = .ok (.value y) w') (hK:K (a.put o.dst y) w'):o.wp P a w K Q:=by
 unfold Oper.wp;rw [hr];exact hK
theorem Em {o:Oper} {K:Act→World→Prop} {Q:Exit→Act→World→Prop} {w':World} (hr:(execOp a.eval o).run P w = .ok .skip w') (hK:K (a.put o.dst undef) w'):o.wp P a w K Q:=by
 unfold Oper.wp;rw [hr];exact hK
theorem bY {o:Oper} {rd:List Nat} {d:Nat} {h:List D→Option D} (hI:Inv c B X w0 F0 F O a w δ) (hd:o.dst=some d) {k:List D→Option Out} {r:Out} (hg:cT c (.one rd d h) δ k=some r)
  (hrun:∀z,h (ai δ rd)=some z→∃y,(execOp a.eval o).run P w = .ok (.value y) w∧wj c.K B F a w δ d z y) (Q:Exit→Act→World→Prop):o.wp P a w (Next c B X w0 F0 k r) Q:=by
 simp only [cT] at hg;obtain⟨z,hz,hk⟩:=HN.1 hg;obtain⟨y,hy,hp⟩:=hrun z hz;exact zS hy ⟨F,O,_,by rw [hd];exact hI.put hp,hk⟩
theorem eQ {lv lv':Nat} (hl:lv≤lv') {z:D} {y:Value} (h:bU w (FB F B lv) z y):bU w (FB F B lv') z y:=h.imp id fun h=>aI (iu hl) (fun _ _=>rfl) h
theorem aY {o:Oper} {xs:List Operand} {lv:Nat} {h:List D→Option D} {A:Ac} (hA:bG c o.dst xs lv h=some A) (hI:Inv c B X w0 F0 F O a w δ) {k:List D→Option Out} {r:Out} (hg:cT c A δ k=some r)
  (hrun:(∀x∈xs,cW c.K x≤2∧bU w (FB F B (cW c.K x)) (opD δ x) (a.eval x))→∀z,h (xs.map (opD δ))=some z→∃y,(execOp a.eval o).run P w = .ok (.value y) w∧bU w (FB F B lv) z y) (Q:Exit→Act→World→Prop):o.wp P a w (Next c B X w0 F0 k r) Q:=by
 unfold bG at hA;split at hA
 ·cases hA
 rename_i d hd;split at hA
 case h_2=>cases hA
 rename_i l hk;split at hA
 ·cases hA
 rename_i hlv;rw [bM] at hlv;have hops:∀x∈xs,cW c.K x≤2∧bU w (FB F B (cW c.K x)) (opD δ x) (a.eval x):=fun x hx=>⟨iO hlv x hx,hI.opd (iO hlv x hx)⟩
 have putOk:∀z y,bU w (FB F B l) z y→wj c.K B F a w δ d z y:=fun z y hz=>hz.imp id fun hz=>by rw [hk];exact hz
 split at hA
 ·rename_i hle
  rw [bM] at hle;cases hA;refine bY hI hd hg (fun z hz=>?_) Q
  rw [ce] at hz;obtain⟨y,h1,h2⟩:=hrun hops z hz;exact⟨y,h1,putOk z y (eQ hle h2)⟩
 ·split at hA
  case h_2=>cases hA
  cases hA;refine bY hI hd hg (fun z hz=>?_) Q
  rw [ce] at hz;obtain⟨z',hz',hc⟩:=HN.1 hz;obtain⟨y,h1,h2⟩:=hrun hops z' hz';unfold bB at hc;split at hc
  case isFalse=>cases hc
  rename_i hv;cases hc;refine⟨y,h1,putOk z y (.inr (kr hv (h2.rep ?_)))⟩
  intro e;subst e;simp [D.isV] at hv
theorem cO {o:Oper} {s:Sem Value} {y:Value} {w':World} (he:execOp a.eval o=(do pure (.value (←s)))) (hs:s.run P w = .ok y w'):(execOp a.eval o).run P w = .ok (.value y) w':=by
 rw [he];simp [hs]
theorem gO {v:Value} (h:flat v=true) {G:Nat→Prop} {z:D} (hz:z = .v v):bU w G z v:=.inr (hz ▸ hY h)
theorem bC {h:D→Option D} {l:List D} {z:D} (e:ex h l=some z):∃a,l=[a]∧h a=some z:=by
 unfold ex at e;split at e
 ·exact⟨_,rfl,e⟩
 ·cases e
theorem fJ {h:D→D→Option D} {l:List D} {z:D} (e:rM h l=some z):∃a b,l=[a,b]∧h a b=some z:=by
 unfold rM at e;split at e
 ·exact⟨_,_,rfl,e⟩
 ·cases e
theorem wB {h:D→D→D→Option D} {l:List D} {z:D} (e:Ff h l=some z):∃a b x,l=[a,b,x]∧h a b x=some z:=by
 unfold Ff at e;split at e
 ·exact⟨_,_,_,rfl,e⟩
 ·cases e
def fZ (P:Program) (c:Cx) (o:Oper):Prop :=
 ∀(A:Ac),cb c o=some A→∀(B:Nat) (X:Nat→Prop) (w0:World) (F0 F:Nat→Prop) (O:Nat→Option (Nat × Nat)) (a:Act) (w:World) (δ:List D),Inv c B X w0 F0 F O a w δ →
  ∀(k:List D→Option Out) (r:Out),cT c A δ k=some r→∀Q,o.wp P a w (Next c B X w0 F0 k r) Q
theorem ay {t:Nat} {f:TI→Option Ac} {A:Ac} (h:dK c t f=some A):∃i,dl c.T t=some i∧f i=some A:=by
 unfold dK at h;split at h
 ·exact⟨_,‹_›,h⟩
 ·cases h
theorem tok (hT:okT P c.T=true) {t:Nat} {i:TI} (h:dl c.T t=some i):TOk P t i:=sg (Ei hT h)
theorem AE {o:Oper} {q x y:Operand} (ho:o.op = .pick q x y):fZ P c o:=by
 intro A hA B X w0 F0 F O a w δ hI k r hg Q;simp only [cb,ho] at hA;refine aY hA hI hg (fun hx z hz=>?_) Q
 obtain⟨d1,d2,d3,e,hz⟩:=wB hz;simp only [HH,HL,HE,and_true] at e;obtain⟨rfl,rfl,rfl⟩:=e;have h1:=(hx q (by simp)).2;have h2:=(hx x (by simp)).2;have h3:=(hx y (by simp)).2;rw [rW];obtain⟨v,hv,hr⟩:=DL (P:=P) h1 (eQ (Nat.le_max_left _ (cW c.K y)) h2) (eQ (Nat.le_max_right (cW c.K x) _) h3) hz;refine⟨v,?_,hr⟩
 simp only [execOp,ho];simp only [HD,HJ] at hv ⊢;cases hb:(asBool (a.eval q)).run P w with
 | halt s t=>rw [hb] at hv;simp at hv
 | ok b w' =>
  rw [hb] at hv;simp only [HB,Result.ok.injEq] at hv ⊢;exact⟨by rw [hv.1],hv.2⟩
theorem zN (hT:okT P c.T=true) {o:Oper} {op:BinOp} {t t':Nat} {x y:Operand} (ho:o.op = .binOp op t x y t'):fZ P c o:=by
 intro A hA B X w0 F0 F O a w δ hI k r hg Q;simp only [cb,ho] at hA;obtain⟨i,hi,hA⟩:=ay hA;split at hA
 ·rename_i hif
  refine aY hA hI hg (fun hx z hz=>?_) Q
  obtain⟨d1,d2,e,hz⟩:=fJ hz;simp only [HH,HL,HE,and_true] at e;obtain⟨rfl,rfl⟩:=e;obtain⟨v,hv,hr,hf⟩:=DS (P:=P) (tok hT hi) hif x y (fun hn=>by
   unfold Dg at hn;split at hn
   ·exact⟨_,rfl⟩
   ·cases hn) (hx x (by simp)).2 (hx y (by simp)).2 hz
  exact⟨v,cO (by simp only [execOp,ho]) hv,gO hf hr⟩
 split at hA
 ·rename_i hsl hny
  refine aY hA hI hg (fun hx z hz=>?_) Q
  obtain⟨d1,d2,e,hz⟩:=fJ hz;simp only [HH,HL,HE,and_true] at e;obtain⟨rfl,rfl⟩:=e;have ey:y = .const (.slice none 0 0):=by
   unfold EO at hny;split at hny
   ·rfl
   ·cases hny
  have ev:a.eval y = .slice none 0 0:=by rw [ey];rfl
  obtain⟨v,hv,hr,hf⟩:=DC (P:=P) (tok hT hi) hsl x y (hx x (by simp)).2 hz;rw [←ev] at hv;exact⟨v,cO (by simp only [execOp,ho]) hv,gO hf hr⟩
 refine aY hA hI hg (fun hx z hz=>?_) Q
 obtain⟨d1,d2,e,hz⟩:=fJ hz;simp only [HH,HL,HE,and_true] at e;obtain⟨rfl,rfl⟩:=e;obtain⟨v,hv,hr,hf⟩:=FA (P:=P) (tok hT hi) x y (hx x (by simp)).2 (hx y (by simp)).2 hz;exact⟨v,cO (by simp only [execOp,ho]) hv,gO hf hr⟩
theorem zX {o:Oper} {op:UnOp} {t:Nat} {x:Operand} (ho:o.op = .unOp op t x):fZ P c o:=by
 intro A hA B X w0 F0 F O a w δ hI k r hg Q;simp only [cb,ho] at hA;refine aY hA hI hg (fun hx z hz=>?_) Q
 obtain⟨d1,e,hz⟩:=bC hz;simp only [HH,HL,HE,and_true] at e;subst e;obtain⟨v,hv,hr,hf⟩:=Gq (P:=P) (hx x (by simp)).2 hz;exact⟨v,cO (by simp only [execOp,ho]) hv,gO hf hr⟩
theorem kR {i ti:TI} {f off:Nat} (h:po c i f=some (off,ti)):∃ty,i.fs[f]?=some (off,ty)∧dl c.T ty=some ti:=by
 unfold po at h;split at h
 ·rename_i o ty hf
  split at h
  ·rename_i j hj
   simp at h;obtain⟨rfl,rfl⟩:=h;rw [ph] at hf;exact⟨ty,hf,hj⟩
  ·cases h
 ·cases h
theorem yK (hT:okT P c.T=true) {o:Oper} {t f:Nat} {x:Operand} (ho:o.op = .field t x f):fZ P c o:=by
 intro A hA B X w0 F0 F O a w δ hI k r hg Q;simp only [cb,ho] at hA;obtain⟨i,hi,hA⟩:=ay hA;split at hA
 case h_2=>cases hA
 rename_i off ti hf;obtain⟨ty,hf,hti⟩:=kR hf;refine aY hA hI hg (fun hx z hz=>?_) Q
 obtain⟨d1,e,hz⟩:=bC hz;simp only [HH,HL,HE,and_true] at e;subst e;obtain⟨y,hy,hr⟩:=EY (tok hT hi) (tok hT hti) hf (hx x (by simp)).2 hz;exact⟨y,cO (by simp only [execOp,ho]) hy,.inr hr⟩
theorem ye (hT:okT P c.T=true) {o:Oper} {t:Nat} {x y:Operand} (ho:o.op = .index t x y):fZ P c o:=by
 intro A hA B X w0 F0 F O a w δ hI k r hg Q;simp only [cb,ho] at hA;obtain⟨i,hi,hA⟩:=ay hA;unfold Fc at hA;split at hA
 ·rename_i hs
  refine aY hA hI hg (fun hx z hz=>?_) Q
  obtain⟨d1,d2,e,hz⟩:=fJ hz;simp only [HH,HL,HE,and_true] at e;obtain⟨rfl,rfl⟩:=e;obtain⟨v,hv,hr,hf⟩:=Eh (P:=P) (tok hT hi) hs (hx x (by simp)).2 (hx y (by simp)).2 hz;exact⟨v,cO (by simp only [execOp,ho]) hv,gO hf hr⟩
 ·split at hA
  ·cases hA
  ·rename_i n hn
   obtain⟨e',he,hA⟩:=ay hA;refine aY hA hI hg (fun hx z hz=>?_) Q
   obtain⟨d1,d2,e,hz⟩:=fJ hz;simp only [HH,HL,HE,and_true] at e;obtain⟨rfl,rfl⟩:=e;obtain⟨v,hv,hr⟩:=FF (P:=P) (tok hT hi) (tok hT he) (by intro h0;exact hn h0) rfl (hx x (by simp)).2 (hx y (by simp)).2 hz;exact⟨v,cO (by simp only [execOp,ho]) hv,.inr hr⟩
theorem sA {o:Oper} {f:Nat} {u v:Array Operand} (ho:o.op = .makeFunc (.func f) u v):fZ P c o:=by
 intro A hA B X w0 F0 F O a w δ hI k r hg Q;simp only [cb,ho] at hA;split at hA
 case h_3=>cases hA
 case h_2 =>
  rename_i x0 xs h1 h2;refine aY hA hI hg (fun hx z hz=>?_) Q
  have e1:u=#[]:=by simpa using h1
  subst e1;unfold Hc at hz;split at hz
  case isFalse=>cases hz
  rename_i hall;cases hz;refine⟨.func (.func f) #[] (v.map a.eval),cO (s:=Instr.makeFunc (.func f) #[] (v.map a.eval)) (by simp [execOp,ho]) rfl,.inr ?_⟩
  simp only [aQ,RepC];refine⟨(x0::xs).map a.eval,?_,?_⟩
  ·have:v=(x0::xs).toArray:=by rw [←h2]
   rw [this];simp
  ·have key:∀ys:List Operand,(∀y∈ys,y∈x0::xs)→(ys.map (opD δ)).all D.single=true→bw w (FB F B (iy c.K (x0::xs))) (ys.map (opD δ)) (ys.map a.eval):=by
    intro ys;induction ys with
    | nil=>intro _ _;exact aP.2 rfl
    | cons y ys ih =>
     intro hm hs;simp only [HH,Ic,HC] at hs;have h3:=(hx y (hm y (by simp))).2;have hne:opD δ y ≠ .bad:=fun e=>by rw [e] at hs;simp [D.single] at hs
     have h4:=h3.rep hne;rw [fQ hs.1] at h4;exact aC.2 ⟨[a.eval y],ys.map a.eval,rfl,RepC_mono (iu (iO (Ii _) y (hm y (by simp)))) (fun _ _=>rfl) _ _ h4,ih (fun z hz=>hm z (by simp [hz])) hs.2⟩
   exact key (x0::xs) (fun _ h=>h) hall
 rename_i h1 h2;refine aY hA hI hg (fun hx z hz=>?_) Q
 simp at hz;subst hz;have e1:u=#[]:=by simpa using h1
 have e2:v=#[]:=by simpa using h2
 subst e1 e2;refine⟨.func (.func f) #[] #[],cO (s:=Instr.makeFunc (.func f) #[] #[]) (by simp [execOp,ho]) rfl,.inr ?_⟩
 simp only [aQ,RepC];exact⟨[],rfl,aP.2 rfl⟩
theorem qe {K:List Kd} {t:Nat} {rd:List Nat} {lv:Nat} {r:Option Nat} (h:iZ K (.tmp t)=some (rd,lv,r)) :
  (ak K t = .dat lv∧rd=[t]∧r=none)∨(∃z io,ak K t = .own z lv io∧rd=[t]∧r=some t)∨(∃q z io,ak K t = .via q∧ak K q = .own z lv io∧rd=[t,q]∧r=some q):=by
 simp only [iZ] at h;split at h
 ·rename_i l hk
  simp at h;obtain⟨rfl,rfl,rfl⟩:=h;exact .inl ⟨hk,rfl,rfl⟩
 ·rename_i z l io hk
  simp at h;obtain⟨rfl,rfl,rfl⟩:=h;exact .inr (.inl ⟨z,io,hk,rfl,rfl⟩)
 ·rename_i q hk
  split at h
  ·rename_i z l io hq
   simp at h;obtain⟨rfl,rfl,rfl⟩:=h;exact .inr (.inr ⟨q,z,io,hk,hq,rfl,rfl⟩)
  ·cases h
 ·cases h
theorem ie {w:World} {F:Nat→Prop} {own:Nat→Prop} {z:Nat} {d:D} {y:Value} (h:bf w F own z d y):aQ w (fun b=>F b∨own b) d y:=by
 obtain⟨l,rfl,h2,h3⟩:=h;simp only [aQ,RepC];rcases h3 with ⟨rfl,rfl⟩ | ⟨g,o,c,us,cs,e,rfl,a2,a3,a4,a5,a6,a7⟩
 ·exact⟨none,0,[],rfl,Ii _,aP.2 rfl,h2,fun h=>absurd rfl h⟩
 ·refine⟨_,c,us,rfl,a2,aX (fun b hb=>.inl hb) (fun _ _=>rfl) _ _ a5,h2,fun _=>⟨g,o,rfl,.inr a7,fun i u hu=>?_⟩⟩
  simp [World.cell?,a3,a6 i u hu]
theorem Inv.own (h:Inv c B X w0 F0 F O a w δ) {s z lv:Nat} {io:Bool} (hk:ak c.K s = .own z lv io) (hb:nth δ s ≠ .bad):bf w (FB F B lv) (fun g=>O g=some (s,0)∧(io=false→B≤g)) z (nth δ s) (av a s):=by
 have h0:=(h.slot s).resolve_left hb;rw [hk] at h0;exact h0.resolve_left hb
theorem Inv.box (h:Inv c B X w0 F0 F O a w δ) {s n lv:Nat} {io:Bool} (hk:ak c.K s = .box n lv io) (hb:nth δ s ≠ .bad):rN w (FB F B lv) (fun g=>O g=some (s,0)∧(io=false→B≤g)) n (nth δ s) (av a s):=by
 have h0:=(h.slot s).resolve_left hb;rw [hk] at h0;exact h0.resolve_left hb
theorem Inv.via (h:Inv c B X w0 F0 F O a w δ) {s q:Nat} (hk:ak c.K s = .via q) (hb:nth δ s ≠ .bad):av a s=av a q∧nth δ s = .ref 0 0∧nth δ q ≠ .bad∧jm c.K q=true:=by
 have h0:=(h.slot s).resolve_left hb;rw [hk] at h0;exact h0
theorem Inv.ref (h:Inv c B X w0 F0 F O a w δ) {s q:Nat} (hk:ak c.K s = .ref q) (hb:nth δ s ≠ .bad):∃i f,nth δ s = .ref i f∧nth δ q ≠ .bad∧ly (ak c.K q) (av a q) i f (av a s):=by
 have h0:=(h.slot s).resolve_left hb;rw [hk] at h0;exact h0
theorem bF {p x y:D} (h:ae p x=some y):p ≠ .bad∧x=y:=by
 unfold ae at h;split at h
 ·cases h
 ·rename_i hp
  simp at h;exact⟨hp,h⟩
theorem DN {k:Kd} {y p:Value} {i f:Nat} (h:ly k y i f p):∃g o,p = .pointer (some ⟨g,o,none⟩):=by
 unfold ly at h;split at h
 ·obtain⟨g,o,n,cc,_,e⟩:=h;exact⟨g,_,e⟩
 ·obtain⟨g,_,e⟩:=h;exact⟨g,_,e⟩
 ·exact h.elim
theorem tN {o:Oper} {x:Operand} (ho:o.op = .nilCheck x):fZ P c o:=by
 intro A hA B X w0 F0 F O a w δ hI k r hg Q;simp only [cb,ho] at hA;have dat:bG c o.dst [x] (cW c.K x) (ex DU)=some A→o.wp P a w (Next c B X w0 F0 k r) Q:=by
  intro hA;refine aY hA hI hg (fun hx z hz=>?_) Q
  obtain⟨d1,e,hz⟩:=bC hz;simp only [HH,HL,HE,and_true] at e;subst e;obtain⟨h1,h2⟩:=EV (P:=P) (hx x (by simp)).2 hz o x a.eval ho rfl;exact⟨_,h1,.inr h2⟩
 have run:∀t g o',x = .tmp t→av a t = .pointer (some ⟨g,o',none⟩)→(execOp a.eval o).run P w = .ok (.value (av a t)) w:=by
  intro t g o' hx hv;subst hx;simp [execOp,ho,ch,hv]
 unfold Fr at hA;split at hA
 ·rename_i t
  split at hA
  ·rename_i n lv io hk
   split at hA
   ·cases hA
   rename_i d hd;split at hA
   case h_2=>cases hA
   rename_i rr hkd;split at hA
   case h_2=>cases hA
   rename_i hrt;rw [aM] at hrt;subst hrt;cases hA;refine bY hI hd hg (fun z hz=>?_) Q
   obtain⟨d1,e,hz⟩:=bC hz;simp only [ai,HE,and_true] at e;subst e;obtain⟨h1,rfl⟩:=bF hz;obtain⟨m,us,g,e,_,a1,_⟩:=hI.box hk h1;refine⟨_,run _ g 0 rfl a1,.inr ?_⟩
   rw [hkd];refine⟨0,0,rfl,h1,?_⟩
   rw [hk];exact⟨g,a1,a1⟩
  ·rename_i rr hk
   split at hA
   ·cases hA
   rename_i d hd;split at hA
   case h_2=>cases hA
   rename_i r' hkd;split at hA
   case h_2=>cases hA
   rename_i hrt;rw [aM] at hrt;subst hrt;cases hA;refine bY hI hd hg (fun z hz=>?_) Q
   obtain⟨d1,e,hz⟩:=bC hz;simp only [ai,HE,and_true] at e;subst e;obtain⟨h1,rfl⟩:=bF hz;obtain⟨ii,ff,g1,g2,g3⟩:=hI.ref hk h1;obtain⟨g,o',e⟩:=DN g3;refine⟨_,run _ g o' rfl e,.inr ?_⟩
   rw [hkd];exact⟨ii,ff,g1,g2,g3⟩
  ·exact dat hA
 ·exact dat hA
theorem mH (hI:Inv c B X w0 F0 F O a w δ) {t:Nat} {rd:List Nat} {lv:Nat} {q:Option Nat} (h:iZ c.K (.tmp t)=some (rd,lv,q)) {d:D}
  (hd:(match rd with
   | [_]=>some (nth (ai δ rd) 0)
   | _=>ae (nth (ai δ rd) 0) (nth (ai δ rd) 1))=some d):∃G,bU w G d (av a t):=by
 rcases qe h with ⟨hk,rfl,rfl⟩ | ⟨z,io,hk,rfl,rfl⟩ | ⟨s,z,io,hk,hs,rfl,rfl⟩
 ·simp [ai,nth] at hd
  subst hd;exact⟨_,hI.dat hk⟩
 ·simp [ai,nth] at hd
  subst hd;by_cases hb:nth δ t = .bad
  ·exact⟨fun _=>True,.inl hb⟩
  ·exact⟨_,.inr (ie (hI.own hk hb))⟩
 ·simp only [ai,nth] at hd
  obtain⟨h1,rfl⟩:=bF hd;obtain⟨g1,g2,g3,g4⟩:=hI.via hk h1;rw [g1];exact⟨_,.inr (ie (hI.own hs g3))⟩
theorem tj (hT:okT P c.T=true) {o:Oper} {x:Operand} {t:Nat} {str:Bool} (ho:o.op = .call {callee:=.builtin .len,args:=#[x],argTypes:=#[t]}) {i:TI} (hi:dl c.T t=some i)
  (hs:str=false→iG i=true) (hs':str=true→i.str=true) {A:Ac} (hA:Cn c o.dst str x=some A) (hI:Inv c B X w0 F0 F O a w δ) {k:List D→Option Out} {r:Out} (hg:cT c A δ k=some r) (Q:Exit→Act→World→Prop):o.wp P a w (Next c B X w0 F0 k r) Q:=by
 have run:∀(G:Nat→Prop) (d z:D),bU w G d (a.eval x)→lenD str d=some z→∃v,(execOp a.eval o).run P w = .ok (.value v) w∧z = .v v∧flat v=true:=by
  intro G d z hd hz;obtain⟨v,h1,h2,h3⟩:=ER (P:=P) (t:=t) (ty:=o.type) hd (fun h=>⟨_,(iH (tok hT hi) (hs h)).1⟩) (fun h=>((tok hT hi).str (hs' h)).1) hz;refine⟨v,?_,h2,h3⟩
  simp only [execOp,ho,resolve,invoke,builtin,HD,HJ,HB,List.map_toArray,HH,HL,h1]
 have dat:∀A',bG c o.dst [x] 0 (ex (lenD str))=some A'→cT c A' δ k=some r→o.wp P a w (Next c B X w0 F0 k r) Q:=by
  intro A' hA' hg';refine aY hA' hI hg' (fun hx z hz=>?_) Q
  obtain⟨d1,e,hz⟩:=bC hz;simp only [HH,HL,HE,and_true] at e;subst e;obtain⟨v,h1,h2,h3⟩:=run _ _ z (hx x (by simp)).2 hz;exact⟨v,h1,gO h3 h2⟩
 unfold Cn at hA;split at hA
 ·rename_i t'
  split at hA
  ·exact dat A hA hg
  ·split at hA
   case h_2=>cases hA
   rename_i d rd lv q hd hsrc;split at hA
   case h_2=>cases hA
   rename_i lv' hk;cases hA;refine bY hI hd hg (fun z hz=>?_) Q
   have key:∃G dd,bU w G dd (av a t')∧lenD str dd=some z:=by
    have hsrc':=hsrc;rcases qe hsrc' with ⟨h1,rfl,rfl⟩ | ⟨_,_,h1,rfl,rfl⟩ | ⟨s,_,_,h1,h2,rfl,rfl⟩
    ·obtain⟨G,hG⟩:=mH hI hsrc (d:=nth δ t') (by simp [ai,nth])
     exact⟨G,_,hG,by simpa [ai,nth] using hz⟩
    ·obtain⟨G,hG⟩:=mH hI hsrc (d:=nth δ t') (by simp [ai,nth])
     exact⟨G,_,hG,by simpa [ai,nth] using hz⟩
    ·simp only [ai,nth] at hz
     obtain⟨dd,e1,e2⟩:=HN.1 hz;obtain⟨G,hG⟩:=mH hI hsrc (d:=dd) (by simpa [ai,nth] using e1);exact⟨G,dd,hG,e2⟩
   obtain⟨G,dd,h1,h2⟩:=key;obtain⟨v,e1,e2,e3⟩:=run G dd z h1 h2;exact⟨v,e1,(gO (G:=FB F B lv') e3 e2).imp id fun h=>by rw [hk];exact h⟩
 ·exact dat A hA hg
end
end Go.V

end
