/-
  A part of the proof: contracts and plain forms of functions beneath the statement, made small by a program (names shortened, what is not needed left out).
-/
import Derived.Test.YtccaheogjpfhjaaGreatRows
import Derived.WalkKit
import Derived.MapKept
open Nat renaming beq → ZE, ble → ZH, succ → ZV, eq_of_beq_eq_true → aaa, add_assoc → aav, lt_or_ge → aaA, le_refl → aaC
open Go.Result renaming andThen_ok → ZF
open Bool renaming and_eq_true → ZG, not_eq_true' → ZK, false_eq_true → ZW, not_true → aaw
open Go.Sem renaming run_bind → ZI, run_pure → ZM
open Option renaming map_eq_some_iff → ZJ, isSome_iff_exists → aah, bind_eq_some_iff → aak
open List renaming getElem?_eq_some_iff → ZL, mem_of_mem_take → ZN, length_take → ZQ, all_eq_true → ZR, drop_eq_nil_of_le → ZX, mem_cons → ZZ, mem_of_mem_drop → aab, eq_nil_of_length_eq_zero → aac, all_cons → aae, length_drop → aaj, nil_append → aal, mem_append → aam, take_of_length_le → aap, take_append_drop → aat, mem_cons_of_mem → aau, getElem?_drop → aaz, cons_append → aaE, length_cons → aaF, foldl_cons → aaG
open Go.Op renaming equalIn → ZO, equal → ZS, maxDepth → ZY, bytesLess → aag, eqFields → aaq, intArith → aar, stringOp → aaD
open Go.Addr renaming add_lit → ZP
open Go.Instr renaming indexAt → ZT, sureAddr → aad, loadAt → aai, index → aas, fieldAt → aax, sliceAt → aaH
open List.cons renaming injEq → ZU
open Option.some renaming injEq → aaf
open UInt8 renaming ofNat → aan
open Go.Value renaming cells → aao, int → aay
open Go.Builtin renaming len_ → aaB, min2 → aaJ, max2 → aaK
open Go.Program renaming elem → aaI
set_option maxRecDepth 100000
set_option linter.unusedSimpArgs false
set_option linter.unusedVariables false
noncomputable section
namespace Go.V
set_option maxRecDepth 100000
inductive D where
 | v (x:Value)
 | arr (z:Nat) (l:List D)
 | agg (l:List D)
 | ptr (l:List D)
 | clo (f:Nat) (l:List D)
 | ifc
 | raw (x:Value)
 | tup (l:List D)
 | ref (i f:Nat)
 | bad
 | itr (s:ByteArray) (p:Nat)
 | mp (l:List (Int × Bool))
 deriving Inhabited
abbrev B (b:Bool):D:=.v (.bool b)
abbrev I (n:Int):D:=.v (.int .i64 n)
abbrev U (n:Int):D:=.v (.int .u8 n)
abbrev T (s:ByteArray):D:=.v (.string s)
inductive Out where
 | nrm (δ:List D)
 | ext (id:Nat) (δ:List D)
 | ret (rs us:List D)
structure TI where
 agg:Bool:=false
 n:Nat:=1
 zero:List D:=[]
 elem:Nat:=0
 ez:Nat:=0
 eb:Nat:=0
 fs:List (Nat × Nat):=[]
 alen:Nat:=0
 eq:List Nat:=[]
 ik:Option IntKind:=none
 str:Bool:=false
 bl:Bool:=false
 ifc:Bool:=false
 mp:Bool:=false
inductive Kd where
 | dat (lv:Nat)
 | own (z lv:Nat) (io:Bool)
 | box (n lv:Nat) (io:Bool)
 | via (r:Nat)
 | ref (r:Nat)
 | tup (l:List Kd)
 | no
 | itr
 | mpo
structure FS where
 pm:List Kd
 rm:List Kd
 f:List D→Option Out
structure Cx where
 K:List Kd
 T:List (Nat × TI)
 S:List (Nat × FS)
 H:List (Nat × (List Nat × List Nat)):=[]
 res:List ResultVar
 ios:List Nat:=[]
 G:List (Nat × (Obj→Prop)):=[]
 N:List Nat:=[]
 C:List (Nat × Nat):=[]
section small
@[reducible] def Oj {α:Type}:List α→Nat→Option α
 | [],_=>none
 | a::_,0=>some a
 | _::l,n+1=>Oj l n
@[reducible] def nth:List D→Nat→D
 | [],_=>.bad
 | a::_,0=>a
 | _::l,n+1=>nth l n
@[reducible] def aq:List Kd→Nat→Kd
 | [],_=>.no
 | a::_,0=>a
 | _::l,n+1=>aq l n
@[reducible] def gS:List D→Nat→D→List D
 | [],_,_=>[]
 | _::l,0,b=>b::l
 | a::l,n+1,b=>a::gS l n b
@[reducible] def dr {α:Type}:List (Nat × α)→Nat→Option α
 | [],_=>none
 | (k,a)::l,n=>match ZE k n with
  | true=>some a
  | false=>dr l n
@[reducible] def app {α:Type}:List α→List α→List α
 | [],b=>b
 | a::l,b=>a::app l b
@[reducible] def qC {α β:Type} (f:α→β):List α→List β
 | []=>[]
 | a::l=>f a::qC f l
@[reducible] def aj:List D→List Nat→List D→List D
 | δ,[],_=>δ
 | δ,s::ss,[]=>aj (gS δ s .bad) ss []
 | δ,s::ss,d::ds=>aj (gS δ s d) ss ds
@[reducible] def eV {R:Type}:List D→Nat→(D→R)→R
 | [],_,k=>k .bad
 | a::_,0,k=>k a
 | _::l,n+1,k=>eV l n k
@[reducible] def Ph {R:Type}:List D→Nat→D→(List D→R)→R
 | [],_,_,k=>k []
 | _::l,0,b,k=>k (b::l)
 | a::l,n+1,b,k=>Ph l n b fun l'=>k (a::l')
@[reducible] def qc {R:Type} (δ:List D):List Nat→(List D→R)→R
 | [],k=>k []
 | s::ss,k=>eV δ s fun a=>qc δ ss fun l=>k (a::l)
@[reducible] def dR {R:Type}:List D→List Nat→List D→(List D→R)→R
 | δ,[],_,k=>k δ
 | δ,s::ss,[],k=>Ph δ s .bad fun δ=>dR δ ss [] k
 | δ,s::ss,d::ds,k=>Ph δ s d fun δ=>dR δ ss ds k
@[reducible] def lF:Nat→List Nat→Bool
 | _,[]=>false
 | n,m::l=>match ZE n m with
  | true=>true
  | false=>lF n l
end small
def D.cells:D→List D
 | .agg l=>l
 | d=>[d]
def D.single:D→Bool
 | .v _ | .arr .. | .ptr _ | .clo .. | .ifc | .raw _ | .mp _=>true
 | _=>false
def D.width (d:D):Nat:=d.cells.length
def D.isV:D→Bool
 | .v _=>true
 | .agg l=>l.all fun | .v _=>true | _=>false
 | _=>false
def flat:Value→Bool
 | .bool _ | .int .. | .string _ | .nilFunc | .nilIface | .pointer none=>true
 | .slice none 0 0=>true
 | _=>false
def jX (op:BinOp) (k:IntKind) (a b:Int):Option D :=
 match op with
 | .add=>some (.v (.int k (k.wrap (a+b))))
 | .sub=>some (.v (.int k (k.wrap (a - b))))
 | .mul=>some (.v (.int k (k.wrap (a*b))))
 | .quo=>if b=0 then none else some (.v (.int k (k.wrap (a.tdiv b))))
 | .rem=>if b=0 then none else some (.v (.int k (a.tmod b)))
 | .and | .or | .xor | .andNot=>some (.v (.int k (bits op k a b)))
 | .eql=>some (B (a==b))
 | .neq=>some (B (a != b))
 | .lss=>some (B (a<b))
 | .leq=>some (B (a≤b))
 | .gtr=>some (B (a>b))
 | .geq=>some (B (a≥b))
 | .shl | .shr=>none
def yD (op:BinOp) (a b:ByteArray):Option D :=
 match op with
 | .add=>if a.size+b.size≤1152921504606846976 then some (T (a++b)) else none
 | .eql=>some (B (a.toList==b.toList))
 | .neq=>some (B !(a.toList==b.toList))
 | .lss=>some (B (aag a.toList b.toList))
 | .leq=>some (B (aag a.toList b.toList||a.toList==b.toList))
 | .gtr=>some (B !(aag a.toList b.toList||a.toList==b.toList))
 | .geq=>some (B !(aag a.toList b.toList))
 | _=>none
def tW:List Nat→List D→List D→Option Bool
 | [],[],[]=>some true
 | 1::c,.v (.int k a)::l,.v (.int k' b)::m=>if k=k' then(tW c l m).map (a==b&&·) else none
 | 2::c,.v (.bool a)::l,.v (.bool b)::m=>(tW c l m).map (a==b&&·)
 | 3::c,.v (.string a)::l,.v (.string b)::m=>(tW c l m).map (a.toList==b.toList&&·)
 | _,_,_=>none
def bin (op:BinOp) (bl:Bool) (eq:List Nat) (x y:D):Option D :=
 match op,x,y with
 | .shl,.v (.int k a),.v (.int _ b)=>if 0≤b then some (.v (.int k (k.wrap (a*2 ^ min b.toNat k.bits)))) else none
 | .shr,.v (.int k a),.v (.int _ b)=>if 0≤b then some (.v (.int k (a.fdiv (2 ^ min b.toNat k.bits)))) else none
 | op,.v (.int k a),.v (.int k' b)=>if k=k' then jX op k a b else none
 | op,.v (.string a),.v (.string b)=>yD op a b
 | .eql,.v (.bool a),.v (.bool b)=>if bl then some (B (a==b)) else none
 | .neq,.v (.bool a),.v (.bool b)=>if bl then some (B !(a==b)) else none
 | .eql,.agg a,.agg b=>if eq=[] then none else(tW eq a b).map B
 | .neq,.agg a,.agg b=>if eq=[] then none else(tW eq a b).map fun q=>B !q
 | _,_,_=>none
def Yk (nc:Bool) (op:BinOp) (x y:D):Option D :=
 match op,x,y with
 | .eql,.ifc,.v .nilIface=>some (B false)
 | .neq,.ifc,.v .nilIface=>some (B true)
 | .eql,.v .nilIface,.v .nilIface=>if nc then some (B true) else none
 | .neq,.v .nilIface,.v .nilIface=>if nc then some (B false) else none
 | _,_,_=>none
def Yl (op:BinOp) (x:D):Option D :=
 match op,x with
 | .eql,.v (.slice none 0 0)=>some (B true)
 | .neq,.v (.slice none 0 0)=>some (B false)
 | .eql,.arr _ (_::_)=>some (B false)
 | .neq,.arr _ (_::_)=>some (B true)
 | _,_=>none
def un (op:UnOp) (x:D):Option D :=
 match op,x with
 | .neg,.v (.int k n)=>some (.v (.int k (k.wrap (0 - n))))
 | .not,.v (.bool b)=>some (B !b)
 | _,_=>none
def aU (c a b:D):Option D :=
 match c with
 | .v (.bool true)=>some a
 | .v (.bool false)=>some b
 | _=>none
def lenD (str:Bool) (x:D):Option D :=
 match str,x with
 | false,.arr _ l=>some (I l.length)
 | true,.v (.string s)=>some (I s.size)
 | _,_=>none
def aI (z:Nat) (x i:D):Option (List D) :=
 match x,i with
 | .arr z' l,.v (.int _ n)=>if z'=z∧0≤n then(l[n.toNat]?).map D.cells else none
 | _,_=>none
def au (ag:Bool) (n:Nat) (l:List D):Option D :=
 if ag then(if n≤l.length then some (.agg (l.take n)) else none) else l.head?
def Ay (x i:D):Option D :=
 match x,i with
 | .v (.string s),.v (.int _ n)=>if 0≤n then(s.data.toList[n.toNat]?).map fun b=>U b.toNat else none
 | _,_=>none
def eT (str:Bool) (z:Nat) (x lo hi:D):Option D :=
 match str,x,lo,hi with
 | false,.arr z' l,.v (.int _ a),.v (.int _ b)=>if z'=z∧0≤a∧a≤b∧b≤l.length then some (.arr z ((l.take b.toNat).drop a.toNat)) else none
 | true,.v (.string s),.v (.int _ a),.v (.int _ b)=>if 0≤a∧a≤b∧b≤s.size then some (T (s.extract a.toNat b.toNat)) else none
 | _,_,_,_=>none
def bq (d:D):Option D:=if d.isV then some d else none
def bY (z eb:Nat) (x y:D):Option D :=
 match x,y with
 | .arr a l,.arr b m=>if (a=z∨l=[])∧(b=z∨m=[])∧(l.length+m.length)*eb≤140737488355328∧l.length+m.length≤1152921504606846976 then some (.arr z (l++m)) else none
 | _,_=>none
abbrev Y:Kd:=.dat 0
abbrev Yb:Kd:=.dat 1
abbrev Yc:Kd:=.dat 2
abbrev Yo (z l:Nat):Kd:=.own z l false
abbrev Yr (r:Nat):Kd:=.ref r
end Go.V

namespace Go.V
set_option maxRecDepth 100000
inductive Ac where
 | one (rd:List Nat) (d:Nat) (h:List D→Option D)
 | many (rd hw cw:List Nat) (fn:List D→(List D→Option Out)→Option Out)
def ifD (c:D) (t e:Option Out):Option Out :=
 match c with
 | .v (.bool true)=>t
 | .v (.bool false)=>e
 | _=>none
def af (v:D) (g:D) (pol:Bool) (r:Option D):Option D :=
 match g with
 | .v (.bool b)=>if b=pol then r else some v
 | .tup _=>some v
 | _=>none
def bX (g:D) (pol:Bool) (r:Option Out) (alt:List D) (k:List D→Option Out):Option Out :=
 match g with
 | .v (.bool b)=>if b=pol then(match r with
  | some (.nrm l)=>k l
  | _=>none) else k alt
 | .tup _=>k alt
 | _=>none
def callK (r:Option Out) (k:List D→List D→Option Out):Option Out :=
 match r with
 | some (.ret rs us)=>k rs us
 | _=>none
def ba (ag:Bool) (n off:Nat) (d:D):Option D :=
 match d with
 | .agg l=>au ag n (l.drop off)
 | _=>none
def ldD (ag:Bool) (n:Nat) (d:D):Option D :=
 match d with
 | .ptr l=>au ag n l
 | _=>none
def vW (off:Nat) (d:D):Option D :=
 match d with
 | .ptr l=>some (.ptr (l.drop off))
 | _=>none
def atD (o r:D):Option (List D) :=
 match o,r with
 | .arr _ l,.ref i f=>(l[i]?).map fun d=>d.cells.drop f
 | .agg l,.ref _ f=>some (l.drop f)
 | _,_=>none
def D.ofCells (old:D) (cs:List D):D :=
 match old,cs with
 | .agg _,cs=>.agg cs
 | _,c::_=>c
 | d,[]=>d
def dL (l:List D) (f:Nat) (vs:List D):List D:=l.take f++vs++l.drop (f+vs.length)
def stD (n:Nat) (o r x:D):Option D :=
 match o,r with
 | .arr z l,.ref i f=>match l[i]? with
  | some d=>if x.cells.length=n∧f+n≤d.width∧x.cells.all D.single then some (.arr z (l.set i (d.ofCells (dL d.cells f x.cells)))) else none
  | none=>none
 | .agg l,.ref _ f=>if x.cells.length=n∧f+n≤l.length∧x.cells.all D.single then some (.agg (dL l f x.cells)) else none
 | _,_=>none
def dE (z:Nat) (o i:D):Option D :=
 match o,i with
 | .arr z' l,.v (.int _ n)=>if z'=z∧0≤n∧n<l.length then some (.ref n.toNat 0) else none
 | _,_=>none
def aa (d:D) (x:D):Option D :=
 match d with
 | .bad=>none
 | _=>some x
def eA (z n:Nat) (l:List D):Bool:=l.all fun d=>d.width==z&&(d.single||(match d with | .agg c=>c.all D.single | _=>false))&&decide (l.length=n)
def ay (z:Nat) (l:List D):Option D:=if eA z l.length l then some (.arr z l) else none
def Nj (z eb:Nat) (x:D) (n c:D):Option D :=
 match n,c with
 | .v (.int _ a),.v (.int _ b)=>if 0≤a∧a≤b∧b*(eb:Int)≤140737488355328∧b≤140737488355328 then some (.arr z (List.replicate a.toNat x)) else none
 | _,_=>none
def bE (n:Nat) (x:D):Option D:=if x.cells.length=n∧x.cells.all D.single then some (.agg x.cells) else none
def YS (y:D):Option D :=
 match y with
 | .agg l=>some (.ptr l)
 | _=>none
def Zc (f:Nat) (ds:List D):Option D:=if ds.all D.single then some (.clo f ds) else none
def Xi (f n:Nat) (cl:D):Option (List D) :=
 match cl with
 | .clo g l=>if g=f∧l.length=n∧l.all D.single then some l else none
 | _=>none
def aF (t:D) (i:Nat):Option D :=
 match t with
 | .tup l=>match l[i]? with
  | some .bad=>none
  | some (.tup _)=>none
  | r=>r
 | _=>none
def cv (t:D) (i:Nat):D :=
 match t with
 | .tup l=>.tup (l.set i .bad)
 | d=>d
@[reducible] def yR:Value→D
 | .slice _ _ _=>.arr 0 []
 | v=>.v v
@[reducible] def okC:Value→Bool
 | .slice none 0 0=>true
 | .bool _=>true
 | .int _ _=>true
 | .string _=>true
 | .nilFunc=>true
 | .nilIface=>true
 | .pointer none=>true
 | _=>false
@[reducible] def nh:List Operand→List Nat
 | []=>[]
 | .tmp t::xs=>t::nh xs
 | _::xs=>nh xs
@[reducible] def dO:List Operand→List D→List D
 | [],_=>[]
 | .tmp _::xs,i::is=>i::dO xs is
 | .tmp _::xs,[]=>.bad::dO xs []
 | .const c::xs,is=>yR c::dO xs is
 | .func f::xs,is=>.clo f []::dO xs is
 | .global _::xs,is=>.bad::dO xs is
@[reducible] def opD (δ:List D):Operand→D
 | .tmp t=>nth δ t
 | .const c=>yR c
 | .func f=>.clo f []
 | .global _=>.bad
@[reducible] def It (a b:Nat):Nat:=match ZH a b with
 | true=>b
 | false=>a
@[reducible] def eF (K:List Kd):Operand→Nat
 | .tmp t=>match aq K t with
  | .dat lv=>lv
  | _=>9
 | .const v=>match okC v with
  | true=>0
  | false=>9
 | .func _=>0
 | .global _=>9
@[reducible] def lB (K:List Kd):List Operand→Nat
 | []=>0
 | x::xs=>It (eF K x) (lB K xs)
@[reducible] def bT (c:Cx) (dst:Option Nat) (xs:List Operand) (lv:Nat) (h:List D→Option D):Option Ac :=
 match dst with
 | none=>none
 | some d=>match aq c.K d with
  | .dat l=>match ZH (lB c.K xs) 2 with
   | false=>none
   | true=>match ZH lv l with
    | true=>some (.one (nh xs) d fun is=>h (dO xs is))
    | false=>match ZE l 0 with
     | true=>some (.one (nh xs) d fun is=>(h (dO xs is)).bind bq)
     | false=>none
  | _=>none
@[reducible] def fE (c:Cx) (t:Nat) (f:TI→Option Ac):Option Ac:=match dr c.T t with
 | some i=>f i
 | none=>none
@[reducible] def AM (c:Cx) (i:TI) (f:Nat):Option (Nat × TI):=match Oj i.fs f with
 | some (off,ty)=>match dr c.T ty with
  | some j=>some (off,j)
  | none=>none
 | none=>none
@[reducible] def fQ (h:D→Option D):List D→Option D
 | [a]=>h a
 | _=>none
@[reducible] def BA (h:D→D→Option D):List D→Option D
 | [a,b]=>h a b
 | _=>none
@[reducible] def SZ (h:D→D→D→Option D):List D→Option D
 | [a,b,x]=>h a b x
 | _=>none
@[reducible] def fv (r:Nat):List Kd→Nat→List Nat
 | [],_=>[]
 | .via q::K,s=>match ZE q r with
  | true=>s::fv r K (ZV s)
  | false=>fv r K (ZV s)
 | .ref q::K,s=>match ZE q r with
  | true=>s::fv r K (ZV s)
  | false=>fv r K (ZV s)
 | _::K,s=>fv r K (ZV s)
@[reducible] def aY (K:List Kd):List Nat→List Nat
 | []=>[]
 | r::rs=>app (fv r K 0) (aY K rs)
set_option maxRecDepth 100000
def pN (ik:Option IntKind) (str:Bool) (x:D):Option D :=
 match ik,str,x with
 | some k,_,.v (.int _ n)=>some (.v (.int k (k.wrap n)))
 | none,true,.v (.string s)=>some (T s)
 | _,_,_=>none
def Su (x:D):Option D :=
 match x with
 | .v (.int _ n)=>some (T (Utf8.encode n))
 | _=>none
def pO:List D→Option (List UInt8)
 | []=>some []
 | .v (.int .u8 n)::l=>(pO l).map (aan n.toNat::·)
 | _=>none
def LN (x:D):Option D :=
 match x with
 | .arr _ l=>(pO l).map fun b=>T ⟨b.toArray⟩
 | _=>none
def QW (x y:D):Option D :=
 match x,y with
 | .v (.int k a),.v (.int _ b)=>some (.v (.int k (if b<a then b else a)))
 | _,_=>none
def RG (x y:D):Option D :=
 match x,y with
 | .v (.int k a),.v (.int _ b)=>some (.v (.int k (if a<b then b else a)))
 | _,_=>none
def TO (x:D):Option D :=
 match x with
 | .ptr l=>some (.ptr l)
 | .clo f l=>some (.clo f l)
 | _=>none
def cW (off:Nat) (r:D):Option D :=
 match r with
 | .ref i f=>some (.ref i (f+off))
 | _=>none
def bn (r x:D):Option D :=
 match r with
 | .ref 0 0=>some x
 | _=>none
def ixD (len z:Nat) (x i:D):Option D :=
 match x,i with
 | .ptr l,.v (.int _ n)=>if 0≤n∧n<len then some (.ptr (l.drop (n.toNat*z))) else none
 | _,_=>none
def ixA (ag:Bool) (len z:Nat) (x i:D):Option D :=
 match x,i with
 | .agg l,.v (.int _ n)=>if 0≤n∧n<len then au ag z (l.drop (n.toNat*z)) else none
 | _,_=>none
def NN (len z:Nat) (r i:D):Option D :=
 match r,i with
 | .ref j f,.v (.int _ n)=>if 0≤n∧n<len then some (.ref j (f+n.toNat*z)) else none
 | _,_=>none
def iG:List (Nat × Nat)→List D→List D→Option (List D)
 | (off,n)::ps,x::xs,cs=>if x.cells.length=n∧off+n≤cs.length∧x.cells.all D.single then iG ps xs (dL cs off x.cells) else none
 | [],[],cs=>some cs
 | _,_,_=>none
def cO (ps:List (Nat × Nat)) (z:List D) (xs:List D):Option D:=(iG ps xs z).map .agg
def fw (str:Bool) (z:Nat) (x lo:D):Option D :=
 match str,x,lo with
 | false,.arr z' l,.v (.int _ a)=>if z'=z∧0≤a∧a≤l.length then some (.arr z (l.drop a.toNat)) else none
 | true,.v (.string s),.v (.int _ a)=>if 0≤a∧a≤s.size then some (T (s.extract a.toNat s.size)) else none
 | _,_,_=>none
@[reducible] def Dy (e:TI):D :=
 match e.agg with
 | true=>.agg e.zero
 | false=>match e.zero with
  | v::_=>v
  | []=>.bad
@[reducible] def im:List Kd→List Kd→Bool
 | [],[]=>true
 | .dat a::l,.dat b::m=>match ZE a b with
  | true=>im l m
  | false=>false
 | .own z a false::l,.own y b false::m=>match ZE a b,ZE z y with
  | true,true=>im l m
  | _,_=>false
 | _,_=>false
@[reducible] def Le (c:Cx) (dst:Option Nat) (x:Operand) (ty:Nat):Option Ac :=
 match x with
 | .tmp t=>match aq c.K t with
  | .own z lv io=>match dst with
   | none=>none
   | some d=>match aq c.K d with
    | .via r=>match ZE r t with
     | true=>some (.one [t] d fun is=>(fQ fun x=>aa x (.ref 0 0)) is)
     | false=>none
    | .own z' lv' false=>match io,ZE z z',ZH lv lv' with
     | false,true,true=>some (.many [t] [d,t] [] fun is k=>eV is 0 fun x=>k [x,.bad])
     | _,_,_=>none
    | .dat lv'=>match io,ZH 1 lv',ZH lv lv' with
     | false,true,true=>some (.many [t] [d,t] [] fun is k=>eV is 0 fun x=>k [x,.bad])
     | _,_,_=>none
    | _=>none
  | .via r=>match dst with
   | none=>none
   | some d=>match aq c.K r with
    | .own z lv io=>match aq c.K d with
     | .via r'=>match ZE r r' with
      | true=>some (.one [t] d fun is=>(fQ fun x=>aa x (.ref 0 0)) is)
      | false=>none
     | .own z' lv' false=>match io,ZE z z',ZH lv lv' with
      | false,true,true=>some (.many [t,r] [d,r] [] fun is k=>eV is 0 fun p=>eV is 1 fun x=>(aa p x).bind fun y=>k [y,.bad])
      | _,_,_=>none
     | .dat lv'=>match io,ZH 1 lv',ZH lv lv' with
      | false,true,true=>some (.many [t,r] [d,r] [] fun is k=>eV is 0 fun p=>eV is 1 fun x=>(aa p x).bind fun y=>k [y,.bad])
      | _,_,_=>none
     | _=>none
    | .mpo=>match aq c.K d with
     | .via r'=>match ZE r r' with
      | true=>some (.one [t] d fun is=>(fQ fun x=>aa x (.ref 0 0)) is)
      | false=>none
     | .mpo=>some (.many [t,r] [d,r] [] fun is k=>eV is 0 fun p=>eV is 1 fun x=>(aa p x).bind fun y=>k [y,.bad])
     | .dat lv'=>match ZH 1 lv' with
      | true=>some (.many [t,r] [d,r] [] fun is k=>eV is 0 fun p=>eV is 1 fun x=>(aa p x).bind fun y=>k [y,.bad])
      | false=>none
     | _=>none
    | _=>none
  | .box _ _ _=>match dst with
   | none=>none
   | some d=>match aq c.K d with
    | .ref r=>match ZE r t with
     | true=>some (.one [t] d fun is=>(fQ fun x=>aa x (.ref 0 0)) is)
     | false=>none
    | _=>none
  | .ref r=>match dst with
   | none=>none
   | some d=>match aq c.K d with
    | .ref r'=>match ZE r r' with
     | true=>some (.one [t] d fun is=>(fQ fun x=>aa x x) is)
     | false=>none
    | _=>none
  | .mpo=>match dst with
   | none=>none
   | some d=>match aq c.K d with
    | .via r=>match ZE r t with
     | true=>some (.one [t] d fun is=>(fQ fun x=>aa x (.ref 0 0)) is)
     | false=>none
    | .mpo=>some (.many [t] [d,t] [] fun is k=>eV is 0 fun x=>k [x,.bad])
    | .dat lv=>match ZH 1 lv with
     | true=>some (.many [t] [d,t] [] fun is k=>eV is 0 fun x=>k [x,.bad])
     | false=>none
    | _=>none
  | .dat lv=>bT c dst [x] lv (fQ some)
  | .tup ms=>match dst with
   | none=>none
   | some d=>match aq c.K d with
    | .tup ns=>match im ms ns,ZE d t with
     | true,false=>some (.many [t] [d,t] [] fun is k=>eV is 0 fun x=>k [x,.bad])
     | _,_=>none
    | _=>none
  | _=>none
 | .const (.slice none 0 0)=>match dst with
  | none=>none
  | some d=>match aq c.K d with
   | .own z _ false=>some (.many [] [d] [] fun _ k=>k [.arr z []])
   | .dat _=>match lF d c.N with
    | true=>bT c dst [x] 0 (fun _=>some (.v (.slice none 0 0)))
    | false=>fE c ty fun i=>bT c dst [x] 0 (fun _=>some (.arr i.ez []))
   | _=>none
 | .const (.map none)=>match dst with
  | none=>none
  | some d=>match aq c.K d with
   | .dat _=>bT c dst [] 0 (fun _=>some (.mp []))
   | _=>none
 | x=>bT c dst [x] (eF c.K x) (fQ some)
@[reducible] def Ws {α β:Type} (f:α→β):Option α→Option β
 | none=>none
 | some a=>some (f a)
@[reducible] def KN (lv l:Nat) (h:List D→Option D):Option (List D→Option D) :=
 match ZH lv l with
 | true=>some h
 | false=>match ZE l 0 with
  | true=>some fun is=>(h is).bind bq
  | false=>none
@[reducible] def fh (K:List Kd) (r:Nat):Nat :=
 match aq K r with
 | .own _ lv _=>lv
 | .box _ lv _=>lv
 | _=>9
@[reducible] def rW (K:List Kd) (r:Nat):Bool :=
 match aq K r with
 | .own _ _ _=>true
 | .mpo=>true
 | _=>false
@[reducible] def Kh (K:List Kd) (r:Nat):Bool :=
 match aq K r with
 | .own _ _ _=>true
 | _=>false
@[reducible] def YO (K:List Kd) (r:Nat):Nat :=
 match aq K r with
 | .own z _ _=>z
 | _=>0
@[reducible] def EM (K:List Kd) (r:Nat):Bool :=
 match aq K r with
 | .own _ _ false=>true
 | _=>false
@[reducible] def VQ (c:Cx) (dst:Option Nat) (i:TI) (p:Operand):Option Ac :=
 match p with
 | .tmp q=>match aq c.K q with
  | .dat lv=>bT c dst [p] lv (fQ (ldD i.agg i.n))
  | .box _ lv _=>match dst with
   | none=>none
   | some d=>match aq c.K d with
    | .dat l=>Ws (fun h=>.one [q] d h) (KN lv l (fun is=>ba i.agg i.n 0 (nth is 0)))
    | _=>none
  | .ref r=>match dst with
   | none=>none
   | some d=>match aq c.K d with
    | .dat l=>Ws (fun h=>.one [q,r] d h) (KN (fh c.K r) l (fun is=>(atD (nth is 1) (nth is 0)).bind (au i.agg i.n)))
    | _=>none
  | _=>none
 | _=>none
@[reducible] def rdP (q r:Nat):List Nat :=
 match ZE q r with
 | true=>[r]
 | false=>[q,r]
@[reducible] def goP (q r:Nat) (is:List D) (k:D→D→List D→Option Out):Option Out :=
 match ZE q r with
 | true=>match is with
  | b::is=>k b (.ref 0 0) is
  | []=>none
 | false=>match is with
  | p::b::is=>k b p is
  | _=>none
@[reducible] def stK (chk:Bool) (n:Nat) (b p y:D) (k:D→Option Out):Option Out :=
 match chk with
 | true=>(bq y).bind fun y=>(stD n b p y).bind k
 | false=>(stD n b p y).bind k
@[reducible] def NI (c:Cx) (i:TI) (q r lv:Nat) (x:Operand):Option Ac :=
 match x with
 | .tmp s=>match aq c.K s with
  | .dat l=>match ZH l lv,ZE lv 0 with
   | true,_=>some (.many (app (rdP q r) [s]) [] [r] fun is k=>goP q r is fun b p is=>eV is 0 fun y=>stK false i.n b p y fun b=>k [b])
   | false,true=>some (.many (app (rdP q r) [s]) [] [r] fun is k=>goP q r is fun b p is=>eV is 0 fun y=>stK true i.n b p y fun b=>k [b])
   | false,false=>none
  | .own _ l false=>match ZH 1 lv,ZH l lv,ZE s r with
   | true,true,false=>some (.many (app (rdP q r) [s]) [s] [r] fun is k=>goP q r is fun b p is=>eV is 0 fun y=>stK false i.n b p y fun b=>k [.bad,b])
   | _,_,_=>none
  | _=>none
 | .global _=>none
 | .const v=>match okC v with
  | true=>some (.many (app (rdP q r) []) [] [r] fun is k=>goP q r is fun b p _=>stK false i.n b p (yR v) fun b=>k [b])
  | false=>none
 | .func f=>some (.many (app (rdP q r) []) [] [r] fun is k=>goP q r is fun b p _=>stK false i.n b p (.clo f []) fun b=>k [b])
@[reducible] def Tp (c:Cx) (i:TI) (p x:Operand):Option Ac :=
 match p with
 | .tmp q=>match aq c.K q with
  | .box _ lv _=>NI c i q q lv x
  | .ref r=>NI c i q r (fh c.K r) x
  | _=>none
 | _=>none
@[reducible] def Wm (c:Cx) (dst:Option Nat) (i:TI) (f:Nat) (p:Operand):Option Ac :=
 match p,AM c i f with
 | .tmp q,some (off,_)=>match aq c.K q with
  | .dat lv=>bT c dst [p] lv (fQ (vW off))
  | .box _ _ _=>match dst with
   | none=>none
   | some d=>match aq c.K d with
    | .ref r=>match ZE r q with
     | true=>some (.one [q] d (fQ fun b=>aa b (.ref 0 off)))
     | false=>none
    | _=>none
  | .ref r=>match dst with
   | none=>none
   | some d=>match aq c.K d with
    | .ref r'=>match ZE r r' with
     | true=>some (.one [q] d (fQ (cW off)))
     | false=>none
    | _=>none
  | _=>none
 | _,_=>none
@[reducible] def Gw (K:List Kd) (x:Operand):Bool:=ZH (eF K x) 2
@[reducible] def nf (i:TI):Bool :=
 match i.alen,i.ez with
 | 0,0=>false
 | 0,_=>true
 | _,_=>false
@[reducible] def WN (c:Cx) (dst:Option Nat) (i:TI) (x ix:Operand):Option Ac :=
  match x,Gw c.K ix with
  | .tmp q,true=>match nf i with
    | true=>match aq c.K q with
      | .dat lv=>bT c dst [x,ix] lv (BA fun x j=>(aI i.ez x j).map .ptr)
      | .own _ _ _=>match dst with
        | none=>none
        | some d=>match aq c.K d with
          | .ref r=>match ZE r q with
            | true=>some (.one (q::nh [ix]) d fun is=>match is with
              | b::is=>fQ (dE i.ez b) (dO [ix] is)
              | []=>none)
            | false=>none
          | _=>none
      | .via r=>match dst with
        | none=>none
        | some d=>match aq c.K d with
          | .ref r'=>match ZE r r',Kh c.K r with
            | true,true=>some (.one (q::r::nh [ix]) d fun is=>match is with
              | p::b::is=>(aa p b).bind fun b=>fQ (dE i.ez b) (dO [ix] is)
              | _=>none)
            | _,_=>none
          | _=>none
      | _=>none
    | false=>match i.alen with
     | 0=>none
     | len=>match aq c.K q with
      | .dat lv=>bT c dst [x,ix] lv (BA (ixD len i.ez))
      | .box _ _ _=>match dst with
        | none=>none
        | some d=>match aq c.K d with
          | .ref r=>match ZE r q with
            | true=>some (.one (q::nh [ix]) d fun is=>match is with
              | b::is=>(aa b (.ref 0 0)).bind fun p=>fQ (NN len i.ez p) (dO [ix] is)
              | []=>none)
            | false=>none
          | _=>none
      | .ref r=>match dst with
        | none=>none
        | some d=>match aq c.K d with
          | .ref r'=>match ZE r r' with
            | true=>some (.one (q::nh [ix]) d fun is=>match is with
              | p::is=>fQ (NN len i.ez p) (dO [ix] is)
              | []=>none)
            | false=>none
          | _=>none
      | _=>none
  | _,_=>none
@[reducible] def jr (K:List Kd) (d z lv:Nat):Bool :=
 match aq K d with
 | .own z' l false=>match ZE z z' with
  | true=>ZH lv l
  | false=>false
 | .dat l=>match ZH 1 l with
  | true=>ZH lv l
  | false=>false
 | _=>false
@[reducible] def OX:Nat→List (Nat × Operand)→Nat→Bool
 | k,[],n=>ZE k n
 | k,(i,_)::ps,n=>match ZE i k with
  | true=>OX (ZV k) ps n
  | false=>false
@[reducible] def VH (c:Cx) (dst:Option Nat) (i:TI) (n:Nat) (parts:List (Nat × Operand)):Option Ac :=
 let xs:=qC (fun p=>p.2) parts
 match dst with
 | none=>none
 | some d =>
  match OX 0 parts n,ZH (n*i.ez) 16777216,jr c.K d i.ez (lB c.K xs),ZH (lB c.K xs) 2 with
  | true,true,true,true=>some (.many (nh xs) [d] [] fun is k=>(ay i.ez (dO xs is)).bind fun a=>k [a])
  | _,_,_,_=>none
@[reducible] def oB (K:List Kd) (x:Operand):Option (List Nat × Nat × Option Nat) :=
 match x with
 | .tmp t=>match aq K t with
  | .dat lv=>some ([t],lv,none)
  | .own _ lv _=>some ([t],lv,some t)
  | .via r=>match aq K r with
   | .own _ lv _=>some ([t,r],lv,some r)
   | _=>none
  | _=>none
 | .const (.slice none 0 0)=>some ([],0,none)
 | _=>none
@[reducible] def kV (rd:List Nat) (is:List D) (k:D→Option Out):Option Out :=
 match rd with
 | []=>k (.arr 0 [])
 | [_]=>eV is 0 k
 | _=>eV is 0 fun p=>eV is 1 fun x=>(aa p x).bind k
@[reducible] def sU {α:Type}:Nat→List α→List α
 | 0,l=>l
 | _+1,[]=>[]
 | n+1,_::l=>sU n l
@[reducible] def jt {α:Type}:List α→Nat
 | []=>0
 | _::l=>ZV (jt l)
@[reducible] def neO:Option Nat→Option Nat→Bool
 | some a,some b=>match ZE a b with
  | true=>false
  | false=>true
 | _,_=>true
def dq (d:D):Option D :=
 match d with
 | .arr z l=>if l.all D.isV then some (.arr z l) else none
 | _=>none
@[reducible] def PU (chk:Bool) (b:D) (k:D→Option Out):Option Out :=
 match chk with
 | true=>(dq b).bind k
 | false=>k b
@[reducible] def Sa (c:Cx) (d:Nat) (i:TI) (chk:Bool) (rs rx:List Nat) (os:Option Nat):Option Ac :=
 match os with
 | some r=>match EM c.K r,ZE (YO c.K r) i.ez with
  | true,true=>some (.many (app rs rx) [d,r] [] fun is k=>kV rs is fun a=>kV rx (sU (jt rs) is) fun b=>PU chk b fun b=>(bY i.ez i.eb a b).bind fun y=>k [y,.bad])
  | _,_=>none
 | none=>match rs with
  | []=>some (.many rx [d] [] fun is k=>kV rx is fun b=>PU chk b fun b=>(bY i.ez i.eb (.arr 0 []) b).bind fun y=>k [y])
  | _=>none
@[reducible] def Uu (c:Cx) (dst:Option Nat) (i:TI) (s x:Operand):Option Ac :=
 match dst,oB c.K s,oB c.K x with
 | some d,some (rs,ls,os),some (rx,lx,ox) =>
  match neO os ox,jr c.K d i.ez (It ls lx),jr c.K d i.ez ls with
  | true,true,_=>Sa c d i false rs rx os
  | true,false,true=>Sa c d i true rs rx os
  | _,_,_=>none
 | _,_,_=>none
@[reducible] def Rm (c:Cx) (dst:Option Nat) (str:Bool) (x:Operand):Option Ac :=
 match x with
 | .tmp t=>match aq c.K t with
  | .dat _=>bT c dst [x] 0 (fQ (lenD str))
  | _=>match dst,oB c.K x with
   | some d,some (rd,_,_)=>match aq c.K d with
    | .dat _=>some (.one rd d fun is=>match rd with
     | [_]=>lenD str (nth is 0)
     | _=>(aa (nth is 0) (nth is 1)).bind (lenD str))
    | _=>none
   | _,_=>none
 | _=>bT c dst [x] 0 (fQ (lenD str))
def Ze:D→Option D
 | .mp l=>some (I l.length)
 | _=>none
@[reducible] def UR (c:Cx) (dst:Option Nat) (x:Operand):Option Ac :=
 match x with
 | .tmp t=>match aq c.K t with
  | .dat _=>bT c dst [x] 0 (fQ Ze)
  | _=>none
 | _=>none
@[reducible] def ur:Option Operand→Operand
 | some l=>l
 | none=>.const (.int .i64 0)
@[reducible] def Kp (c:Cx) (dst:Option Nat) (i:TI) (x:Operand) (lo hi:Option Operand):Option Ac :=
 match dst,oB c.K x with
 | some d,some (rd,lv,some r)=>match EM c.K r,jr c.K d i.ez lv,Gw c.K (ur lo),i.str with
  | true,true,true,false=>match hi with
   | some h=>match Gw c.K h with
    | true=>some (.many (app rd (nh [ur lo,h])) [d,r] [] fun is k=>kV rd is fun b =>
      (BA (eT false i.ez b) (dO [ur lo,h] (sU (jt rd) is))).bind fun y=>k [y,.bad])
    | false=>none
   | none=>some (.many (app rd (nh [ur lo])) [d,r] [] fun is k=>kV rd is fun b =>
      (fQ (fw false i.ez b) (dO [ur lo] (sU (jt rd) is))).bind fun y=>k [y,.bad])
  | _,_,_,_=>none
 | _,_=>none
@[reducible] def JJ (c:Cx) (dst:Option Nat) (i:TI) (x:Operand) (lo hi:Option Operand):Option Ac :=
 match x with
 | .tmp q=>match aq c.K q with
  | .dat lv=>match hi with
   | some h=>bT c dst [x,ur lo,h] lv (SZ (eT i.str i.ez))
   | none=>bT c dst [x,ur lo] lv (BA (fw i.str i.ez))
  | .own _ _ _=>Kp c dst i x lo hi
  | .via _=>Kp c dst i x lo hi
  | _=>none
 | .const (.string _)=>match hi with
  | some h=>bT c dst [x,ur lo,h] 0 (SZ (eT i.str i.ez))
  | none=>bT c dst [x,ur lo] 0 (BA (fw i.str i.ez))
 | _=>none
@[reducible] def Wo (c:Cx) (dst:Option Nat) (i e:TI) (n m:Operand):Option Ac :=
 match dst,Gw c.K n,Gw c.K m with
 | some d,true,true=>match jr c.K d i.ez 0 with
  | true=>some (.many (nh [n,m]) [d] [] fun is k=>(match dO [n,m] is with
    | [a,b]=>Nj i.ez i.eb (Dy e) a b
    | _=>none).bind fun y=>k [y])
  | false=>none
 | _,_,_=>none
@[reducible] def WH (c:Cx) (dst:Option Nat) (i:TI) (x:Operand):Option Ac :=
 match dst with
 | none=>none
 | some d=>match aq c.K d with
  | .box n l false=>match ZE n i.n,Gw c.K x with
   | true,true=>match ZH (eF c.K x) l with
    | true=>some (.many (nh [x]) [d] [] fun is k=>(fQ (bE n) (dO [x] is)).bind fun y=>k [y])
    | false=>match ZE l 0 with
     | true=>some (.many (nh [x]) [d] [] fun is k=>(fQ (fun x=>(bq x).bind (bE n)) (dO [x] is)).bind fun y=>k [y])
     | false=>none
   | _,_=>none
  | .dat l=>match Gw c.K x,ZH 1 l,ZH (eF c.K x) l with
   | true,true,true=>some (.many (nh [x]) [d] [] fun is k=>(fQ (bE i.n) (dO [x] is)).bind fun y=>(YS y).bind fun y=>k [y])
   | _,_,_=>none
  | _=>none
@[reducible] def VO (c:Cx) (dst:Option Nat) (i:TI):Option Ac :=
 match dst with
 | none=>none
 | some d=>match aq c.K d with
  | .box n _ false=>match ZE n i.n with
   | true=>some (.many [] [d] [] fun _ k=>k [.agg i.zero])
   | false=>none
  | _=>none
@[reducible] def WO (c:Cx) (dst:Option Nat) (x:Operand) (i:Nat):Option Ac :=
 match dst,x with
 | some d,.tmp t=>match aq c.K t with
  | .tup ms=>match aq ms i with
   | .dat lv=>match aq c.K d with
    | .dat l=>match ZH lv l with
     | true=>some (.one [t] d fun is=>aF (nth is 0) i)
     | false=>none
    | _=>none
   | .own z lv false=>match jr c.K d z lv with
    | true=>some (.many [t] [d,t] [] fun is k=>eV is 0 fun t=>(aF t i).bind fun y=>k [y,cv t i])
    | false=>none
   | _=>none
  | _=>none
 | _,_=>none
inductive Ag where
 | d (x:Operand) (chk:Bool)
 | bor (t r:Nat)
 | io (t r:Nat)
@[reducible] def uC (K:List Kd) (x:Operand) (m:Kd):Option Ag :=
 match m with
 | .dat l=>match x with
  | .tmp t=>match aq K t with
   | .dat lv=>match ZH lv l with
    | true=>some (.d x false)
    | false=>match ZE l 0 with
     | true=>some (.d x true)
     | false=>none
   | .own _ _ _=>match ZE l 2 with
    | true=>some (.bor t t)
    | false=>none
   | .via r=>match ZE l 2,Kh K r with
    | true,true=>some (.bor t r)
    | _,_=>none
   | _=>none
  | .global _=>none
  | .func _=>some (.d x false)
  | .const v=>match okC v with
   | true=>some (.d x false)
   | false=>none
 | .own z l true=>match x with
  | .tmp t=>match aq K t with
   | .own z' lv _=>match ZE z z',ZE l lv with
    | true,true=>some (.io t t)
    | _,_=>none
   | .via r=>match aq K r with
    | .own z' lv _=>match ZE z z',ZE l lv with
     | true,true=>some (.io t r)
     | _,_=>none
    | _=>none
   | _=>none
  | _=>none
 | .box n l true=>match x with
  | .tmp t=>match aq K t with
   | .box n' lv _=>match ZE n n',ZE l lv with
    | true,true=>some (.io t t)
    | _,_=>none
   | .ref r=>match aq K r with
    | .box n' lv _=>match ZE n n',ZE l lv with
     | true,true=>some (.io t r)
     | _,_=>none
    | _=>none
   | _=>none
  | _=>none
 | _=>none
@[reducible] def kL (K:List Kd):List Operand→List Kd→Option (List Ag)
 | [],[]=>some []
 | x::xs,m::ms=>match uC K x m,kL K xs ms with
  | some a,some l=>some (a::l)
  | _,_=>none
 | _,_=>none
@[reducible] def fX:List Ag→List Nat
 | []=>[]
 | .d x _::l=>app (nh [x]) (fX l)
 | .bor t r::l=>match ZE t r with
  | true=>t::fX l
  | false=>t::r::fX l
 | .io t r::l=>match ZE t r with
  | true=>t::fX l
  | false=>t::r::fX l
@[reducible] def dD:List Ag→List Nat
 | []=>[]
 | .io _ r::l=>r::dD l
 | _::l=>dD l
@[reducible] def gU:List Ag→List Nat
 | []=>[]
 | .bor _ r::l=>r::gU l
 | _::l=>gU l
@[reducible] def lP:List Nat→Bool
 | []=>true
 | a::l=>match lF a l with
  | true=>false
  | false=>lP l
@[reducible] def Gj:List Nat→List Nat→Bool
 | [],_=>true
 | a::l,m=>match lF a m with
  | true=>false
  | false=>Gj l m
@[reducible] def gJ (acc:List D):List Ag→List D→(List D→Option Out)→Option Out
 | [],_,k=>k acc
 | .d x chk::l,is,k=>match x with
  | .tmp _=>match is with
   | i::is=>match chk with
    | false=>gJ (app acc [i]) l is k
    | true=>(bq i).bind fun i=>gJ (app acc [i]) l is k
   | []=>none
  | .const v=>gJ (app acc [yR v]) l is k
  | .func f=>gJ (app acc [.clo f []]) l is k
  | .global _=>none
 | .bor t r::l,is,k=>match ZE t r with
  | true=>match is with
   | i::is=>gJ (app acc [i]) l is k
   | _=>none
  | false=>match is with
   | p::i::is=>(aa p i).bind fun i=>gJ (app acc [i]) l is k
   | _=>none
 | .io t r::l,is,k=>match ZE t r with
  | true=>match is with
   | i::is=>(aa i i).bind fun i=>gJ (app acc [i]) l is k
   | _=>none
  | false=>match is with
   | p::i::is=>(bn p i).bind fun i=>(aa i i).bind fun i=>gJ (app acc [i]) l is k
   | _=>none
@[reducible] def Ow (K:List Kd) (d:Nat):List Kd→Bool
 | [.dat lv]=>match aq K d with
  | .dat l=>ZH lv l
  | _=>false
 | [.own z lv false]=>jr K d z lv
 | []=>true
 | ms=>match aq K d with
  | .tup ns=>im ms ns
  | _=>false
@[reducible] def uz:List Kd→Bool
 | []=>true
 | .dat lv::l=>match ZH lv 1 with
  | true=>uz l
  | false=>false
 | .own _ lv _::l=>match ZH lv 1 with
  | true=>uz l
  | false=>false
 | _=>false
@[reducible] def kA:List Kd→Bool
 | []=>true
 | .dat lv::l=>match ZE lv 1,ZH lv 2 with
  | false,true=>kA l
  | _,_=>false
 | .own _ lv true::l=>match ZE lv 1,ZH lv 2 with
  | false,true=>kA l
  | _,_=>false
 | .box _ lv true::l=>match ZE lv 1,ZH lv 2 with
  | false,true=>kA l
  | _,_=>false
 | _=>false
@[reducible] def io0:List Kd→Bool
 | []=>true
 | .own _ lv _::l=>match ZE lv 0 with
  | true=>io0 l
  | false=>false
 | .box _ lv _::l=>match ZE lv 0 with
  | true=>io0 l
  | false=>false
 | _::l=>io0 l
@[reducible] def lvC:List D→Option Out→Option Out
 | [],o=>o
 | u::us,o=>(aa u u).bind fun _=>lvC us o
@[reducible] def mO (c:Cx) (dst:Option Nat) (S:FS) (xs:List Operand):Option Ac :=
 match kL c.K xs S.pm with
 | none=>none
 | some ags =>
  let ios:=dD ags
  let bor:=gU ags
  let okB:=match bor with
   | []=>true
   | _=>match uz S.rm,io0 S.pm with
    | true,true=>Gj bor ios
    | _,_=>false
  match okB,lP ios,kA S.pm with
  | true,true,true=>match dst with
   | none=>match S.rm with
    | []=>some (.many (fX ags) [] ios fun is k=>gJ [] ags is fun ds=>callK (S.f ds) fun _ us=>lvC (outs us ios) (k (outs us ios)))
    | _=>none
   | some d=>match Ow c.K d S.rm,lF d ios,S.rm with
    | true,false,[]=>some (.many (fX ags) [d] ios fun is k=>gJ [] ags is fun ds=>callK (S.f ds) fun _ us=>lvC (outs us ios) (k (.bad::outs us ios)))
    | true,false,[_]=>some (.many (fX ags) [d] ios fun is k=>gJ [] ags is fun ds=>callK (S.f ds) fun rs us=>lvC (outs us ios) (k (nth rs 0::outs us ios)))
    | true,false,_=>some (.many (fX ags) [d] ios fun is k=>gJ [] ags is fun ds=>callK (S.f ds) fun rs us=>lvC (outs us ios) (k (.tup rs::outs us ios)))
    | _,_,_=>none
  | _,_,_=>none
where
 @[reducible] outs (us:List D) (ios:List Nat):List D:=go us 0 ios
 @[reducible] go (us:List D):Nat→List Nat→List D
  | _,[]=>[]
  | j,_::l=>nth us j::go us (ZV j) l
@[reducible] def Gm {α:Type}:Nat→List α→List α
 | 0,_=>[]
 | _+1,[]=>[]
 | n+1,a::l=>a::Gm n l
@[reducible] def nD:List Kd→Bool
 | []=>true
 | .dat lv::l=>match ZE lv 2 with
  | true=>nD l
  | false=>false
 | _=>false
@[reducible] def Ny (c:Cx) (dst:Option Nat) (t f:Nat) (S:FS) (xs:List Operand):Option Ac :=
 match dst,aq c.K t,S.rm with
 | some d,.dat lt,[.dat lr]=>match kL c.K xs (Gm (jt xs) S.pm),aq c.K d with
  | some ags,.dat l=>match ZH lr l,ZH lt 2,kA (Gm (jt xs) S.pm),nD (sU (jt xs) S.pm),dD ags,gU ags with
   | true,true,true,true,[],[]=>some (.many (t::fX ags) [d] [] fun is k=>match is with
    | cl::is=>(Xi f (jt (sU (jt xs) S.pm)) cl).bind fun caps=>gJ [] ags is fun ds=>callK (S.f (ds++caps)) fun rs _=>k [nth rs 0]
    | []=>none)
   | _,_,_,_,_,_=>none
  | _,_=>none
 | _,_,_=>none
@[reducible] def Ak (c:Cx) (t:TI):List (Nat × Operand)→Option (List (Nat × Nat))
 | []=>some []
 | (i,_)::ps=>match AM c t i,Ak c t ps with
  | some (off,ti),some l=>some ((off,ti.n)::l)
  | _,_=>none
@[reducible] def EF (z:Nat):List (Nat × Operand)→List (Nat × Nat)
 | []=>[]
 | (i,_)::ps=>(i*z,z)::EF z ps
@[reducible] def Fl (f:D→D→Option D):D→List D→Option D
 | x,[]=>some x
 | x,y::ys=>(f x y).bind fun z=>Fl f z ys
@[reducible] def Gl (f:D→D→Option D):List D→Option D
 | x::y::xs=>Fl f x (y::xs)
 | _=>none
@[reducible] def WU (c:Cx) (i:TI):Bool :=
 match nf i with
 | true=>match dr c.T i.elem with
  | some e=>match e.ik with
   | some .u8=>true
   | _=>false
  | none=>false
 | false=>false
@[reducible] def Wp (c:Cx) (dst:Option Nat) (si di:TI) (x:Operand):Option Ac :=
 match di.str,si.str,si.ez with
 | true,false,1=>match dst,oB c.K x with
  | some d,some (rd,_,_)=>match aq c.K d,WU c si with
   | .dat _,true=>some (.one rd d fun is=>match rd with
    | []=>none
    | [_]=>LN (nth is 0)
    | _=>(aa (nth is 0) (nth is 1)).bind LN)
   | _,_=>none
  | _,_=>none
 | true,false,0=>bT c dst [x] 0 (fQ Su)
 | _,_,_=>bT c dst [x] 0 (fQ (pN di.ik (match di.str with
  | true=>si.str
  | false=>false)))
@[reducible] def VA (c:Cx) (dst:Option Nat) (t:TI) (x i:Operand):Option Ac :=
 match t.str with
 | true=>bT c dst [x,i] 0 (BA Ay)
 | false=>match t.alen with
  | 0=>none
  | n=>fE c t.elem fun e=>bT c dst [x,i] (eF c.K x) (BA (ixA e.agg n t.ez))
@[reducible] def Nl (c:Cx) (dst:Option Nat) (q:Call):Option Ac :=
 match q.callee,q.args.toList,q.argTypes.toList with
 | .builtin .len,[x],[t]=>fE c t fun i=>match nf i,i.str with
  | true,false=>Rm c dst false x
  | false,true=>Rm c dst true x
  | false,false=>match i.mp with
   | true=>UR c dst x
   | false=>none
  | _,_=>none
 | .builtin .append,[s,x],[t,u]=>match ZE t u with
  | true=>fE c t fun i=>fE c i.elem fun _=>match nf i with
   | true=>Uu c dst i s x
   | false=>none
  | false=>none
 | .builtin .min,xs,_=>bT c dst xs 0 (Gl QW)
 | .builtin .max,xs,_=>bT c dst xs 0 (Gl RG)
 | .value (.func f),xs,_=>match dr c.S f with
  | some S=>mO c dst S xs
  | none=>none
 | .value (.tmp t),xs,_=>match dr c.C t with
  | some f=>match dr c.S f with
   | some S=>Ny c dst t f S xs
   | none=>none
  | none=>none
 | _,_,_=>none
@[reducible] def Wn (c:Cx) (dst:Option Nat) (i:TI) (parts:List (Nat × Operand)):Option Ac :=
 let xs:=qC (fun p=>p.2) parts
 match i.alen,i.agg with
 | 0,true=>match Ak c i parts with
  | some ps=>bT c dst xs (lB c.K xs) (cO ps i.zero)
  | none=>none
 | 0,false=>none
 | _,_=>bT c dst xs (lB c.K xs) (cO (EF i.ez parts) i.zero)
@[reducible] def Wa (c:Cx) (dst:Option Nat) (x:Operand):Option Ac :=
 match x with
 | .tmp t=>match aq c.K t with
  | .box _ _ _=>match dst with
   | none=>none
   | some d=>match aq c.K d with
    | .ref r=>match ZE r t with
     | true=>some (.one [t] d fun is=>(fQ fun x=>aa x (.ref 0 0)) is)
     | false=>none
    | _=>none
  | .ref r=>match dst with
   | none=>none
   | some d=>match aq c.K d with
    | .ref r'=>match ZE r r' with
     | true=>some (.one [t] d fun is=>(fQ fun x=>aa x x) is)
     | false=>none
    | _=>none
  | _=>bT c dst [x] (eF c.K x) (fQ TO)
 | x=>bT c dst [x] (eF c.K x) (fQ TO)
@[reducible] def SA:Operand→Bool
 | .const .nilIface=>true
 | _=>false
@[reducible] def UV:Operand→Bool
 | .const (.slice none 0 0)=>true
 | _=>false
def itD (x:D):Option D :=
 match x with
 | .v (.string s)=>some (.itr s 0)
 | _=>none
def nxS (x:D):Option D :=
 match x with
 | .itr s p=>match s.data.toList[p]? with
  | some c=>if c.toNat<128 then some (.itr s (p+1)) else none
  | none=>some (.itr s p)
 | _=>none
def nxT (x:D):D :=
 match x with
 | .itr s p=>match s.data.toList[p]? with
  | some c=>.tup [B true,I p,.v (.int .i32 c.toNat)]
  | none=>.tup [B false]
 | _=>.bad
def uN:List (Int × Bool)→Int→Bool
 | [],_=>false
 | (m,b)::l,n=>if m=n then b else uN l n
def qk:List (Int × Bool)→Int→Bool→List (Int × Bool)
 | [],n,v=>[(n,v)]
 | (m,b)::l,n,v=>if m=n then(n,v)::l else(m,b)::qk l n v
def lkD (m k:D):Option D :=
 match m,k with
 | .mp l,.v (.int .i64 n)=>some (B (uN l n))
 | _,_=>none
def upM (m:D) (l:List D):Option D :=
 match m,l with
 | .mp l,[.v (.int .i64 n),.v (.bool v)]=>some (.mp (qk l n v))
 | _,_=>none
@[reducible] def Vi (c:Cx) (dst:Option Nat):Option Ac :=
 match dst with
 | none=>none
 | some d=>match aq c.K d with
  | .mpo=>some (.many [] [d] [] fun _ k=>k [.mp []])
  | _=>none
@[reducible] def VE (c:Cx) (q:Nat) (x y:Operand):Option Ac :=
 match aq c.K q,ZH (lB c.K [x,y]) 2 with
 | .mpo,true=>some (.many (q::nh [x,y]) [] [q] fun is k=>match is with
  | b::is=>(upM b (dO [x,y] is)).bind fun y=>k [y]
  | []=>none)
 | .via r,true=>match aq c.K r with
  | .mpo=>some (.many (q::r::nh [x,y]) [] [r] fun is k=>match is with
   | p::b::is=>(aa p b).bind fun b=>(upM b (dO [x,y] is)).bind fun y=>k [y]
   | _=>none)
  | _=>none
 | _,_=>none
@[reducible] def Ww (c:Cx) (dst:Option Nat) (q:Nat) (x:Operand):Option Ac :=
 match aq c.K q with
 | .dat _=>bT c dst [.tmp q,x] 0 (BA lkD)
 | .mpo=>match dst with
  | none=>none
  | some d=>match aq c.K d,ZH (eF c.K x) 2 with
   | .dat _,true=>some (.one (q::nh [x]) d fun is=>match is with
    | b::is=>(fQ (lkD b)) (dO [x] is)
    | []=>none)
   | _,_=>none
 | .via r=>match aq c.K r,dst with
  | .mpo,some d=>match aq c.K d,ZH (eF c.K x) 2 with
   | .dat _,true=>some (.one (q::r::nh [x]) d fun is=>match is with
    | p::b::is=>(aa p b).bind fun b=>(fQ (lkD b)) (dO [x] is)
    | _=>none)
   | _,_=>none
  | _,_=>none
 | _=>none
@[reducible] def VX (c:Cx) (dst:Option Nat) (x:Operand):Option Ac :=
 match dst with
 | none=>none
 | some d=>match aq c.K d,ZH (eF c.K x) 2 with
  | .itr,true=>some (.many (nh [x]) [d] [] fun is k=>(fQ itD (dO [x] is)).bind fun y=>k [y])
  | _,_=>none
@[reducible] def We (c:Cx) (dst:Option Nat) (q:Nat):Option Ac :=
 match dst with
 | none=>none
 | some d=>match aq c.K q,aq c.K d with
  | .itr,.tup [.dat _,.dat _,.dat _]=>some (.many [q] [d] [q] fun is k=>eV is 0 fun x=>(nxS x).bind fun y=>k [nxT x,y])
  | _,_=>none
@[reducible] def cf (c:Cx) (o:Oper):Option Ac :=
 match o.op with
 | .move x=>Le c o.dst x o.type
 | .assign x=>Le c o.dst x o.type
 | .pick q a b=>bT c o.dst [q,a,b] (It (eF c.K a) (eF c.K b)) (SZ aU)
 | .alloc t=>fE c t fun i=>VO c o.dst i
 | .box t x=>fE c t fun i=>WH c o.dst i x
 | .build t parts=>fE c t fun i=>Wn c o.dst i parts.toList
 | .buildSlice t n parts=>fE c t fun i=>fE c i.elem fun _=>match nf i with
  | true=>VH c o.dst i n parts.toList
  | false=>none
 | .load t p=>fE c t fun i=>VQ c o.dst i p
 | .store t p x=>match o.dst with
  | none=>fE c t fun i=>Tp c i p x
  | some _=>none
 | .nilCheck x=>Wa c o.dst x
 | .binOp op t x y _=>fE c t fun i=>match i.ifc with
  | true=>bT c o.dst [x,y] 0 (BA (Yk (SA y) op))
  | false=>match nf i,UV y with
   | true,true=>bT c o.dst [x,y] 0 (BA fun x _=>Yl op x)
   | _,_=>bT c o.dst [x,y] 0 (BA (bin op i.bl i.eq))
 | .unOp op _ x=>bT c o.dst [x] 0 (fQ (un op))
 | .convert src dt x=>fE c src fun si=>fE c dt fun di=>Wp c o.dst si di x
 | .makeFunc (.func f) first cap=>match first.toList,cap.toList with
  | [],[]=>bT c o.dst [] 0 (fun _=>some (.clo f []))
  | [],x::xs=>bT c o.dst (x::xs) (lB c.K (x::xs)) (Zc f)
  | _,_=>none
 | .makeSlice t n m=>fE c t fun i=>fE c i.elem fun e=>match nf i with
  | true=>Wo c o.dst i e n m
  | false=>none
 | .slice t x lo hi none=>fE c t fun i=>match nf i,i.str with
  | true,false=>JJ c o.dst i x lo hi
  | false,true=>JJ c o.dst i x lo hi
  | _,_=>none
 | .fieldAddr t x f=>fE c t fun i=>Wm c o.dst i f x
 | .field t x f=>fE c t fun i=>match AM c i f with
  | some (off,ti)=>bT c o.dst [x] (eF c.K x) (fQ (ba ti.agg ti.n off))
  | none=>none
 | .indexAddr t x i=>fE c t fun ti=>WN c o.dst ti x i
 | .index t x i=>fE c t fun ti=>VA c o.dst ti x i
 | .extract x i=>WO c o.dst x i
 | .call q=>Nl c o.dst q
 | .range t x=>fE c t fun i=>match i.str with
  | true=>VX c o.dst x
  | false=>none
 | .next (.tmp q) true=>We c o.dst q
 | .makeMap t none=>fE c t fun i=>match i.mp with
  | true=>Vi c o.dst
  | false=>none
 | .mapUpdate t (.tmp q) x y=>match o.dst with
  | none=>fE c t fun i=>match i.mp with
   | true=>VE c q x y
   | false=>none
  | some _=>none
 | .lookup t (.tmp q) x false=>fE c t fun i=>match i.mp with
  | true=>Ww c o.dst q x
  | false=>none
 | _=>none
@[reducible] def Xq:Ac→List Nat
 | .one rd _ _=>rd
 | .many rd _ _ _=>rd
@[reducible] def GU (ops:List Oper) (j:Nat):Option Nat :=
 match Oj ops j with
 | some o=>o.dst
 | none=>none
@[reducible] def Bk:Kd→D
 | .dat _=>.tup []
 | _=>.bad
@[reducible] def Ox (K:List Kd) (δ:List D) (dst:Option Nat):List Nat→(List D→Option Out)→Option Out
 | [],k=>k []
 | s::ss,k=>match dst with
  | some d=>match lF s (d::fv d K 0) with
   | true=>Ox K δ dst ss fun l=>k (Bk (aq K s)::l)
   | false=>eV δ s fun a=>Ox K δ dst ss fun l=>k (a::l)
  | none=>eV δ s fun a=>Ox K δ dst ss fun l=>k (a::l)
@[reducible] def fit (l:List D):Nat→List Nat→List D
 | _,[]=>[]
 | j,_::ss=>nth l j::fit l (ZV j) ss
@[reducible] def cJ (c:Cx) (ops:List Oper) (o:Oper) (δ:List D) (k:List D→Option Out):Option Out :=
 match cf c o with
 | none=>none
 | some A=>match o.guard with
  | none=>match A with
   | .one rd d h=>qc δ rd fun is=>(h is).bind fun z=>dR δ (d::fv d c.K 0) [z] k
   | .many rd hw cw fn=>qc δ rd fun is=>fn is fun outs=>dR δ (app hw (app cw (aY c.K hw))) outs k
  | some (j,pol)=>match GU ops j with
   | none=>none
   | some g=>eV δ g fun gv=>match A with
    | .one rd d h=>qc δ rd fun is=>(af (Bk (aq c.K d)) gv pol (h is)).bind fun z=>dR δ (d::fv d c.K 0) [z] k
    | .many rd hw cw fn=>qc δ rd fun is=>Ox c.K δ o.dst (app hw cw) fun alt =>
     bX gv pol (fn is fun outs=>some (.nrm (fit outs 0 (app hw cw)))) alt fun outs =>
      dR δ (app hw (app cw (aY c.K hw))) (fit outs 0 (app hw cw)) k
@[reducible] def ka (c:Cx) (ops:List Oper):List Oper→List D→(List D→Option Out)→Option Out
 | [],δ,k=>k δ
 | o::os,δ,k=>cJ c ops o δ fun δ'=>ka c ops os δ' k
@[reducible] def Hj:Nat→List D
 | 0=>[]
 | n+1=>.bad::Hj n
@[reducible] def ro:Nat→List D→List D
 | 0,_=>[]
 | n+1,[]=>.bad::ro n []
 | n+1,a::l=>a::ro n l
@[reducible] def gG (n:Nat) (hl:List Nat) (s:List D) (k:List D→Option Out):Option Out :=
 dR (Hj n) hl (fit s 0 hl) k
def iter (body:List D→Option Out):Nat→List D→Option Out
 | 0,_=>none
 | n+1,s=>match body s with
  | some (.nrm s')=>iter body n s'
  | r=>r
open Classical in
def aQ (body:List D→Option Out) (s:List D):Option Out :=
 if h:∃n,(iter body n s).isSome=true then iter body (Classical.choose h) s else none
@[reducible] def bS (hl xl:List Nat) (o:Out):Option Out :=
 match o with
 | .nrm δ=>qc δ hl fun l=>some (.nrm l)
 | .ext i δ=>qc δ xl fun l=>some (.ext i l)
 | .ret a b=>some (.ret a b)
@[reducible] def oa (c:Cx) (δ:List D):List ResultVar→(List D→Option Out)→Option Out
 | [],k=>k []
 | .tmp t::l,k=>eV δ t fun a=>oa c δ l fun as'=>k (a::as')
 | .cell a t::l,k=>match dr c.T t with
  | some i=>eV δ a fun b=>(ba i.agg i.n 0 b).bind fun y=>oa c δ l fun as'=>k (y::as')
  | none=>none
@[reducible] def usK:List D→Option Out→Option Out
 | [],o=>o
 | u::us,o=>(aa u u).bind fun _=>usK us o
@[reducible] def opC (δ:List D) (x:Operand) (k:D→Option Out):Option Out :=
 match x with
 | .tmp t=>eV δ t k
 | .const c=>k (yR c)
 | .func f=>k (.clo f [])
 | .global _=>none
@[reducible] def Ts (o:Out) (f:List D→Option Out) (k:Out→Option Out):Option Out :=
 match o with
 | .nrm δ=>f δ
 | .ext i δ=>k (.ext i δ)
 | .ret a b=>k (.ret a b)
@[reducible] def Ej (id:Nat) (o:Out) (k:Out→Option Out):Option Out :=
 match o with
 | .nrm δ=>k (.nrm δ)
 | .ext i δ=>match ZE i id with
  | true=>k (.nrm δ)
  | false=>k (.ext i δ)
 | .ret a b=>k (.ret a b)
def outK (o:Out) (x:Nat→List D→Option Out) (r:List D→List D→Option Out):Option Out :=
 match o with
 | .nrm _=>none
 | .ext i s=>x i s
 | .ret a b=>r a b
@[reducible] def den (c:Cx):Nat→Code→List D→(Out→Option Out)→Option Out
 | _,.skip,δ,k=>k (.nrm δ)
 | _,.region _ ops _,δ,k=>ka c ops.toList ops.toList δ fun δ'=>k (.nrm δ')
 | bid,.seq a b,δ,k=>den c bid a δ fun o=>Ts o (fun δ'=>den c bid b δ' k) k
 | bid,.cond x t e,δ,k=>opC δ x fun q=>ifD q (den c bid t δ k) (den c bid e δ k)
 | _,.block id b,δ,k=>den c id b δ fun o=>Ej id o k
 | bid,.loop b,δ,k=>match dr c.H bid with
  | none=>none
  | some (hl,xl) =>
   qc δ hl fun s=>(aQ (fun s=>gG (jt c.K) hl s fun δ=>den c bid b δ (bS hl xl)) s).bind fun o =>
    outK o (fun i s=>gG (jt c.K) xl s fun δ=>k (.ext i δ)) (fun a b=>k (.ret a b))
 | _,.exit id,δ,k=>k (.ext id δ)
 | _,.ret,δ,k=>oa c δ c.res fun rs=>qc δ c.ios fun us=>usK us (k (.ret rs us))
 | _,_,_,_=>none
@[reducible] def be (c:Cx) (fn:Func) (ds:List D):Option Out :=
 match fn.body with
 | none=>none
 | some b=>den c 0 b (ro fn.ntmps ds) fun o=>match o with
  | .nrm δ=>oa c δ c.res fun rs=>qc δ c.ios fun us=>usK us (some (.ret rs us))
  | .ext _ _=>none
  | .ret rs us=>some (.ret rs us)
open Go.RowKit
set_option maxRecDepth 100000
def dQ (w:World) (b o:Nat) (us:List Value):Prop:=∀i u,us[i]?=some u→w.cell? ⟨b,o+i,none⟩=some u
def KR (es:Array MapEntry) (clock:Nat) (l:List (Int × Bool)):Prop:=Go.MapKept.Stamped es clock∧es.toList.map (fun e=>(e.key,e.val))=l.map fun p=>(aay .i64 p.1,Value.bool p.2)
mutual
def RepC (w:World) (F:Nat→Prop):D→List Value→Prop
 | .v x,vs=>vs=[x]∧flat x=true
 | .agg l,vs=>bW w F l vs∧l.all D.single=true
 | .arr z l,vs=>∃A c us,vs=[.slice A l.length c]∧l.length≤c∧bW w F l us∧(∀d∈l,d.width=z) ∧
   (l≠[]→∃b o,A=some ⟨b,o,none⟩∧F b∧dQ w b o us)
 | .ptr l,vs=>∃b o us,vs=[.pointer (some ⟨b,o,none⟩)]∧bW w F l us∧l.all D.single=true∧F b∧dQ w b o us
 | .clo f l,vs=>∃us:List Value,vs=[.func (.func f) #[] us.toArray]∧bW w F l us
 | .ifc,vs=>∃t x,vs=[.iface t x]
 | .raw x,vs=>vs=[x]∧∃A n c,x = .slice A n c
 | .tup _,_=>False
 | .ref _ _,_=>False
 | .bad,_=>False
 | .itr _ _,_=>False
 | .mp l,vs=>(vs=[.map none]∧l=[])∨∃g es clock,vs=[.map (some g)]∧F g∧w.heap[g]?=some (.map es clock)∧KR es clock l
def bW (w:World) (F:Nat→Prop):List D→List Value→Prop
 | [],vs=>vs=[]
 | d::ds,vs=>∃v1 v2,vs=v1++v2∧RepC w F d v1∧bW w F ds v2
end
def bf (w:World) (F:Nat→Prop) (d:D) (y:Value):Prop :=
 match d with
 | .agg l=>∃vs:List Value,y = .agg vs.toArray∧RepC w F (.agg l) vs
 | .tup l=>l=[]∧y = .tuple #[]
 | d=>RepC w F d [y]
theorem all_append {α:Type} (p:α→Bool) (a b:List α):(a++b).all p=(a.all p&&b.all p):=by simp
mutual
theorem RepC_mono {w w':World} {F F':Nat→Prop} (hF:∀b,F b→F' b) (hw:∀b,F b→w'.heap[b]?=w.heap[b]?) :
  ∀(d:D) (vs:List Value),RepC w F d vs→RepC w' F' d vs
 | .v _,_,h=>by simpa only [RepC] using h
 | .agg l,vs,h=>by
  simp only [RepC] at h ⊢;exact⟨bG hF hw l vs h.1,h.2⟩
 | .arr z l,vs,h=>by
  simp only [RepC] at h ⊢;obtain⟨A,c,us,h1,h2,h3,h4,h5⟩:=h;refine⟨A,c,us,h1,h2,bG hF hw l us h3,h4,fun hl=>?_⟩
  obtain⟨b,o,e,hb,hc⟩:=h5 hl;exact⟨b,o,e,hF b hb,fun i u hu=>(World.cell?_of_block (w:=w) (hw b hb)).trans (hc i u hu)⟩
 | .ptr l,vs,h=>by
  simp only [RepC] at h ⊢;obtain⟨b,o,us,h1,h2,h3,h4,h5⟩:=h;exact⟨b,o,us,h1,bG hF hw l us h2,h3,hF b h4,fun i u hu=>(World.cell?_of_block (w:=w) (hw b h4)).trans (h5 i u hu)⟩
 | .clo f l,vs,h=>by
  simp only [RepC] at h ⊢;obtain⟨us,h1,h2⟩:=h;exact⟨us,h1,bG hF hw l us h2⟩
 | .ifc,_,h=>by simpa only [RepC] using h
 | .raw _,_,h=>by simpa only [RepC] using h
 | .tup _,_,h=>by simp only [RepC] at h
 | .ref _ _,_,h=>by simp only [RepC] at h
 | .bad,_,h=>by simp only [RepC] at h
 | .itr _ _,_,h=>by simp only [RepC] at h
 | .mp l,vs,h=>by
  simp only [RepC] at h ⊢;rcases h with h | ⟨g,es,clock,h1,h2,h3,h4⟩
  ·exact .inl h
  ·exact .inr ⟨g,es,clock,h1,hF g h2,(hw g h2).trans h3,h4⟩
theorem bG {w w':World} {F F':Nat→Prop} (hF:∀b,F b→F' b) (hw:∀b,F b→w'.heap[b]?=w.heap[b]?) :
  ∀(l:List D) (vs:List Value),bW w F l vs→bW w' F' l vs
 | [],vs,h=>by simpa only [bW] using h
 | d::ds,vs,h=>by
  simp only [bW] at h ⊢;obtain⟨v1,v2,h1,h2,h3⟩:=h;exact⟨v1,v2,h1,RepC_mono hF hw d v1 h2,bG hF hw ds v2 h3⟩
end
theorem aK {w w':World} {F F':Nat→Prop} (hF:∀b,F b→F' b) (hw:∀b,F b→w'.heap[b]?=w.heap[b]?) {d:D} {y:Value} (h:bf w F d y):bf w' F' d y:=by
 cases d<;>simp only [bf] at h ⊢<;>first
  | exact h
  | exact RepC_mono hF hw _ _ h
  | (obtain⟨vs,h1,h2⟩:=h;exact⟨vs,h1,RepC_mono hF hw _ _ h2⟩)
theorem oM {w:World} {F:Nat→Prop}:∀(d:D) (vs:List Value),d.single=true→RepC w F d vs→∃y,vs=[y]∧y.cells=#[y]∧y.oneCell'=true:=by
 intro d vs hs h;cases d<;>simp only [RepC] at h<;>simp only [D.single] at hs
 case v x =>
  obtain⟨rfl,hf⟩:=h;cases x<;>simp_all [flat,aao,Value.oneCell']
 case arr z l=>obtain⟨A,c,us,rfl,_⟩:=h;exact⟨_,rfl,rfl,rfl⟩
 case ptr l=>obtain⟨b,o,us,rfl,_⟩:=h;exact⟨_,rfl,rfl,rfl⟩
 case clo f l=>obtain⟨us,rfl,_⟩:=h;exact⟨_,rfl,rfl,rfl⟩
 case ifc=>obtain⟨t,x,rfl⟩:=h;exact⟨_,rfl,rfl,rfl⟩
 case raw x=>obtain⟨rfl,A,n,c,rfl⟩:=h;exact⟨_,rfl,rfl,rfl⟩
 case mp l=>rcases h with ⟨rfl,_⟩ | ⟨g,es,clock,rfl,_⟩<;>exact⟨_,rfl,rfl,rfl⟩
 all_goals exact absurd hs (by simp)
theorem fI {d:D} (h:d.single=true):d.width=1∧d.cells=[d]:=by cases d<;>simp_all [D.single,D.width,D.cells]
theorem aA {w:World} {F:Nat→Prop} {d:D} {ds:List D} {vs:List Value}:bW w F (d::ds) vs↔∃v1 v2,vs=v1++v2∧RepC w F d v1∧bW w F ds v2:=by rw [bW]
theorem aW {w:World} {F:Nat→Prop} {vs:List Value}:bW w F [] vs↔vs=[]:=by rw [bW]
theorem dN {w:World} {F:Nat→Prop}:∀(l m:List D) (vs:List Value),bW w F (l++m) vs↔∃v1 v2,vs=v1++v2∧bW w F l v1∧bW w F m v2
 | [],m,vs=>by
  rw [aal];exact⟨fun h=>⟨[],vs,rfl,aW.2 rfl,h⟩,fun⟨v1,v2,e,h1,h2⟩=>by rw [aW.1 h1] at e;rw [e];exact h2⟩
 | d::l,m,vs=>by
  rw [aaE,aA];constructor
  ·rintro⟨v1,v2,rfl,h1,h2⟩
   obtain⟨u1,u2,rfl,h3,h4⟩:=(dN l m v2).1 h2;exact⟨v1++u1,u2,by simp,aA.2 ⟨v1,u1,rfl,h1,h3⟩,h4⟩
  ·rintro⟨v1,v2,rfl,h1,h2⟩
   obtain⟨u1,u2,rfl,h3,h4⟩:=aA.1 h1;exact⟨u1,u2++v2,by simp,h3,(dN l m _).2 ⟨u2,v2,rfl,h4,h2⟩⟩
theorem dC {w:World} {F:Nat→Prop}:∀(l:List D) (vs:List Value),l.all D.single=true→bW w F l vs→vs.length=l.length∧(∀u∈vs,u.oneCell'=true∧u.cells=#[u])∧∀(i:Nat) (d:D),l[i]?=some d→∃u,vs[i]?=some u∧RepC w F d [u]
 | [],vs,_,h=>by rw [aW] at h;subst h;simp
 | d::l,vs,hs,h=>by
  obtain⟨v1,v2,rfl,h1,h2⟩:=aA.1 h;simp only [aae,ZG] at hs;obtain⟨y,rfl,hy,hy'⟩:=oM d v1 hs.1 h1;obtain⟨g1,g2,g3⟩:=dC l v2 hs.2 h2;refine⟨by simp [g1],?_,?_⟩
  ·intro u hu
   rcases aam.1 hu with hu | hu
   ·simp at hu;subst hu;exact⟨hy',hy⟩
   ·exact g2 u hu
  ·intro i e he
   cases i with
   | zero=>simp at he;subst he;exact⟨y,rfl,h1⟩
   | succ i=>simpa using g3 i e (by simpa using he)
theorem nX {w:World} {F:Nat→Prop} {d:D} {vs:List Value} (h:RepC w F d vs):(∃l,d = .agg l)∨d.single=true:=by
 cases d
 case agg l=>exact .inl ⟨l,rfl⟩
 case tup l=>simp only [RepC] at h
 case ref i f=>simp only [RepC] at h
 case bad=>simp only [RepC] at h
 case itr s p=>simp only [RepC] at h
 all_goals exact .inr rfl
theorem sC {w:World} {F:Nat→Prop} {d:D} {vs:List Value} (h:RepC w F d vs):vs.length=d.width:=by
 rcases nX h with ⟨l,rfl⟩ | hs
 ·simp only [RepC] at h
  simpa [D.width,D.cells] using (dC l vs h.2 h.1).1
 ·obtain⟨y,rfl,_⟩:=oM _ _ hs h
  rw [(fI hs).1];rfl
theorem eZ {w:World} {F:Nat→Prop} {z:Nat}:∀(l:List D) (vs:List Value),bW w F l vs→(∀d∈l,d.width=z)→vs.length=l.length*z
 | [],vs,h,_=>by rw [aW] at h;subst h;simp
 | d::l,vs,h,hw=>by
  obtain⟨v1,v2,rfl,h1,h2⟩:=aA.1 h;rw [List.length_append,sC h1,eZ l v2 h2 (fun d hd=>hw d (by simp [hd])),hw d (by simp)];simp [Nat.succ_mul,Nat.add_comm]
theorem uU {w:World} {F:Nat→Prop} {z:Nat} (l:List D) (vs:List Value) (h:bW w F l vs) (hw:∀d∈l,d.width=z) (i:Nat) (d:D) (hd:l[i]?=some d) :
  ∃p m q,vs=p++m++q∧p.length=i*z∧m.length=z∧RepC w F d m∧bW w F (l.take i) p∧bW w F (l.drop (i+1)) q:=by
 have hi:i<l.length:=(ZL.1 hd).1;have e:l=l.take i++(d::l.drop (i+1)):=by
  have h1:l[i]=d:=(ZL.1 hd).2
  conv=>lhs;rw [←aat i l,List.drop_eq_getElem_cons hi,h1]
 rw [e] at h;obtain⟨p,r,rfl,hp,hr⟩:=(dN _ _ _).1 h;obtain⟨m,q,rfl,hm,hq⟩:=aA.1 hr;refine⟨p,m,q,by simp,?_,?_,hm,hp,hq⟩
 ·rw [eZ _ _ hp (fun d hd=>hw d (ZN hd)),ZQ]
  rw [Nat.min_eq_left (by omega)]
 ·rw [sC hm];exact hw d (List.mem_of_getElem? hd)
theorem nU {w:World} {F:Nat→Prop} {z:Nat} (l:List D) (vs:List Value) (h:bW w F l vs) (hw:∀d∈l,d.width=z) (i:Nat):bW w F (l.take i) (vs.take (i*z))∧bW w F (l.drop i) (vs.drop (i*z)):=by
 by_cases hi:i≤l.length
 ·rw [←aat i l] at h
  obtain⟨p,q,rfl,hp,hq⟩:=(dN _ _ _).1 h;have hl:p.length=i*z:=by
   rw [eZ _ _ hp (fun d hd=>hw d (ZN hd)),ZQ,Nat.min_eq_left hi]
  exact⟨by rw [←hl];simpa using hp,by rw [←hl];simpa using hq⟩
 ·have hl:=eZ l vs h hw
  have h2:vs.length≤i*z:=by rw [hl];exact Nat.mul_le_mul_right _ (by omega)
  rw [aap h2,ZX h2,aap (by omega),ZX (by omega)];exact⟨h,aW.2 rfl⟩
theorem mT {w:World} {F:Nat→Prop} (l:List D) (vs:List Value) (hs:l.all D.single=true) (h:bW w F l vs) (i:Nat):bW w F (l.take i) (vs.take i)∧bW w F (l.drop i) (vs.drop i):=by
 have:=nU (z:=1) l vs h (fun d hd=>(fI (ZR.1 hs d hd)).1) i;simpa using this
theorem Om {α:Type} {p:α→Bool} {l:List α} (h:l.all p=true) (i:Nat):(l.take i).all p=true:=ZR.2 fun x hx=>ZR.1 h x (ZN hx)
theorem qR {α:Type} {p:α→Bool} {l:List α} (h:l.all p=true) (i:Nat):(l.drop i).all p=true:=ZR.2 fun x hx=>ZR.1 h x (aab hx)
theorem dQ.take {w:World} {b o:Nat} {us:List Value} (h:dQ w b o us) (n:Nat):dQ w b o (us.take n):=fun i u hu=>h i u (by
 rw [List.getElem?_take] at hu;split at hu
 ·exact hu
 ·cases hu)
theorem dQ.drop {w:World} {b o:Nat} {us:List Value} (h:dQ w b o us) (n:Nat):dQ w b (o+n) (us.drop n):=fun i u hu=>by
 rw [aaz] at hu;rw [aav];exact h _ u hu
theorem dQ.part {w:World} {b o:Nat} {p m q:List Value} (h:dQ w b o (p++m++q)):dQ w b (o+p.length) m:=fun i u hu=>by
 rw [aav];refine h _ u ?_
 have hi:i<m.length:=by
  rcases aaA i m.length with hi | hi
  ·exact hi
  ·rw [List.getElem?_eq_none hi] at hu;cases hu
 rw [List.append_assoc,List.getElem?_append_right (by omega),Nat.add_sub_cancel_left,List.getElem?_append_left hi];exact hu
theorem gB {w:World} {F:Nat→Prop} {d:D} {y:Value} (hs:d.single=true):bf w F d y↔RepC w F d [y]:=by
 cases d<;>simp_all [D.single,bf]
theorem Rc {w:World} {F:Nat→Prop} {d:D} {y:Value} (h:bf w F d y) (hn:∀l,d ≠ .tup l):(∃l,d = .agg l)∨d.single=true:=by
 cases d
 case agg l=>exact .inl ⟨l,rfl⟩
 case tup l=>exact absurd rfl (hn l)
 all_goals exact(nX (vs:=[y]) h).elim (fun⟨_,e⟩=>by cases e) .inr
theorem sb {d:D} (h:d.cells.all D.single=true) (l:List D):d ≠ .tup l:=by
 rintro rfl;simp [D.cells,D.single] at h
theorem fV {w:World} {F:Nat→Prop} {d:D} {y:Value} (h:bf w F d y) (hn:∀l,d ≠ .tup l):RepC w F d y.cells.toList∧d.cells.all D.single=true∧bW w F d.cells y.cells.toList:=by
 rcases Rc h hn with ⟨l,rfl⟩ | hs
 ·obtain⟨vs,rfl,hr⟩:=h
  have hr':=hr;simp only [RepC] at hr';exact⟨by simpa [aao] using hr,hr'.2,by simpa [aao,D.cells] using hr'.1⟩
 ·rw [gB hs] at h
  obtain⟨u,hu,hc,_⟩:=oM _ _ hs h;simp at hu;subst hu;rw [(fI hs).2,hc];exact⟨h,by simp [hs],aA.2 ⟨_,[],by simp,h,aW.2 rfl⟩⟩
theorem cX {w:World} {F:Nat→Prop} {x y:Value}:bf w F (.v x) y↔y=x∧flat x=true:=by simp [bf,RepC]
theorem SD {w:World} {F:Nat→Prop} {y:Value}:¬bf w F .bad y:=by simp [bf,RepC]
theorem VY {w:World} {F:Nat→Prop} {d:D} {y:Value} (h:bf w F d y):d ≠ .bad:=fun e=>SD (e ▸ h)
theorem zW {w w':World} {F F':Nat→Prop}:∀(l:List D) (vs:List Value),(l.all fun | .v _=>true | _=>false)=true→bW w F l vs→bW w' F' l vs
 | [],vs,_,h=>by simpa only [bW] using h
 | d::l,vs,hv,h=>by
  obtain⟨v1,v2,rfl,h1,h2⟩:=aA.1 h;simp only [aae,ZG] at hv;refine aA.2 ⟨v1,v2,rfl,?_,zW l v2 hv.2 h2⟩
  cases d<;>simp at hv;simpa only [RepC] using h1
theorem rJ {w w':World} {F F':Nat→Prop} {d:D} {y:Value} (hv:d.isV=true) (h:bf w F d y):bf w' F' d y:=by
 cases d
 case v x=>exact cX.2 (cX.1 h)
 case agg l =>
  obtain⟨vs,rfl,hr⟩:=h;refine⟨vs,rfl,?_⟩
  simp only [RepC] at hr ⊢;exact⟨zW l vs hv hr.1,hr.2⟩
 all_goals exact absurd hv (by simp [D.isV])
set_option maxRecDepth 100000
def gq:List D→List Value→Bool
 | [],[]=>true
 | .v (.int k a)::l,.int k' b::m=>k==k'&&a==b&&gq l m
 | .v (.bool a)::l,.bool b::m=>a==b&&gq l m
 | .v (.string a)::l,.string b::m=>a.data.toList==b.data.toList&&gq l m
 | .v .nilFunc::l,.nilFunc::m=>gq l m
 | .v .nilIface::l,.nilIface::m=>gq l m
 | .v (.pointer none)::l,.pointer none::m=>gq l m
 | .arr _ []::l,.slice none 0 0::m=>gq l m
 | .mp []::l,.map none::m=>gq l m
 | _,_=>false
def IC (P:Program):List Field→List (Nat × Nat)→Bool
 | [],[]=>true
 | f::fs,(o,t)::l=>f.offset==o&&f.type==t&&(match P.info? t with
  | some x=>x.size != 0
  | none=>false)&&IC P fs l
 | _,_=>false
def Wi (P:Program) (t c:Nat):Bool :=
 match P.underlying t with
 | some (.int _)=>c==1
 | some .bool=>c==2
 | some .string=>c==3
 | _=>false
def Pn (P:Program):Nat→List Field→List Nat→Bool
 | _,[],[]=>true
 | n,f::fs,c::cs=>f.name != "_"&&f.offset==n&&Wi P f.type c&&Pn P (n+1) fs cs
 | _,_,_=>false
def AJ:Value→Bool
 | .agg _=>true
 | _=>false
def Uo (P:Program):TypeDesc→Bool
 | .map k e=>match P.underlying k,P.underlying e,P.info? e with
  | some (.int .i64),some .bool,some y=>match y.zero with
   | some (.bool false)=>true
   | _=>false
  | _,_,_=>false
 | _=>false
def Qu (P:Program) (t:Nat) (i:TI):Bool :=
 match P.info? t,P.underlying t with
 | some x,some u =>
  (!i.ifc||(match u with
   | .interface _=>true
   | _=>false))&&(!i.mp||Uo P u)&&x.size==i.n&&(match x.zero with
   | some z=>gq i.zero z.cells.toList&&AJ z==i.agg&&i.zero.length==i.n
   | none=>false) &&
  (match u with
   | .struct fs=>i.agg&&i.alen==0&&i.ez==0&&i.ik==none && !i.str && !i.bl&&IC P fs.toList i.fs &&
     (i.eq==[]||(Pn P 0 fs.toList i.eq&&fs.size==i.n && !P.eqGuardType P.depth t && !P.stoodInHeld t))
   | .array n e=>i.agg&&i.alen==n&&n != 0&&i.elem==e&&i.fs==[]&&i.ik==none && !i.str && !i.bl&&i.eq==[]&&(match P.info? e with
    | some y=>y.size==i.ez&&y.size != 0
    | none=>false)&&i.n==n*i.ez
   | .slice e=>!i.agg&&i.alen==0&&i.elem==e&&i.fs==[]&&i.ik==none && !i.str && !i.bl&&i.eq==[]&&(match P.info? e with
    | some y=>y.size==i.ez&&y.size != 0&&y.bytes==i.eb&&y.bytes != 0
    | none=>false)
   | .int k=>!i.agg&&i.alen==0&&i.ez==0&&i.fs==[]&&i.ik==some k && !i.str && !i.bl&&i.eq==[]
   | .string=>!i.agg&&i.alen==0&&i.ez==0&&i.fs==[]&&i.ik==none&&i.str && !i.bl&&i.eq==[]
   | .bool=>!i.agg&&i.alen==0&&i.ez==0&&i.fs==[]&&i.ik==none && !i.str&&i.bl&&i.eq==[]
   | _=>!i.agg&&i.alen==0&&i.ez==0&&i.fs==[]&&i.ik==none && !i.str && !i.bl&&i.eq==[])
 | _,_=>false
def okT (P:Program):List (Nat × TI)→Bool
 | []=>true
 | (t,i)::l=>Qu P t i&&okT P l
theorem Oe {α:Type}:∀(l:List (Nat × α)) (n:Nat) (a:α),dr l n=some a→(n,a)∈l
 | [],_,_,h=>by simp [dr] at h
 | (k,b)::l,n,a,h=>by
  simp only [dr] at h;split at h
  ·rename_i hb
   have:k=n:=aaa hb;subst this;cases h;simp
  ·exact aau _ (Oe l n a h)
theorem TZ {P:Program} {T:List (Nat × TI)} (h:okT P T=true) {t:Nat} {i:TI} (hl:dr T t=some i):Qu P t i=true:=by
 have:=Oe T t i hl;clear hl;induction T with
 | nil=>cases this
 | cons p T ih =>
  obtain⟨t',i'⟩:=p;simp only [okT,ZG] at h;rcases ZZ.1 this with e | e
  ·cases e;exact h.1
  ·exact ih h.2 e
structure TOk (P:Program) (t:Nat) (i:TI):Prop where
 info:∃x z,P.info? t=some x∧x.size=i.n∧x.zero=some z∧gq i.zero z.cells.toList=true∧AJ z=i.agg
 zl:i.zero.length=i.n
 und:(P.underlying t).isSome=true
 agg:∀w:World,(isAgg t).run P w = .ok i.agg w
 sl:i.ez≠0→i.alen=0→P.underlying t=some (.slice i.elem)∧i.agg=false∧0<i.ez∧0<i.eb∧∃y,P.info? i.elem=some y∧y.size=i.ez∧y.bytes=i.eb
 ar:i.alen≠0→P.underlying t=some (.array i.alen i.elem)∧i.agg=true∧0<i.ez∧i.n=i.alen*i.ez∧∃y,P.info? i.elem=some y∧y.size=i.ez
 fs:∀(f:Nat) (o ty:Nat),i.fs[f]?=some (o,ty)→∃fs fl,P.underlying t=some (.struct fs)∧fs[f]?=some fl∧fl.offset=o∧fl.type=ty∧i.agg=true∧∃y,P.info? ty=some y∧y.size≠0
 st:i.agg=true→i.alen=0→∃fs,P.underlying t=some (.struct fs)∧IC P fs.toList i.fs=true
 eq:i.eq≠[]→∃fs,P.underlying t=some (.struct fs)∧Pn P 0 fs.toList i.eq=true∧fs.size=i.n∧P.eqGuardType P.depth t=false∧P.stoodInHeld t=false
 ik:∀k,i.ik=some k→P.underlying t=some (.int k)
 str:i.str=true→P.underlying t=some .string∧i.ez=0∧i.alen=0
 bl:i.bl=true→P.underlying t=some .bool
 ifc:i.ifc=true→∃ms,P.underlying t=some (.interface ms)
 mp:i.mp=true→∃k e,P.underlying t=some (.map k e)∧P.underlying k=some (.int .i64)∧∀w:World,(zeroValue e).run P w = .ok (.bool false) w
theorem Nh {P:Program}:∀(fs:List Field) (l:List (Nat × Nat)),IC P fs l=true→∀(f o ty:Nat),l[f]?=some (o,ty)→∃fl,fs[f]?=some fl∧fl.offset=o∧fl.type=ty∧∃y,P.info? ty=some y∧y.size≠0
 | [],[],_,f,o,ty,h=>by simp at h
 | g::fs,(o',t')::l,hk,f,o,ty,h=>by
  simp only [IC,ZG,beq_iff_eq] at hk;obtain⟨⟨⟨h1,h2⟩,h3⟩,h4⟩:=hk;cases f with
  | zero =>
   simp at h;obtain⟨rfl,rfl⟩:=h;refine⟨g,rfl,h1,h2,?_⟩
   split at h3
   ·rename_i x hx;exact⟨x,hx,by simpa using h3⟩
   ·cases h3
  | succ f=>exact Nh fs l h4 f o ty (by simpa using h)
 | [],_::_,hk,_,_,_,_=>by simp [IC] at hk
 | _::_,[],hk,_,_,_,_=>by simp [IC] at hk
def SU:TypeDesc→Bool
 | .struct _=>true
 | .array _ _=>true
 | _=>false
theorem Fb {P:Program} {t:Nat} {i:TI} (h:Qu P t i=true):TOk P t i:=by
 unfold Qu at h;split at h
 case h_2=>cases h
 case h_1 x u hx hu =>
  simp only [ZG] at h;obtain⟨⟨⟨⟨hif,hmc⟩,hn⟩,hz⟩,hk⟩:=h;have hmp:i.mp=true→∃k e,P.underlying t=some (.map k e)∧P.underlying k=some (.int .i64)∧∀w:World,(zeroValue e).run P w = .ok (.bool false) w:=by
   intro e;rw [e] at hmc;simp only [aaw,Bool.false_or] at hmc;unfold Uo at hmc;split at hmc
   case h_2=>cases hmc
   rename_i k el;split at hmc
   case h_2=>cases hmc
   rename_i y e1 e2 e3;split at hmc
   case h_2=>cases hmc
   rename_i e4;exact⟨k,el,hu,e1,fun w=>by simp [zeroValue,typeInfo,e3,e4]⟩
  clear hmc;have hifc:i.ifc=true→∃ms,P.underlying t=some (.interface ms):=by
   intro e;rw [e] at hif;simp only [aaw,Bool.false_or] at hif;split at hif
   ·rename_i ms;exact⟨ms,hu⟩
   ·cases hif
  clear hif;have hinfo:∃x z,P.info? t=some x∧x.size=i.n∧x.zero=some z∧gq i.zero z.cells.toList=true∧AJ z=i.agg:=by
   split at hz
   ·rename_i z hzz
    simp only [ZG,beq_iff_eq] at hz;exact⟨x,z,hx,by simpa using hn,hzz,hz.1.1,hz.1.2⟩
   ·cases hz
  have hzl:i.zero.length=i.n:=by
   split at hz
   ·simp only [ZG,beq_iff_eq] at hz
    exact hz.2
   ·cases hz
  have hund:(P.underlying t).isSome=true:=by rw [hu];rfl
  have hagg:∀(w:World) (b:Bool),SU u=b→(isAgg t).run P w = .ok b w:=by
   intro w b hb;subst hb;simp only [isAgg,ZI,run_underlying hu,ZF];cases u<;>rfl
  have mk:∀(b:Bool),SU u=false→i.agg=false→i.alen=0→i.ez=0→i.fs=[]→i.eq=[] →
    (∀k,i.ik=some k→P.underlying t=some (.int k))→(i.str=true→P.underlying t=some .string)→(i.bl=true→P.underlying t=some .bool)→TOk P t i:=by
   intro _ hb a1 a2 a3 a4 a5 a6 a7 a8;exact⟨hinfo,hzl,hund,fun w=>hagg w _ (hb.trans a1.symm),fun h=>absurd a3 h,fun h=>absurd a2 h,fun f o ty hf=>by(rw [a4] at hf;simp at hf),fun h=>by(rw [a1] at h;cases h),fun h=>absurd a5 h,a6,fun h=>⟨a7 h,a3,a2⟩,a8,hifc,hmp⟩
  have other:(!i.agg&&i.alen==0&&i.ez==0&&i.fs==[]&&i.ik==none && !i.str && !i.bl&&i.eq==[])=true →
    (i.agg=false→i.alen=0→i.ez=0→i.fs=[]→i.eq=[]→(∀k,i.ik=some k→P.underlying t=some (.int k))→(i.str=true→P.underlying t=some .string)→(i.bl=true→P.underlying t=some .bool)→TOk P t i)→TOk P t i:=by
   intro hk mk;simp only [ZG,ZK,beq_iff_eq] at hk;obtain⟨⟨⟨⟨⟨⟨⟨a1,a2⟩,a3⟩,a4⟩,a5⟩,a6⟩,a7⟩,a8⟩:=hk;exact mk a1 a2 a3 a4 a8 (fun k' hk=>by(rw [a5] at hk;cases hk)) (fun h=>by(rw [a6] at h;cases h)) (fun h=>by(rw [a7] at h;cases h))
  clear hz hn
  match u,hu,hk,hagg,mk with
  | .struct fs,hu,hk,hagg,_ =>
   simp only [ZG,ZK,beq_iff_eq] at hk;obtain⟨⟨⟨⟨⟨⟨⟨a1,a2⟩,a3⟩,a4⟩,a5⟩,a6⟩,a7⟩,a8⟩:=hk;refine⟨hinfo,hzl,hund,fun w=>hagg w _ a1.symm,fun h=>absurd a3 h,fun h=>absurd a2 h,fun f o ty hf=>?_,fun _ _=>⟨fs,hu,a7⟩,fun he=>?_,fun k hk=>by(rw [a4] at hk;cases hk),fun h=>by(rw [a5] at h;cases h),fun h=>by(rw [a6] at h;cases h),hifc,hmp⟩
   ·obtain⟨fl,h1,h2,h3,h4⟩:=Nh _ _ a7 f o ty hf
    exact⟨fs,fl,hu,by simpa using h1,h2,h3,a1,h4⟩
   ·simp only [Bool.or_eq_true,beq_iff_eq,ZG,ZK] at a8
    rcases a8 with a8 | a8
    ·exact absurd a8 he
    ·exact⟨fs,hu,a8.1.1.1,a8.1.1.2,a8.1.2,a8.2⟩
  | .array n e,hu,hk,hagg,_ =>
   simp only [ZG,ZK,beq_iff_eq,bne_iff_ne,ne_eq] at hk;obtain⟨⟨⟨⟨⟨⟨⟨⟨⟨⟨a1,a2⟩,a3⟩,a4⟩,a5⟩,a6⟩,a7⟩,a8⟩,a9⟩,a10⟩,a11⟩:=hk;refine⟨hinfo,hzl,hund,fun w=>hagg w _ a1.symm,fun _ h=>absurd (a2 ▸ h) a3,fun _=>?_,fun f o ty hf=>by(rw [a5] at hf;simp at hf),fun _ h=>absurd (a2 ▸ h) a3,fun h=>absurd a9 h,fun k hk=>by(rw [a6] at hk;cases hk),fun h=>by(rw [a7] at h;cases h),fun h=>by(rw [a8] at h;cases h),hifc,hmp⟩
   split at a10
   ·rename_i y hy
    simp only [ZG,beq_iff_eq,bne_iff_ne,ne_eq] at a10;refine⟨by rw [hu,a2,a4],a1,by omega,by rw [a2];exact a11,y,by rw [a4];exact hy,a10.1⟩
   ·cases a10
  | .slice e,hu,hk,hagg,_ =>
   simp only [ZG,ZK,beq_iff_eq] at hk;obtain⟨⟨⟨⟨⟨⟨⟨⟨a1,a2⟩,a3⟩,a4⟩,a5⟩,a6⟩,a7⟩,a8⟩,a9⟩:=hk;refine⟨hinfo,hzl,hund,fun w=>hagg w _ a1.symm,fun _ _=>?_,fun h=>absurd a2 h,fun f o ty hf=>by(rw [a4] at hf;simp at hf),fun h=>by(rw [a1] at h;cases h),fun h=>absurd a8 h,fun k hk=>by(rw [a5] at hk;cases hk),fun h=>by(rw [a6] at h;cases h),fun h=>by(rw [a7] at h;cases h),hifc,hmp⟩
   split at a9
   ·rename_i y hy
    simp only [ZG,beq_iff_eq,bne_iff_ne,ne_eq] at a9;obtain⟨⟨⟨b1,b2⟩,b3⟩,b4⟩:=a9;exact⟨by rw [hu,a3],a1,by omega,by omega,y,by rw [a3];exact hy,b1,b3⟩
   ·cases a9
  | .int k,hu,hk,_,mk =>
   simp only [ZG,ZK,beq_iff_eq] at hk;obtain⟨⟨⟨⟨⟨⟨⟨a1,a2⟩,a3⟩,a4⟩,a5⟩,a6⟩,a7⟩,a8⟩:=hk;exact mk true rfl a1 a2 a3 a4 a8 (fun k' hk=>by rw [a5] at hk;cases hk;exact hu) (fun h=>by rw [a6] at h;cases h) (fun h=>by rw [a7] at h;cases h)
  | .string,hu,hk,_,mk =>
   simp only [ZG,ZK,beq_iff_eq] at hk;obtain⟨⟨⟨⟨⟨⟨⟨a1,a2⟩,a3⟩,a4⟩,a5⟩,a6⟩,a7⟩,a8⟩:=hk;exact mk true rfl a1 a2 a3 a4 a8 (fun k' hk=>by rw [a5] at hk;cases hk) (fun _=>hu) (fun h=>by rw [a7] at h;cases h)
  | .bool,hu,hk,_,mk =>
   simp only [ZG,ZK,beq_iff_eq] at hk;obtain⟨⟨⟨⟨⟨⟨⟨a1,a2⟩,a3⟩,a4⟩,a5⟩,a6⟩,a7⟩,a8⟩:=hk;exact mk true rfl a1 a2 a3 a4 a8 (fun k' hk=>by rw [a5] at hk;cases hk) (fun h=>by rw [a6] at h;cases h) (fun _=>hu)
  | .invalid,_,hk,_,mk=>exact other hk (mk true rfl)
  | .float _,_,hk,_,mk=>exact other hk (mk true rfl)
  | .complex _,_,hk,_,mk=>exact other hk (mk true rfl)
  | .unsafePointer,_,hk,_,mk=>exact other hk (mk true rfl)
  | .pointer _,_,hk,_,mk=>exact other hk (mk true rfl)
  | .map _ _,_,hk,_,mk=>exact other hk (mk true rfl)
  | .chan _ _,_,hk,_,mk=>exact other hk (mk true rfl)
  | .func _ _ _,_,hk,_,mk=>exact other hk (mk true rfl)
  | .interface _,_,hk,_,mk=>exact other hk (mk true rfl)
  | .tuple _,_,hk,_,mk=>exact other hk (mk true rfl)
  | .named _ _,_,hk,_,mk=>exact other hk (mk true rfl)
theorem TOk.size {P:Program} {t:Nat} {i:TI} (h:TOk P t i) (w:World):(sizeOf t).run P w = .ok i.n w:=by
 obtain⟨x,z,hx,hn,_⟩:=h.info;simp [sizeOf,typeInfo,hx,hn]
theorem eS {P:Program} {e:Nat} {y:TypeInfo} (h:P.info? e=some y) (w:World):(sizeOf e).run P w = .ok y.size w:=by simp [sizeOf,typeInfo,h]
theorem Cr {w:World} {F:Nat→Prop} {x:Value} (h:flat x=true):RepC w F (.v x) [x]:=by simp only [RepC];exact⟨trivial,h⟩
theorem zX {w:World} {F:Nat→Prop} {z:Nat}:RepC w F (.arr z []) [.slice none 0 0]:=by
 simp only [RepC];exact⟨none,0,[],rfl,aaC _,aW.2 rfl,fun d hd=>(List.not_mem_nil hd).elim,fun h=>absurd rfl h⟩
theorem eQ {w:World} {F:Nat→Prop}:∀(l:List D) (vs:List Value),gq l vs=true→bW w F l vs∧l.all D.single=true
 | [],[],_=>⟨aW.2 rfl,rfl⟩
 | .v (.int k a)::l,.int k' b::m,h=>by
  simp only [gq,ZG,beq_iff_eq] at h;obtain⟨⟨rfl,rfl⟩,h⟩:=h;obtain⟨g1,g2⟩:=eQ (w:=w) (F:=F) l m h;exact⟨aA.2 ⟨_,_,rfl,Cr rfl,g1⟩,by simp [D.single,g2]⟩
 | .v (.bool a)::l,.bool b::m,h=>by
  simp only [gq,ZG,beq_iff_eq] at h;obtain⟨rfl,h⟩:=h;obtain⟨g1,g2⟩:=eQ (w:=w) (F:=F) l m h;exact⟨aA.2 ⟨_,_,rfl,Cr rfl,g1⟩,by simp [D.single,g2]⟩
 | .v (.string a)::l,.string b::m,h=>by
  simp only [gq,ZG,beq_iff_eq] at h;obtain⟨h1,h⟩:=h;have e:a=b:=by
   obtain⟨⟨a⟩⟩:=a;obtain⟨⟨b⟩⟩:=b;simpa using h1
  subst e;obtain⟨g1,g2⟩:=eQ (w:=w) (F:=F) l m h;exact⟨aA.2 ⟨_,_,rfl,Cr rfl,g1⟩,by simp [D.single,g2]⟩
 | .v .nilFunc::l,.nilFunc::m,h=>by
  obtain⟨g1,g2⟩:=eQ (w:=w) (F:=F) l m (by simpa [gq] using h);exact⟨aA.2 ⟨_,_,rfl,Cr rfl,g1⟩,by simp [D.single,g2]⟩
 | .v .nilIface::l,.nilIface::m,h=>by
  obtain⟨g1,g2⟩:=eQ (w:=w) (F:=F) l m (by simpa [gq] using h);exact⟨aA.2 ⟨_,_,rfl,Cr rfl,g1⟩,by simp [D.single,g2]⟩
 | .v (.pointer none)::l,.pointer none::m,h=>by
  obtain⟨g1,g2⟩:=eQ (w:=w) (F:=F) l m (by simpa [gq] using h);exact⟨aA.2 ⟨_,_,rfl,Cr rfl,g1⟩,by simp [D.single,g2]⟩
 | .arr z []::l,.slice none 0 0::m,h=>by
  obtain⟨g1,g2⟩:=eQ (w:=w) (F:=F) l m (by simpa [gq] using h);exact⟨aA.2 ⟨_,_,rfl,zX,g1⟩,by simp [D.single,g2]⟩
 | .mp []::l,.map none::m,h=>by
  obtain⟨g1,g2⟩:=eQ (w:=w) (F:=F) l m (by simpa [gq] using h);exact⟨aA.2 ⟨[.map none],_,rfl,by simp only [RepC];exact .inl ⟨trivial,trivial⟩,g1⟩,by simp [D.single,g2]⟩
theorem Rp {e:TI} (h:e.zero.all D.single=true) {m:List D} (hm:Dy e = .tup m):False:=by
 unfold Dy at hm;cases hg:e.agg<;>rw [hg] at hm<;>simp only at hm
 ·cases hz:e.zero with
  | nil=>rw [hz] at hm;cases hm
  | cons d l =>
   rw [hz] at h hm;simp only at hm;subst hm;simp [D.single] at h
 ·cases hm
theorem TOk.zero {P:Program} {t:Nat} {i:TI} (h:TOk P t i):∃z,(∀w:World,(zeroValue t).run P w = .ok z w)∧(∀(w:World) (F:Nat→Prop),bf w F (Dy i) z∧bW w F i.zero z.cells.toList)∧i.zero.all D.single=true∧z.cells.size=i.zero.length:=by
 obtain⟨x,z,hx,hn,hz,h0,ha⟩:=h.info;obtain⟨_,hs⟩:=eQ (w:=default) (F:=fun _=>True) _ _ h0;refine⟨z,fun w=>by simp [zeroValue,typeInfo,hx,hz],fun w F=>?_,hs,?_⟩
 ·obtain⟨g,_⟩:=eQ (w:=w) (F:=F) _ _ h0
  refine⟨?_,g⟩
  unfold Dy;cases hb:i.agg
  ·cases z<;>first
    | (simp only [AJ] at ha;rw [hb] at ha;cases ha)
    | skip
   all_goals
    simp only [aao] at g;generalize i.zero=l at g hs;cases l with
    | nil=>rw [aW] at g;cases g
    | cons d l =>
     obtain⟨v1,v2,e,h1,h2⟩:=aA.1 g;simp only [aae,ZG] at hs;obtain⟨y,rfl,_⟩:=oM d v1 hs.1 h1;simp at e;rw [gB hs.1,e.1];exact h1
  ·cases z<;>first
    | (simp only [AJ] at ha;rw [hb] at ha;cases ha)
    | skip
   exact⟨_,rfl,by simp only [RepC];exact⟨g,hs⟩⟩
 ·obtain⟨g,_⟩:=eQ (w:=default) (F:=fun _=>True) _ _ h0
  simpa using (dC _ _ hs g).1
set_option maxRecDepth 100000
def de (w:World) (F:Nat→Prop) (d:D) (y:Value):Prop:=d = .bad∨bf w F d y
section
variable {P:Program} {w:World} {F G:Nat→Prop}
theorem de.rep {d:D} {y:Value} (h:de w F d y) (hd:d ≠ .bad):bf w F d y:=h.resolve_left hd
theorem br {x y:Value} (h:de w F (.v x) y):y=x∧flat x=true:=cX.1 (h.rep (by simp))
theorem fb {x:Value} (hx:flat x=true):bf w F (.v x) x:=cX.2 ⟨rfl,hx⟩
theorem CY:∀(fs:List Field) (n:Nat) (c:List Nat) (l m:List D) (us vs xs ys:List Value) (q:Bool),Pn P n fs c=true→tW c l m=some q→xs.length=n→ys.length=n→bW w F l us→bW w G m vs →
  (aaq 9999 (xs++us).toArray (ys++vs).toArray fs).run P w = .ok q w
 | [],n,[],l,m,us,vs,xs,ys,q,_,he,_,_,_,_=>by
  cases l<;>cases m<;>simp [tW] at he;subst he;simp [aaq]
 | f::fs,n,c::cs,l,m,us,vs,xs,ys,q,hk,he,hx,hy,hu,hv=>by
  simp only [Pn,ZG,bne_iff_ne,ne_eq,beq_iff_eq] at hk;obtain⟨⟨⟨h1,h2⟩,h3⟩,h4⟩:=hk;have fin:∀(a b:Value) (l' m':List D) (us' vs':List Value) (r:Bool),us=a::us'→vs=b::vs'→bW w F l' us'→bW w G m' vs'→(tW cs l' m').map (r&&·)=some q →
    (isAgg f.type).run P w = .ok false w→(ZO 9999 f.type a b).run P w = .ok r w→(aaq 9999 (xs++us).toArray (ys++vs).toArray (f::fs)).run P w = .ok q w:=by
   intro a b l' m' us' vs' r e1 e2 g1 g2 g4 p0 p3;subst e1 e2;have p1:(part f.type (xs++a::us').toArray f.offset).run P w = .ok a w:=by simp [part,p0,h2,hx]
   have p2:(part f.type (ys++b::vs').toArray f.offset).run P w = .ok b w:=by simp [part,p0,h2,hy]
   obtain⟨q',g3,g5⟩:=ZJ.1 g4;simp only [aaq,h1,not_false_eq_true,if_true,ne_eq,ZI,p1,p2,p3,ZF,Sem.run_ite];cases r
   ·simp at g5;simp [g5]
   ·simp only [aaw,ZW,if_false,Bool.true_and] at g5 ⊢
    subst g5;have ih:=CY fs (n+1) cs l' m' us' vs' (xs++[a]) (ys++[b]) q' h4 g3 (by simp [hx]) (by simp [hy]) g1 g2;simpa using ih
  unfold tW at he;split at he
  ·cases ‹_::_=[]›
  ·rename_i c' k a l' k' b m' _
   split at he
   ·rename_i hkk
    subst hkk;obtain⟨v1,v2,rfl,r1,r2⟩:=aA.1 hu;obtain⟨u1,u2,rfl,s1,s2⟩:=aA.1 hv;simp only [RepC] at r1 s1;obtain⟨rfl,_⟩:=r1;obtain⟨rfl,_⟩:=s1;cases ‹c::cs=_›;unfold Wi at h3;split at h3<;>simp at h3
    rename_i kk hu;exact fin _ _ _ _ _ _ _ rfl rfl r2 s2 he (by simp [isAgg,run_underlying hu]) (run_equalIn_int w _ _ _ _ _ _ hu)
   ·cases he
  ·rename_i c' a l' b m' _
   obtain⟨v1,v2,rfl,r1,r2⟩:=aA.1 hu;obtain⟨u1,u2,rfl,s1,s2⟩:=aA.1 hv;simp only [RepC] at r1 s1;obtain⟨rfl,_⟩:=r1;obtain⟨rfl,_⟩:=s1;cases ‹c::cs=_›;unfold Wi at h3;split at h3<;>simp at h3
   rename_i hu;exact fin _ _ _ _ _ _ _ rfl rfl r2 s2 he (by simp [isAgg,run_underlying hu]) (run_equalIn_bool' w _ _ _ _ hu)
  ·rename_i c' a l' b m' _
   obtain⟨v1,v2,rfl,r1,r2⟩:=aA.1 hu;obtain⟨u1,u2,rfl,s1,s2⟩:=aA.1 hv;simp only [RepC] at r1 s1;obtain⟨rfl,_⟩:=r1;obtain⟨rfl,_⟩:=s1;cases ‹c::cs=_›;unfold Wi at h3;split at h3<;>simp at h3
   rename_i hu;exact fin _ _ _ _ _ _ _ rfl rfl r2 s2 he (by simp [isAgg,run_underlying hu]) (run_equalIn_string w _ _ _ _ hu)
  ·cases he
 | [],n,_::_,_,_,_,_,_,_,_,hk,_,_,_,_,_=>by simp [Pn] at hk
 | _::_,n,[],_,_,_,_,_,_,_,hk,_,_,_,_,_=>by simp [Pn] at hk
theorem Wz {op:BinOp} {t:Nat} {k:IntKind} {a b:Int} {z:D} (h:jX op k a b=some z):∃v,(binOp op t (.int k a) (.int k b)).run P w = .ok v w∧z = .v v∧flat v=true:=by
 cases op<;>simp only [jX,aaf] at h
 case quo =>
  split at h<;>simp at h
  rename_i hb;exact⟨_,by simp [binOp_quo,Op.intDiv,hb],h.symm,rfl⟩
 case rem =>
  split at h<;>simp at h
  rename_i hb;exact⟨_,by simp [binOp_rem,Op.intDiv,hb],h.symm,rfl⟩
 case shl=>cases h
 case shr=>cases h
 all_goals
  subst h;refine⟨_,?_,rfl,rfl⟩
  first
  | simp [binOp_add,aar];done
  | simp [binOp_sub,aar];done
  | simp [binOp_mul,aar];done
  | simp [binOp_and,intBits_and];done
  | simp [binOp_or,intBits_or];done
  | simp [binOp_xor,intBits_xor];done
  | simp [binOp_andNot,intBits_andNot];done
  | simp [binOp_eql];done
  | simp [binOp_neq];done
  | simp [binOp_lss];done
  | simp [binOp_leq];done
  | simp [binOp_gtr];done
  | simp [binOp_geq];done
theorem VW {op:BinOp} {t:Nat} {a b:ByteArray} {z:D} (h:yD op a b=some z):∃v,(binOp op t (.string a) (.string b)).run P w = .ok v w∧z = .v v∧flat v=true:=by
 have e:binOp op t (.string a) (.string b)=aaD op a b:=by cases op<;>rfl
 rw [e];cases op<;>simp only [yD,aaf] at h<;>try (cases h;done)
 case add =>
  split at h<;>simp at h
  rename_i hb;subst h;refine⟨_,?_,rfl,rfl⟩
  have:¬(((a.size+b.size:Nat):Int)>IntKind.i64.max):=by rw [IntKind.max_i64];omega
  simp only [aaD,if_neg this,ZM]
 all_goals
  subst h;exact⟨_,by simp [aaD],rfl,rfl⟩
theorem Wq {op:BinOp} {t:Nat} {i:TI} (hi:TOk P t i) {a b z:D} {x y:Value} (ox oy:Operand) (ha:de w F a x) (hb:de w G b y) (h:bin op i.bl i.eq a b=some z) :
  ∃v,(do eqGuard op t ox oy x y;binOp op t x y:Sem Value).run P w = .ok v w∧z = .v v∧flat v=true:=by
 unfold bin at h;split at h
 ·rename_i k a' _ b'
  obtain⟨rfl,_⟩:=br ha;obtain⟨rfl,_⟩:=br hb;split at h<;>simp at h
  rename_i h0;subst h;refine⟨_,?_,rfl,rfl⟩
  rw [eqGuard_at_int];simp [binOp_shl,Op.shift,Int.not_lt.2 h0]
 ·rename_i k a' _ b'
  obtain⟨rfl,_⟩:=br ha;obtain⟨rfl,_⟩:=br hb;split at h<;>simp at h
  rename_i h0;subst h;refine⟨_,?_,rfl,rfl⟩
  rw [eqGuard_at_int];simp [binOp_shr,Op.shift,Int.not_lt.2 h0]
 ·rename_i k a' k' b' _ _
  obtain⟨rfl,_⟩:=br ha;obtain⟨rfl,_⟩:=br hb;by_cases hk:k=k'
  case neg=>rw [if_neg hk] at h;cases h
  rw [if_pos hk] at h;subst hk;obtain⟨v,h1,h2,h3⟩:=Wz (P:=P) (w:=w) (t:=t) h;refine⟨v,?_,h2,h3⟩
  rw [eqGuard_at_int];simpa using h1
 ·obtain⟨rfl,_⟩:=br ha
  obtain⟨rfl,_⟩:=br hb;obtain⟨v,h1,h2,h3⟩:=VW (P:=P) (w:=w) (t:=t) h;refine⟨v,?_,h2,h3⟩
  rw [eqGuard_at_string];simpa using h1
 ·obtain⟨rfl,_⟩:=br ha
  obtain⟨rfl,_⟩:=br hb;split at h<;>simp at h
  rename_i hbl;subst h;refine⟨_,?_,rfl,rfl⟩
  rw [eqGuard_at_bool];simp [binOp,ZS,ZY,run_equalIn_bool' w _ t _ _ (hi.bl hbl)]
 ·obtain⟨rfl,_⟩:=br ha
  obtain⟨rfl,_⟩:=br hb;split at h<;>simp at h
  rename_i hbl;subst h;refine⟨_,?_,rfl,rfl⟩
  rw [eqGuard_at_bool];simp [binOp,ZS,ZY,run_equalIn_bool' w _ t _ _ (hi.bl hbl)]
 ·split at h
  ·cases h
  ·rename_i he
   obtain⟨q,hq,rfl⟩:=ZJ.1 h;obtain⟨us,rfl,r1⟩:=ha.rep (by simp);obtain⟨vs,rfl,s1⟩:=hb.rep (by simp);simp only [RepC] at r1 s1;obtain⟨fs,f1,f2,f3,f4,f5⟩:=hi.eq he;have hfs:P.fieldsOf t=fs:=by simp [Program.fieldsOf,f1]
   refine⟨_,?_,rfl,rfl⟩
   have key:=CY (P:=P) fs.toList 0 i.eq _ _ us vs [] [] q f2 hq rfl rfl r1.1 s1.1;simp only [aal] at key;simp only [ZI,run_eqGuard_agg w _ _ _ _ _ _ f4,ZF,run_eql_struct,run_equalIn_agg w 9999 t _ _ (by rw [hfs];exact f1) f5,hfs,key]
 ·split at h
  ·cases h
  ·rename_i he
   obtain⟨q,hq,rfl⟩:=ZJ.1 h;obtain⟨us,rfl,r1⟩:=ha.rep (by simp);obtain⟨vs,rfl,s1⟩:=hb.rep (by simp);simp only [RepC] at r1 s1;obtain⟨fs,f1,f2,f3,f4,f5⟩:=hi.eq he;have hfs:P.fieldsOf t=fs:=by simp [Program.fieldsOf,f1]
   refine⟨_,?_,rfl,rfl⟩
   have key:=CY (P:=P) fs.toList 0 i.eq _ _ us vs [] [] q f2 hq rfl rfl r1.1 s1.1;simp only [aal] at key;simp only [ZI,run_eqGuard_agg w _ _ _ _ _ _ f4,ZF,run_neq_struct,run_equalIn_agg w 9999 t _ _ (by rw [hfs];exact f1) f5,hfs,key]
 ·cases h
theorem Tj {op:BinOp} {t:Nat} {i:TI} (hi:TOk P t i) (hs:nf i=true) {a z:D} {x:Value} (ox oy:Operand) (ha:de w F a x) (h:Yl op a=some z) :
  ∃v,(do eqGuard op t ox oy x (.slice none 0 0);binOp op t x (.slice none 0 0):Sem Value).run P w = .ok v w∧z = .v v∧flat v=true:=by
 have hez:i.ez≠0∧i.alen=0:=by
  unfold nf at hs;split at hs
  ·cases hs
  ·rename_i e1 h2
   exact⟨h2,e1⟩
  ·cases hs
 obtain⟨hu,_⟩:=hi.sl hez.1 hez.2;have eq1:∀(b:Addr) (n c:Nat),(ZS t (.slice (some b) n c) (.slice none 0 0)).run P w = .ok false w:=fun b n c=>by
  have h:∀d:Nat,(ZO (d+1) t (.slice (some b) n c) (.slice none 0 0)).run P w = .ok false w:=fun d=>by
   simp [ZO,run_underlying hu]
  simp [ZS,ZY,h 9999]
 have eq2:(ZS t (.slice none 0 0) (.slice none 0 0)).run P w = .ok true w:=by
  have h:∀d:Nat,(ZO (d+1) t (.slice none 0 0) (.slice none 0 0)).run P w = .ok true w:=fun d=>by
   simp [ZO,run_underlying hu]
  simp [ZS,ZY,h 9999]
 have g1:∀(op:BinOp) (b:Option Addr) (n c:Nat),(eqGuard op t ox oy (.slice b n c) (.slice none 0 0)).run P w = .ok () w:=fun op b n c=>by
  cases op<;>simp [eqGuard]
 unfold Yl at h;split at h
 ·obtain⟨rfl,_⟩:=br ha
  cases h;refine⟨_,?_,rfl,rfl⟩
  simp only [ZI,g1,ZF,binOp,eq2];rfl
 ·obtain⟨rfl,_⟩:=br ha
  cases h;refine⟨_,?_,rfl,rfl⟩
  simp only [ZI,g1,ZF,binOp,eq2];rfl
 ·have hr:=ha.rep (by simp)
  simp only [bf,RepC] at hr;obtain⟨A,c,us,e,_,_,_,hA⟩:=hr;obtain⟨b,o,rfl,_⟩:=hA (by simp);simp only [ZU,and_true] at e;subst e;cases h;refine⟨_,?_,rfl,rfl⟩
  simp only [ZI,g1,ZF,binOp,eq1];rfl
 ·have hr:=ha.rep (by simp)
  simp only [bf,RepC] at hr;obtain⟨A,c,us,e,_,_,_,hA⟩:=hr;obtain⟨b,o,rfl,_⟩:=hA (by simp);simp only [ZU,and_true] at e;subst e;cases h;refine⟨_,?_,rfl,rfl⟩
  simp only [ZI,g1,ZF,binOp,eq1];rfl
 ·cases h
theorem TH {op:BinOp} {t:Nat} {i:TI} (hi:TOk P t i) (hf:i.ifc=true) {a b z:D} {x y:Value} {nc:Bool} (ox oy:Operand) (hc:nc=true→∃v,oy = .const v) (ha:de w F a x) (hb:de w G b y) (h:Yk nc op a b=some z) :
  ∃v,(do eqGuard op t ox oy x y;binOp op t x y:Sem Value).run P w = .ok v w∧z = .v v∧flat v=true:=by
 obtain⟨ms,hu⟩:=hi.ifc hf;have eq1:∀(tx:TypeId) (v:Value),(ZS t (.iface tx v) .nilIface).run P w = .ok false w:=fun tx v=>by
  have h:∀d:Nat,(ZO (d+1) t (.iface tx v) .nilIface).run P w = .ok false w:=fun d=>by
   simp [ZO,run_underlying hu]
  simp [ZS,ZY,h 9999]
 have eq2:(ZS t .nilIface .nilIface).run P w = .ok true w:=by
  have h:∀d:Nat,(ZO (d+1) t .nilIface .nilIface).run P w = .ok true w:=fun d=>by
   simp [ZO,run_underlying hu]
  simp [ZS,ZY,h 9999]
 have g1:∀(op:BinOp) (tx:TypeId) (v:Value),(eqGuard op t ox oy (.iface tx v) .nilIface).run P w = .ok () w:=fun op tx v=>by
  cases op<;>simp [eqGuard]
 have g2:nc=true→∀op:BinOp,(eqGuard op t ox oy .nilIface .nilIface).run P w = .ok () w:=fun hn op=>by
  obtain⟨v,rfl⟩:=hc hn;cases op<;>simp [eqGuard]
 unfold Yk at h;split at h
 ·obtain⟨tx,v,e⟩:=ha.rep (by simp)
  obtain⟨rfl,_⟩:=br hb;simp only [ZU,and_true] at e;subst e;cases h;refine⟨_,?_,rfl,rfl⟩
  simp only [ZI,g1,ZF,binOp,eq1];rfl
 ·obtain⟨tx,v,e⟩:=ha.rep (by simp)
  obtain⟨rfl,_⟩:=br hb;simp only [ZU,and_true] at e;subst e;cases h;refine⟨_,?_,rfl,rfl⟩
  simp only [ZI,g1,ZF,binOp,eq1];rfl
 ·obtain⟨rfl,_⟩:=br ha
  obtain⟨rfl,_⟩:=br hb;split at h
  case isFalse=>cases h
  rename_i hn;cases h;refine⟨_,?_,rfl,rfl⟩
  simp only [ZI,g2 hn,ZF,binOp,eq2];rfl
 ·obtain⟨rfl,_⟩:=br ha
  obtain⟨rfl,_⟩:=br hb;split at h
  case isFalse=>cases h
  rename_i hn;cases h;refine⟨_,?_,rfl,rfl⟩
  simp only [ZI,g2 hn,ZF,binOp,eq2];rfl
 ·cases h
theorem XO {op:UnOp} {a z:D} {x:Value} (ha:de w F a x) (h:un op a=some z):∃v,(Op.unary op x).run P w = .ok v w∧z = .v v∧flat v=true:=by
 unfold un at h;split at h
 ·obtain⟨rfl,_⟩:=br ha
  simp at h;subst h;exact⟨_,by simp [Op.unary,aar],rfl,rfl⟩
 ·obtain⟨rfl,_⟩:=br ha
  simp at h;subst h;exact⟨_,by simp [Op.unary],rfl,rfl⟩
 ·cases h
theorem TA {q a b z:D} {xq xa xb:Value} (hq:de w F q xq) (ha:de w G a xa) (hb:de w G b xb) (h:aU q a b=some z):∃y,(do pure (if ←asBool xq then xa else xb):Sem Value).run P w = .ok y w∧de w G z y:=by
 unfold aU at h;split at h
 ·obtain⟨rfl,_⟩:=br hq
  simp at h;subst h;exact⟨xa,by simp [asBool],ha⟩
 ·obtain⟨rfl,_⟩:=br hq
  simp at h;subst h;exact⟨xb,by simp [asBool],hb⟩
 ·cases h
theorem UU {src dst:Nat} {si di:TI} (hs:TOk P src si) (hd:TOk P dst di) {a z:D} {x:Value} (ha:de w F a x) (h:pN di.ik (match di.str with | true=>si.str | false=>false) a=some z) :
  ∃v,(convert src dst x).run P w = .ok v w∧z = .v v∧flat v=true:=by
 unfold pN at h;split at h
 ·rename_i k kk n hk
  obtain⟨rfl,_⟩:=br ha;simp at h;subst h;obtain⟨d,hu⟩:=aah.1 hs.und;refine⟨_,?_,rfl,rfl⟩
  simp [convert,run_underlying hu,run_underlying (hd.ik k hk),Conv.intToInt]
 ·rename_i s hk
  obtain⟨rfl,_⟩:=br ha;simp at h;subst h;split at hk
  ·rename_i hdd
   have h1:=(hd.str hdd).1;have h2:=(hs.str hk).1;refine⟨_,?_,rfl,rfl⟩
   simp [convert,run_underlying h1,run_underlying h2]
  ·cases hk
 ·cases h
theorem UA {src dst:Nat} {si di:TI} (hs:TOk P src si) (hd:TOk P dst di) (hdd:di.str=true) {a z:D} {x:Value} (ha:de w F a x) (h:Su a=some z) :
  ∃v,(convert src dst x).run P w = .ok v w∧z = .v v∧flat v=true:=by
 unfold Su at h;split at h
 case h_2=>cases h
 rename_i k n;obtain⟨rfl,_⟩:=br ha;simp at h;subst h;obtain⟨d,hu⟩:=aah.1 hs.und;refine⟨_,?_,rfl,rfl⟩
 simp [convert,run_underlying hu,run_underlying (hd.str hdd).1,Conv.intToString]
theorem nK {t:Nat} {i:TI} (hi:TOk P t i) (h:nf i=true):P.underlying t=some (.slice i.elem)∧i.agg=false∧0<i.ez∧0<i.eb∧∃y,P.info? i.elem=some y∧y.size=i.ez∧y.bytes=i.eb:=by
 unfold nf at h;split at h
 ·cases h
 ·rename_i h1 h2
  exact hi.sl (by intro h0;exact h2 h0) h1
 ·cases h
theorem rf {z:Nat} {l:List D} {y:Value} (h:bf w F (.arr z l) y):∃A c us,y = .slice A l.length c∧l.length≤c∧bW w F l us∧(∀d∈l,d.width=z)∧(l≠[]→∃b o,A=some ⟨b,o,none⟩∧F b∧dQ w b o us):=by
 simp only [bf,RepC] at h;obtain⟨A,c,us,h1,h2⟩:=h;simp at h1;exact⟨A,c,us,h1,h2⟩
theorem Ab {l:List D} {y:Value} (h:bf w F (.ptr l) y):∃b o us,y = .pointer (some ⟨b,o,none⟩)∧bW w F l us∧l.all D.single=true∧F b∧dQ w b o us:=by
 simp only [bf,RepC] at h;obtain⟨b,o,us,h1,h2⟩:=h;simp at h1;exact⟨b,o,us,h1,h2⟩
theorem UX {t ty:Nat} {str:Bool} {a z:D} {x:Value} (ha:de w F a x) (hs:str=false→∃e,P.underlying t=some (.slice e)) (ht:str=true→P.underlying t=some .string) (h:lenD str a=some z) :
  ∃v,(aaB #[t] ty #[x]).run P w = .ok v w∧z = .v v∧flat v=true:=by
 unfold lenD at h;split at h
 ·obtain⟨e,hu⟩:=hs rfl
  obtain⟨A,c,us,rfl,_⟩:=rf (ha.rep (by simp));simp at h;subst h;exact⟨_,by simp [aaB,run_underlying hu,goInt],rfl,rfl⟩
 ·have hu:=ht rfl
  obtain⟨rfl,_⟩:=br ha;simp at h;subst h;exact⟨_,by simp [aaB,run_underlying hu,goInt],rfl,rfl⟩
 ·cases h
theorem Kk {ag:Bool} {n:Nat} {l:List D} {us:List Value} {z:D} (hr:bW w F l us) (hs:l.all D.single=true) (h:au ag n l=some z) :
  (ag=true→n≤us.length∧bf w F z (.agg (us.take n).toArray))∧(ag=false→∃u,us[0]?=some u∧bf w F z u):=by
 have hl:=(dC l us hs hr).1;unfold au at h;constructor
 ·rintro rfl
  simp only [if_true] at h;split at h
  ·rename_i hn
   simp at h;subst h;refine⟨by omega,_,rfl,?_⟩
   simp only [RepC];exact⟨(mT l us hs hr n).1,Om hs n⟩
  ·cases h
 ·rintro rfl
  simp only [ZW,if_false] at h;cases l with
  | nil=>cases h
  | cons d l =>
   simp at h;subst h;simp only [aae,ZG] at hs;obtain⟨v1,v2,rfl,h1,h2⟩:=aA.1 hr;obtain⟨y,rfl,_⟩:=oM _ _ hs.1 h1;exact⟨y,rfl,(gB hs.1).2 h1⟩
theorem Oi {t:Nat} {i:TI} (hi:TOk P t i) {off:Nat} {l:List D} {us:List Value} {z:D} (hr:bW w F l us) (hs:l.all D.single=true) (h:au i.agg i.n (l.drop off)=some z) :
  ∃y,(part t us.toArray off).run P w = .ok y w∧bf w F z y:=by
 obtain⟨h1,h2⟩:=Kk (mT l us hs hr off).2 (qR hs off) h;cases ha:i.agg
 ·obtain⟨u,hu,hv⟩:=h2 ha
  refine⟨u,?_,hv⟩
  rw [aaz] at hu;simp only [part,ZI,hi.agg,ha,ZF,ZW,if_false];have:us.toArray[off]?=some u:=by simpa using hu
  rw [this];rfl
 ·obtain⟨hn,hv⟩:=h1 ha
  refine⟨_,?_,hv⟩
  simp only [part,ZI,hi.agg,ha,ZF,if_true,hi.size,ZM];congr 2
  apply Array.ext';simp
theorem Vq {t ft f off:Nat} {i ti:TI} (hi:TOk P t i) (hf:TOk P ft ti) {a z:D} {x:Value} (hl:i.fs[f]?=some (off,ft)) (ha:de w F a x) (h:ba ti.agg ti.n off a=some z) :
  ∃y,(Instr.field t x f).run P w = .ok y w∧bf w F z y:=by
 unfold ba at h;split at h
 ·rename_i l
  obtain⟨us,rfl,hr⟩:=ha.rep (by simp);simp only [RepC] at hr;obtain⟨fs,fl,h1,h2,h3,h4,_⟩:=hi.fs f off ft hl;obtain⟨y,hy,hv⟩:=Oi hf hr.1 hr.2 h;refine⟨y,?_,hv⟩
  simp only [Instr.field,ZI,run_underlying h1,ZF,h2,asAgg,ZM,h3,h4,hy]
 ·cases h
theorem Ax {t:Nat} {i:TI} (hi:TOk P t i) {b o:Nat} {l:List D} {us:List Value} {z:D} (hr:bW w F l us) (hs:l.all D.single=true) (hc:dQ w b o us) (h:au i.agg i.n l=some z) :
  ∃y,(aai t (.pointer (some ⟨b,o,none⟩))).run P w = .ok y w∧bf w F z y:=by
 obtain⟨h1,h2⟩:=Kk hr hs h;cases ha:i.agg
 ·obtain⟨u,hu,hv⟩:=h2 ha
  refine⟨u,?_,hv⟩
  have hcell:=hc 0 u hu;rw [Nat.add_zero] at hcell;simp only [aai,aad,ZI,ZM,ZF,loadVar,hi.agg,ha,ZW,if_false,run_load,hcell]
 ·obtain⟨hn,hv⟩:=h1 ha
  refine⟨_,?_,hv⟩
  have hlc:(loadCells ⟨b,o,none⟩ i.n).run P w = .ok (us.take i.n).toArray w:=by
   have hlen:(us.take i.n).length=i.n:=by rw [ZQ];omega
   have:=run_loadCells_list (P:=P) w ⟨b,o,none⟩ (us.take i.n) (fun j v hj=>by rw [ZP];exact(hc.take i.n) j v hj);rwa [hlen] at this
  simp only [aai,aad,ZI,ZM,ZF,loadVar,hi.agg,ha,if_true,hi.size,hlc]
theorem Xn {t:Nat} {i:TI} (hi:TOk P t i) {a z:D} {x:Value} (ha:de w F a x) (h:ldD i.agg i.n a=some z):∃y,(aai t x).run P w = .ok y w∧bf w F z y:=by
 unfold ldD at h;split at h
 ·obtain⟨b,o,us,rfl,h1,h2,_,h4⟩:=Ab (ha.rep (by simp))
  exact Ax hi h1 h2 h4 h
 ·cases h
theorem ul {t f off ft:Nat} {i:TI} (hi:TOk P t i) (hl:i.fs[f]?=some (off,ft)) (b o:Nat):(aax t (.pointer (some ⟨b,o,none⟩)) f).run P w = .ok (.pointer (some ⟨b,o+off,none⟩)) w:=by
 obtain⟨fs,fl,h1,h2,h3,h4,_,y,h5,h6⟩:=hi.fs f off ft hl;simp only [aax,ZI,run_underlying h1,ZF,h2,aad,ZM,fieldPlace,h4,eS h5,if_neg h6,h3,ZP]
theorem Vd {t f off ft:Nat} {i:TI} (hi:TOk P t i) (hl:i.fs[f]?=some (off,ft)) {a z:D} {x:Value} (ha:de w F a x) (h:vW off a=some z):∃y,(aax t x f).run P w = .ok y w∧bf w F z y:=by
 unfold vW at h;split at h
 ·rename_i l
  obtain⟨b,o,us,rfl,h1,h2,h3,h4⟩:=Ab (ha.rep (by simp));simp at h;subst h;refine⟨_,ul hi hl b o,?_⟩
  simp only [bf,RepC];exact⟨b,o+off,us.drop off,rfl,(mT l us h2 h1 off).2,qR h2 off,h3,h4.drop off⟩
 ·cases h
theorem Dn {t:Nat} {i:TI} (hi:TOk P t i) (hsl:nf i=true) (b o len c:Nat) (k:IntKind) (n:Int) (h0:0≤n) (h1:n<len) :
  (ZT t (.slice (some ⟨b,o,none⟩) len c) (.int k n)).run P w = .ok (.pointer (some ⟨b,o+n.toNat*i.ez,none⟩)) w:=by
 obtain⟨hu,_,_,_,y,hy,hz,_⟩:=nK hi hsl;simp only [ZT,asIntOf,ZI,ZM,ZF,run_underlying hu,h0,h1,and_self,if_true,eS hy,hz,ZP]
theorem Dv {t:Nat} {i:TI} (hi:TOk P t i) (ha:i.alen≠0) (b o:Nat) (k:IntKind) (n:Int) (h0:0≤n) (h1:n<i.alen) :
  (ZT t (.pointer (some ⟨b,o,none⟩)) (.int k n)).run P w = .ok (.pointer (some ⟨b,o+n.toNat*i.ez,none⟩)) w:=by
 obtain⟨hu,_,_,_,y,hy,hz⟩:=hi.ar ha;simp only [ZT,asIntOf,ZI,ZM,ZF,run_underlying hu,aad,h0,h1,and_self,if_true,eS hy,hz,ZP]
theorem TU {t:Nat} {i:TI} (hi:TOk P t i) (hsl:nf i=true) {a j:D} {x y:Value} {l:List D} (ha:de w F a x) (hj:de w G j y) (h:aI i.ez a j=some l) :
  ∃v,(ZT t x y).run P w = .ok v w∧bf w F (.ptr l) v:=by
 unfold aI at h;split at h
 ·rename_i z' m k n
  split at h
  ·rename_i hz
   obtain⟨rfl,h0⟩:=hz;obtain⟨d,hd,rfl⟩:=ZJ.1 h;obtain⟨rfl,_⟩:=br hj;obtain⟨A,c,us,rfl,h1,h2,h3,h4⟩:=rf (ha.rep (by simp));have hn:n.toNat<m.length:=(ZL.1 hd).1;obtain⟨b,o,rfl,hb,hc⟩:=h4 (by intro e;subst e;simp at hn);refine⟨_,Dn hi hsl b o _ c k n h0 (by omega),?_⟩
   obtain⟨p,q,r,rfl,hp,hq,hr,_⟩:=uU m us h2 h3 _ d hd;simp only [bf,RepC];have hrr:bW w F d.cells q∧d.cells.all D.single=true:=by
    rcases nX hr with ⟨l,rfl⟩ | hs
    ·simpa only [RepC,D.cells] using hr
    ·rw [(fI hs).2]
     exact⟨aA.2 ⟨q,[],by simp,hr,aW.2 rfl⟩,by simp [hs]⟩
   refine⟨b,_,q,rfl,hrr.1,hrr.2,hb,?_⟩
   rw [←hp];exact hc.part
  ·cases h
 ·cases h
theorem VM {t:Nat} {i:TI} (hi:TOk P t i) (hal:i.alen≠0) {a j z:D} {x y:Value} (ha:de w F a x) (hj:de w G j y) (h:ixD i.alen i.ez a j=some z):∃v,(ZT t x y).run P w = .ok v w∧bf w F z v:=by
 unfold ixD at h;split at h
 ·rename_i l k n
  split at h
  ·rename_i hn
   simp at h;subst h;obtain⟨rfl,_⟩:=br hj;obtain⟨b,o,us,rfl,h1,h2,h3,h4⟩:=Ab (ha.rep (by simp));refine⟨_,Dv hi hal b o k n hn.1 hn.2,?_⟩
   simp only [bf,RepC];exact⟨b,_,_,rfl,(mT l us h2 h1 _).2,qR h2 _,h3,h4.drop _⟩
  ·cases h
 ·cases h
theorem Wu {t et:Nat} {i e:TI} (hi:TOk P t i) (he:TOk P et e) (hal:i.alen≠0) (hel:i.elem=et) {a j z:D} {x y:Value} (ha:de w F a x) (hj:de w G j y) (h:ixA e.agg i.alen i.ez a j=some z):∃v,(aas t x y).run P w = .ok v w∧bf w F z v:=by
 unfold ixA at h;split at h
 ·rename_i l k n
  split at h
  ·rename_i hn
   obtain⟨rfl,_⟩:=br hj;obtain⟨us,rfl,hr⟩:=ha.rep (by simp);simp only [RepC] at hr;obtain⟨hu,_,_,_,y,hy,hz⟩:=hi.ar hal;have hen:e.n=i.ez:=by
    obtain⟨x',_,h1,h2,_⟩:=he.info;rw [hel] at hy;rw [hy] at h1;cases h1;omega
   rw [←hen] at h;obtain⟨v,hv,hrep⟩:=Oi he hr.1 hr.2 h;refine⟨v,?_,hrep⟩
   subst hel;simp only [aas,asIntOf,ZI,ZM,ZF,run_underlying hu,hn.1,hn.2,and_self,if_true,eS hy,hz];rw [←hen];exact hv
  ·cases h
 ·cases h
theorem TY {t:Nat} {i:TI} (hi:TOk P t i) (hs:i.str=true) {a j z:D} {x y:Value} (ha:de w F a x) (hj:de w G j y) (h:Ay a j=some z):∃v,(aas t x y).run P w = .ok v w∧z = .v v∧flat v=true:=by
 unfold Ay at h;split at h
 ·rename_i s k n
  split at h
  ·rename_i h0
   obtain⟨b,hb,rfl⟩:=ZJ.1 h;obtain⟨rfl,_⟩:=br ha;obtain⟨rfl,_⟩:=br hj;refine⟨_,?_,rfl,rfl⟩
   have hb':s[n.toNat]?=some b:=by
    have hlt:n.toNat<s.data.toList.length:=(ZL.1 hb).1;have hlt':n.toNat<s.size:=by rw [Array.length_toList] at hlt;exact hlt
    rw [getElem?_pos s n.toNat hlt'];have h2:=(ZL.1 hb).2;refine congrArg some ?_
    rw [←h2,Array.getElem_toList];rfl
   simp only [aas,asIntOf,ZI,ZM,ZF,run_underlying (hi.str hs).1];rw [if_pos h0,hb'];rfl
  ·cases h
 ·cases h
def LoV (w:World) (F:Nat→Prop) (lo:D) (v:Option Value):Prop:=(∃y,v=some y∧de w F lo y)∨(v=none∧lo=I 0)
theorem vu {k:IntKind} {p:Int} {v:Option Value} (h:LoV w F (.v (.int k p)) v):v=some (.int k p)∨(v=none∧p=0):=by
 rcases h with ⟨y,rfl,hy⟩ | ⟨rfl,e⟩
 ·obtain⟨rfl,_⟩:=br hy
  exact .inl rfl
 ·simp at e
  exact .inr ⟨rfl,e.2⟩
theorem Kc {t:Nat} {i:TI} (hi:TOk P t i) (hsl:i.str=false→nf i=true) {a lo hi' z:D} {x yh:Value} {yl:Option Value} (ha:de w F a x) (hl:LoV w G lo yl) (hh:de w G hi' yh) (h:eT i.str i.ez a lo hi'=some z) :
  ∃v,(aaH t x yl (some yh) none).run P w = .ok v w∧bf w F z v:=by
 unfold eT at h;split at h
 ·rename_i z' l k p k' q hs
  split at h
  ·rename_i hc
   obtain⟨rfl,h0,h1,h2⟩:=hc;simp at h;subst h;have hl:=vu hl;obtain⟨rfl,_⟩:=br hh;obtain⟨hu,_,hez,_,y,hy,hz,_⟩:=nK hi (hsl hs);obtain⟨A,c,us,rfl,g1,g2,g3,g4⟩:=rf (ha.rep (by simp));have he:P.elem t=i.elem:=by simp [aaI,hu]
   refine⟨sliced A p.toNat q.toNat c i.ez,?_,?_⟩
   ·rcases hl with rfl | ⟨rfl,rfl⟩
    ·rw [run_sliceAt_slice w t _ _ _ _ (by rw [he];exact hu),run_slice_lh w t A _ c (by rw [he];exact hu) k k' p q h0 h1 (by omega),he,eS hy,hz]
     rfl
    ·rw [run_sliceAt_slice w t _ _ _ _ (by rw [he];exact hu),run_slice_h w t A _ c (by rw [he];exact hu) k' q (by omega) (by omega),he,eS hy,hz]
     rfl
   ·simp only [bf,RepC,sliced]
    have hlen:((l.take q.toNat).drop p.toNat).length=q.toNat - p.toNat:=by rw [aaj,ZQ];omega
    obtain⟨t1,_⟩:=nU l us g2 g3 q.toNat;obtain⟨_,t2⟩:=nU (l.take q.toNat) (us.take (q.toNat*i.ez)) t1 (fun d hd=>g3 d (ZN hd)) p.toNat;refine⟨_,c - p.toNat,_,by rw [hlen],by rw [hlen];omega,t2,fun d hd=>g3 d (ZN (aab hd)),fun hne=>?_⟩
    have hpos:p.toNat<q.toNat:=by
     rcases aaA p.toNat q.toNat with hlt | hge
     ·exact hlt
     ·exact absurd (aac (by rw [hlen];omega)) hne
    obtain⟨b,o,rfl,hb,hcell⟩:=g4 (by intro e;subst e;simp at h2;omega);refine⟨b,o+p.toNat*i.ez,?_,hb,(hcell.take _).drop _⟩
    rw [if_neg (by omega)];simp [ZP]
  ·cases h
 ·rename_i s k p k' q hs
  split at h
  ·rename_i hc
   obtain⟨h0,h1,h2⟩:=hc;simp at h;subst h;obtain⟨rfl,_⟩:=br ha;have hl:=vu hl;obtain⟨rfl,_⟩:=br hh;have hu:=(hi.str hs).1;refine⟨_,?_,fb rfl⟩
   have e1:((q.toNat:Nat):Int)=q:=by omega
   rcases hl with rfl | ⟨rfl,rfl⟩
   case inr=>rw [run_sliceAt_string w t _ _ _ _ hu,run_slice_string_h w t s hu k' q (by omega) (by omega)];rfl
   simp [run_sliceAt_string w t _ _ _ _ hu,Instr.slice,run_underlying hu,Instr.sliceBounds,run_sliceBound w k' q s.size _ (by omega) h2,run_sliceBound w k p q.toNat _ h0 (by omega)]
  ·cases h
 ·cases h
theorem Dx {t:Nat} {i:TI} (hi:TOk P t i) (hsl:i.str=false→nf i=true) {a lo z:D} {x:Value} {yl:Option Value} (ha:de w F a x) (hl:LoV w G lo yl) (h:fw i.str i.ez a lo=some z) :
  ∃v,(aaH t x yl none none).run P w = .ok v w∧bf w F z v:=by
 unfold fw at h;split at h
 ·rename_i z' l k p hs
  split at h
  ·rename_i hc
   obtain⟨rfl,h0,h1⟩:=hc;simp at h;subst h;have hl:=vu hl;obtain⟨hu,_,hez,_,y,hy,hz,_⟩:=nK hi (hsl hs);obtain⟨A,c,us,rfl,g1,g2,g3,g4⟩:=rf (ha.rep (by simp));have he:P.elem t=i.elem:=by simp [aaI,hu]
   refine⟨sliced A p.toNat l.length c i.ez,?_,?_⟩
   ·rcases hl with rfl | ⟨rfl,rfl⟩
    ·rw [run_sliceAt_slice w t _ _ _ _ (by rw [he];exact hu),run_slice_l w t A _ c (by rw [he];exact hu) k p h0 h1,he,eS hy,hz]
     rfl
    ·rw [run_sliceAt_slice w t _ _ _ _ (by rw [he];exact hu),run_slice_all w t A _ c (by rw [he];exact hu),he,eS hy,hz]
     rfl
   ·simp only [bf,RepC,sliced]
    obtain⟨_,t2⟩:=nU l us g2 g3 p.toNat;refine⟨_,c - p.toNat,_,by rw [aaj],by rw [aaj];omega,t2,fun d hd=>g3 d (aab hd),fun hne=>?_⟩
    have hpos:p.toNat<l.length:=by
     rcases aaA p.toNat l.length with hlt | hge
     ·exact hlt
     ·exact absurd (ZX hge) hne
    obtain⟨b,o,rfl,hb,hcell⟩:=g4 (by intro e;subst e;simp at hpos);refine⟨b,o+p.toNat*i.ez,?_,hb,hcell.drop _⟩
    rw [if_neg (by omega)];simp [ZP]
  ·cases h
 ·rename_i s k p hs
  split at h
  ·rename_i hc
   obtain⟨h0,h1⟩:=hc;simp at h;subst h;obtain⟨rfl,_⟩:=br ha;have hl:=vu hl;have hu:=(hi.str hs).1;refine⟨_,?_,fb rfl⟩
   rcases hl with rfl | ⟨rfl,rfl⟩
   case inr=>rw [run_sliceAt_string w t _ _ _ _ hu,run_slice_string_all w t s hu];rfl
   simp [run_sliceAt_string w t _ _ _ _ hu,Instr.slice,run_underlying hu,Instr.sliceBounds,run_sliceBound w k p s.size _ h0 h1]
  ·cases h
 ·cases h
theorem VL {a b z:D} {x y:Value} (ha:de w F a x) (hb:de w G b y) (h:QW a b=some z):∃v,(aaJ x y).run P w = .ok v w∧z = .v v∧flat v=true:=by
 unfold QW at h;split at h
 ·obtain⟨rfl,_⟩:=br ha
  obtain⟨rfl,_⟩:=br hb;simp at h;subst h;exact⟨_,by simp [aaJ],rfl,rfl⟩
 ·cases h
theorem Wk {a b z:D} {x y:Value} (ha:de w F a x) (hb:de w G b y) (h:RG a b=some z):∃v,(aaK x y).run P w = .ok v w∧z = .v v∧flat v=true:=by
 unfold RG at h;split at h
 ·obtain⟨rfl,_⟩:=br ha
  obtain⟨rfl,_⟩:=br hb;simp at h;subst h;exact⟨_,by simp [aaK],rfl,rfl⟩
 ·cases h
def AN (w:World) (F:Nat→Prop):List D→List Value→Prop
 | [],[]=>True
 | d::ds,y::ys=>de w F d y∧AN w F ds ys
 | _,_=>False
theorem Nz {f:D→D→Option D} {g:Value→Value→Sem Value} (hf:∀(a b z:D) (x y:Value),de w F a x→de w F b y→f a b=some z→∃v,(g x y).run P w = .ok v w∧z = .v v∧flat v=true) :
  ∀(ds:List D) (ys:List Value) (z:D) (x:Value),flat x=true→AN w F ds ys→Fl f (.v x) ds=some z→∃v,(ys.foldlM g x).run P w = .ok v w∧z = .v v∧flat v=true
 | [],[],z,x,ha,_,h=>by
  simp only [Fl,aaf] at h;subst h;exact⟨x,by simp,rfl,ha⟩
 | d::ds,y::ys,z,x,ha,hb,h=>by
  simp only [Fl] at h;obtain⟨u,hu,h⟩:=aak.1 h;obtain⟨v,h1,rfl,h3⟩:=hf (.v x) d u x y (.inr (fb ha)) hb.1 hu;obtain⟨v',h4,h5⟩:=Nz hf ds ys z v h3 hb.2 h;exact⟨v',by simp [h1,h4],h5⟩
 | [],_::_,_,_,_,hb,_=>hb.elim
 | _::_,[],_,_,_,hb,_=>hb.elim
theorem QM {f:D→D→Option D} {g:Value→Value→Sem Value} (hf:∀(a b z:D) (x y:Value),de w F a x→de w F b y→f a b=some z→∃v,(g x y).run P w = .ok v w∧z = .v v∧flat v=true)
  {a b:D} {ds:List D} {x y:Value} {ys:List Value} {z:D} (ha:de w F a x) (hb:de w F b y) (hd:AN w F ds ys) (h:Fl f a (b::ds)=some z):∃v,((y::ys).foldlM g x).run P w = .ok v w∧z = .v v∧flat v=true:=by
 simp only [Fl] at h;obtain⟨u,hu,h⟩:=aak.1 h;obtain⟨v,h1,rfl,h3⟩:=hf a b u x y ha hb hu;obtain⟨v',h4,h5⟩:=Nz hf ds ys z v h3 hd h;exact⟨v',by simp [h1,h4],h5⟩
theorem Vg {a z:D} {x:Value} (ha:de w F a x) (h:TO a=some z) (o:Oper) (q:Operand) (ρ:Operand→Value) (ho:o.op = .nilCheck q) (hq:ρ q=x):(execOp ρ o).run P w = .ok (.value x) w∧bf w F z x:=by
 unfold TO at h;split at h
 ·have hr:=ha.rep (by simp)
  obtain⟨b,of,us,rfl,_⟩:=Ab hr;simp at h;subst h;exact⟨by simp [execOp,ho,hq],hr⟩
 ·have hr:=ha.rep (by simp)
  simp at h;subst h;have hr':=hr;simp only [bf,RepC] at hr';obtain⟨us,hx,_⟩:=hr';simp at hx;subst hx;exact⟨by simp [execOp,ho,hq],hr⟩
 ·cases h
theorem Wv {src dst:Nat} {si di ei:TI} (hs:TOk P src si) (hd:TOk P dst di) (he:TOk P si.elem ei) (hsl:nf si=true) (hb:ei.ik=some .u8) (hds:di.str=true) {a z:D} {x:Value} (ha:bf w F a x) (h:LN a=some z) :
  ∃v,(convert src dst x).run P w = .ok v w∧z = .v v∧flat v=true:=by
 unfold LN at h;split at h
 ·rename_i zz l
  obtain⟨b,hbb,rfl⟩:=ZJ.1 h;obtain⟨A,c,us,rfl,g1,g2,g3,g4⟩:=rf ha;obtain⟨hu,_⟩:=nK hs hsl;have hel:=he.ik _ hb;have hst:=(hd.str hds).1;refine⟨_,?_,rfl,rfl⟩
  rw [run_convert_bytes_string w src dst si.elem A _ c hu hel hst];by_cases hl:l=[]
  ·subst hl
   simp [pO] at hbb;subst hbb;cases A with
   | none=>simp [Conv.bytesToString];rfl
   | some A=>simp [Conv.bytesToString,loadCells,loadCellsFrom];rfl
  ·obtain⟨bb,o,rfl,_,hc⟩:=g4 hl
   have key:∀(l:List D) (us:List Value) (b:List UInt8),pO l=some b→bW w F l us→∃ns:List Int,us=ns.map (aay .u8)∧ns.map (fun n=>aan n.toNat)=b∧l.length=ns.length:=by
    intro l;induction l with
    | nil =>
     intro us b h hr;simp [pO] at h;rw [aW] at hr;exact⟨[],by simp [hr],by simp [h],rfl⟩
    | cons d l ih =>
     intro us b h hr;unfold pO at h;split at h
     ·cases ‹_=[]›
     ·rename_i n l' e
      cases e;obtain⟨b',hb',rfl⟩:=ZJ.1 h;obtain⟨v1,v2,rfl,h1,h2⟩:=aA.1 hr;simp only [RepC] at h1;obtain⟨rfl,_⟩:=h1;obtain⟨ns,rfl,e2,e3⟩:=ih v2 b' hb' h2;exact⟨n::ns,by simp,by simp [e2],by simp [e3]⟩
     ·cases h
   obtain⟨ns,rfl,e2,e3⟩:=key l us b hbb g2;have hlc:(loadCells ⟨bb,o,none⟩ l.length).run P w = .ok (ns.map (aay .u8)).toArray w:=by
    have:=run_loadCells_list (P:=P) w ⟨bb,o,none⟩ (ns.map (aay .u8)) (fun j v hj=>by rw [ZP];exact hc j v hj);rwa [List.length_map,←e3] at this
   rw [run_bytesToString w _ _ c ns hlc];congr 2
   have:∀(ns:List Int) (acc:ByteArray),ns.foldl (fun r n=>r.push (aan n.toNat)) acc=⟨acc.data++(ns.map (fun n=>aan n.toNat)).toArray⟩:=by
    intro ns;induction ns with
    | nil=>intro acc;simp
    | cons n ns ih =>
     intro acc;rw [aaG,ih];congr 1
     simp [ByteArray.push]
   rw [this,e2];congr 1
   show #[]++b.toArray=b.toArray
   simp
 ·cases h
theorem Ar {l vs:List D} {us ws:List Value} (hl:l.all D.single=true) (hv:vs.all D.single=true) (hr:bW w F l us) (hw:bW w F vs ws) (f:Nat) :
  bW w F (dL l f vs) (us.take f++ws++us.drop (f+ws.length))∧(dL l f vs).all D.single=true:=by
 have e:=(dC _ _ hv hw).1;refine⟨?_,?_⟩
 ·unfold dL
  rw [e];exact(dN _ _ _).2 ⟨_,_,rfl,(dN _ _ _).2 ⟨_,_,rfl,(mT l us hl hr f).1,hw⟩,(mT l us hl hr _).2⟩
 ·unfold dL
  rw [all_append,all_append,Om hl,qR hl,hv];rfl
theorem EZ:∀(vs:List Value) (off k:Nat) (us:List Value),off+k+vs.length≤us.length →
  ((vs.zipIdx k).foldl (fun(cs:Array Value) (p:Value × Nat)=>cs.setIfInBounds (off+p.2) p.1) us.toArray)=(us.take (off+k)++vs++us.drop (off+k+vs.length)).toArray
 | [],off,k,us,h=>by simp
 | v::vs,off,k,us,h=>by
  simp only [aaF] at h;have ih:=EZ vs off (k+1) (us.set (off+k) v) (by simp;omega);simp only [List.zipIdx_cons,aaG,List.setIfInBounds_toArray];rw [ih];congr 1
  have hs:us.set (off+k) v=us.take (off+k)++v::us.drop (off+k+1):=List.set_eq_take_append_cons_drop.trans (by rw [if_pos (by omega)]);have hl:(us.take (off+k)).length=off+k:=by rw [ZQ];omega
  rw [hs,←aav];have e3:us.drop (off+k+(v::vs).length)=(us.drop (off+k+1)).drop vs.length:=by rw [List.drop_drop,aaF];congr 1;omega
  rw [e3];generalize us.take (off+k)=p at hl;generalize us.drop (off+k+1)=r;rw [←hl,List.take_length_add_append,show p.length+1+vs.length=p.length+(vs.length+1) from by omega,List.drop_length_add_append];simp
theorem Bs (place:Nat→Option (Nat × Nat)):∀(parts:List (Nat × Value)) (ps:List (Nat × Nat)) (xs cs cs':List D) (us:List Value),parts.map (fun p=>place p.1)=ps.map some→AN w F xs (parts.map (·.2))→cs.all D.single=true→bW w F cs us →
  iG ps xs cs=some cs'→∃us',Instr.fill place us.toArray parts=some us'.toArray∧bW w F cs' us'∧cs'.all D.single=true
 | [],ps,xs,cs,cs',us,hp,hx,hs,hr,h=>by
  cases ps<;>simp at hp;cases xs with
  | cons _ _=>exact hx.elim
  | nil =>
   simp [iG] at h;subst h;exact⟨us,rfl,hr,hs⟩
 | (i,v)::parts,ps,xs,cs,cs',us,hp,hx,hs,hr,h=>by
  cases ps with
  | nil=>simp at hp
  | cons p ps =>
  cases xs with
  | nil=>exact hx.elim
  | cons x xs =>
   obtain⟨off,n⟩:=p;simp only [List.map_cons,ZU] at hp;simp only [iG] at h;split at h
   ·rename_i hc
    obtain⟨h1,h2,h3⟩:=hc;have hxr:bf w F x v:=hx.1.rep (by intro e;subst e;simp [D.cells,D.single] at h3);obtain⟨_,g2,g3⟩:=fV hxr (sb h3);obtain⟨p1,p2⟩:=Ar hs g2 hr g3 off;have e1:=(dC _ _ g2 g3).1;have e2:=(dC _ _ hs hr).1;obtain⟨us',q1,q2,q3⟩:=Bs place parts ps xs _ cs' _ hp.2 hx.2 p2 p1 h;refine⟨us',?_,q2,q3⟩
    simp only [Instr.fill,hp.1];have e3:v.cells.size=n:=by rw [←h1,←e1];simp
    rw [if_neg (by simp [e3];omega)];have hk:=EZ v.cells.toList off 0 us (by rw [e1,h1];omega);simp only [Nat.add_zero] at hk;rw [←hk] at q1;rw [←q1];congr 1
    rw [←Array.foldl_toList];simp
   ·cases h
end
end Go.V

namespace Go.V
open Go.RowKit
set_option maxRecDepth 100000
def ao (δ:List D):List Nat→List D
 | []=>[]
 | s::ss=>nth δ s::ao δ ss
theorem eM {R:Type}:∀(δ:List D) (s:Nat) (k:D→R),eV δ s k=k (nth δ s)
 | [],_,_=>by simp [eV,nth]
 | _::_,0,_=>by simp [eV,nth]
 | _::l,s+1,k=>by simpa [eV,nth] using eM l s k
theorem LI {R:Type}:∀(δ:List D) (s:Nat) (d:D) (k:List D→R),Ph δ s d k=k (gS δ s d)
 | [],_,_,_=>by simp [Ph,gS]
 | _::_,0,_,_=>by simp [Ph,gS]
 | _::l,s+1,d,k=>by simpa [Ph,gS] using LI l s d _
theorem bB {R:Type} (δ:List D):∀(ss:List Nat) (k:List D→R),qc δ ss k=k (ao δ ss)
 | [],_=>by simp [qc,ao]
 | s::ss,k=>by simp only [qc,ao,eM];exact bB δ ss _
theorem bP {R:Type}:∀(δ:List D) (ss:List Nat) (ds:List D) (k:List D→R),dR δ ss ds k=k (aj δ ss ds)
 | _,[],_,_=>by simp [dR,aj]
 | δ,s::ss,[],k=>by simp only [dR,aj,LI];exact bP _ ss [] k
 | δ,s::ss,d::ds,k=>by simp only [dR,aj,LI];exact bP _ ss ds k
theorem gp {α:Type}:∀(a b:List α),app a b=a++b
 | [],_=>rfl
 | _::l,b=>by simp [app,gp l b]
theorem vt {α β:Type} (f:α→β):∀(l:List α),qC f l=l.map f
 | []=>rfl
 | _::l=>by simp [qC,vt f l]
theorem lV {α:Type}:∀(l:List α),jt l=l.length
 | []=>rfl
 | _::l=>by simp [jt,lV l]
theorem AO {α:Type}:∀(n:Nat) (l:List α),sU n l=l.drop n
 | 0,l=>by simp [sU]
 | n+1,[]=>by simp [sU]
 | n+1,_::l=>by simp [sU,AO n l]
theorem fx:∀(n:Nat) (l:List Nat),lF n l=decide (n∈l)
 | _,[]=>by simp [lF]
 | n,m::l=>by
  simp only [lF];cases h:ZE n m
  ·have:n≠m:=fun e=>by subst e;simp at h
   simp [fx n l,this]
  ·have:n=m:=aaa h
   simp [this]
theorem AA {α:Type}:∀(l:List α) (n:Nat),Oj l n=l[n]?
 | [],_=>by simp [Oj]
 | _::_,0=>by simp [Oj]
 | _::l,n+1=>by simpa [Oj] using AA l n
theorem fp:∀(l:List D) (n:Nat),nth l n=l.getD n .bad
 | [],_=>by simp [nth]
 | _::_,0=>by simp [nth]
 | _::l,n+1=>by simpa [nth] using fp l n
theorem gi:∀(δ:List D) (s:Nat) (d:D),(gS δ s d).length=δ.length
 | [],_,_=>by simp [gS]
 | _::_,0,_=>by simp [gS]
 | _::l,s+1,d=>by simp [gS,gi l s d]
theorem dz:∀(δ:List D) (ss:List Nat) (ds:List D),(aj δ ss ds).length=δ.length
 | _,[],_=>by simp [aj]
 | δ,s::ss,[]=>by simp [aj,dz _ ss,gi]
 | δ,s::ss,d::ds=>by simp [aj,dz _ ss,gi]
theorem cK:∀(δ:List D) (s i:Nat) (d:D),s≠i→nth (gS δ i d) s=nth δ s
 | [],_,_,_,_=>by simp [gS]
 | _::_,0,0,_,h=>absurd rfl h
 | _::_,_+1,0,_,_=>by simp [nth]
 | _::_,0,_+1,_,_=>by simp [nth]
 | _::l,s+1,i+1,d,h=>by simpa [gS,nth] using cK l s i d (by omega)
theorem bH:∀(δ:List D) (s:Nat) (d:D),nth (gS δ s d) s=if s<δ.length then d else .bad
 | [],_,_=>by simp [nth]
 | _::_,0,_=>by simp [nth]
 | _::l,s+1,d=>by simpa [gS,nth] using bH l s d
theorem aD:∀(ss:List Nat) (δ:List D) (ds:List D) (s:Nat),s∉ss→nth (aj δ ss ds) s=nth δ s
 | [],_,_,_,_=>by simp [aj]
 | i::ss,δ,[],s,h=>by
  simp only [ZZ,not_or] at h;simp only [aj];rw [aD ss _ _ s h.2,cK _ _ _ _ h.1]
 | i::ss,δ,d::ds,s,h=>by
  simp only [ZZ,not_or] at h;simp only [aj];rw [aD ss _ _ s h.2,cK _ _ _ _ h.1]
theorem ll:∀(ss:List Nat) (δ:List D) (s:Nat),s∈ss→nth (aj δ ss []) s = .bad
 | i::ss,δ,s,h=>by
  simp only [aj];by_cases hs:s∈ss
  ·exact ll ss _ s hs
  ·rw [aD ss _ _ s hs]
   have:s=i:=by simpa [hs] using h
   subst this;rw [bH];split<;>rfl
theorem uH:∀(ss ts:List Nat) (δ:List D) (ds:List D),ds.length=ss.length→aj δ (ss++ts) ds=aj (aj δ ss ds) ts []
 | [],ts,δ,ds,h=>by
  have:ds=[]:=aac h;subst this;simp [aj]
 | s::ss,ts,δ,d::ds,h=>by
  simp only [aaE,aj];exact uH ss ts _ ds (by simpa using h)
theorem kS:∀(ss:List Nat) (δ:List D) (s:Nat),nth (aj δ ss []) s=nth δ s∨nth (aj δ ss []) s = .bad:=by
 intro ss δ s;by_cases h:s∈ss
 ·exact .inr (ll ss δ s h)
 ·exact .inl (aD ss δ [] s h)
theorem FY {r:Nat}:∀(K:List Kd) (n s:Nat),(aq K s = .via r∨aq K s = .ref r)→n+s∈fv r K n
 | [],n,s,h=>by simp [aq] at h
 | k::K,n,0,h=>by
  simp only [aq] at h;rcases h with rfl | rfl<;>simp [fv]
 | k::K,n,s+1,h=>by
  have ih:=FY K (n+1) s (by simpa [aq] using h);have e:n+(s+1)=n+1+s:=by omega
  rw [e];cases k<;>simp only [fv]<;>first
   | exact ih
   | (split<;>first | exact ih | exact aau _ ih)
theorem kh {K:List Kd} {r s:Nat} (h:aq K s = .via r∨aq K s = .ref r):∀(rs:List Nat),r∈rs→s∈aY K rs
 | q::rs,hr=>by
  simp only [aY,gp,aam];rcases ZZ.1 hr with rfl | hr
  ·exact .inl (by have:=FY K 0 s h;simpa using this)
  ·exact .inr (kh h rs hr)
theorem Hk {r:Nat}:∀(K:List Kd) (n s:Nat),s∈fv r K n→n≤s∧(aq K (s - n) = .via r∨aq K (s - n) = .ref r)
 | [],n,s,h=>by simp [fv] at h
 | k::K,n,s,h=>by
  have ih:s∈fv r K (n+1)→n≤s∧(aq (k::K) (s - n) = .via r∨aq (k::K) (s - n) = .ref r):=by
   intro hm;obtain⟨h1,h2⟩:=Hk K (n+1) s hm;have e:s - n=(s - (n+1))+1:=by omega
   rw [e];exact⟨by omega,by simpa [aq] using h2⟩
  cases k<;>simp only [fv] at h<;>try exact ih h
  all_goals
   split at h
   ·rename_i hb
    have:=aaa hb;subst this;rcases ZZ.1 h with rfl | h
    ·simp [aq]
    ·exact ih h
   ·exact ih h
theorem vq {K:List Kd} {r s:Nat} (h:s∈fv r K 0):aq K s = .via r∨aq K s = .ref r:=by simpa using (Hk K 0 s h).2
theorem sE {K:List Kd} {s:Nat}:∀(rs:List Nat),s∈aY K rs→∃r∈rs,aq K s = .via r∨aq K s = .ref r
 | [],h=>by simp [aY] at h
 | r::rs,h=>by
  simp only [aY,gp,aam] at h;rcases h with h | h
  ·exact⟨r,by simp,vq h⟩
  ·obtain⟨q,hq,hk⟩:=sE rs h
   exact⟨q,by simp [hq],hk⟩
def dP (K:List Kd) (r:Nat):Prop :=
 match aq K r with
 | .own _ _ _=>True
 | .box _ _ _=>True
 | .mpo=>True
 | _=>False
theorem Pw {K:List Kd} {r q:Nat} (h:dP K r):r∉fv q K 0:=by
 intro hm;rcases vq hm with e | e<;>simp [dP,e] at h
theorem qA {K:List Kd} {r:Nat} (h:dP K r) (rs:List Nat):r∉aY K rs:=by
 intro hm;obtain⟨q,_,e⟩:=sE rs hm;rcases e with e | e<;>simp [dP,e] at h
theorem lM {K:List Kd} {r:Nat} (h:rW K r=true):dP K r:=by
 unfold rW at h;unfold dP;split at h<;>simp_all
def av (a:Act) (s:Nat):Value:=a.tmps.getD s undef
def FB (F:Nat→Prop) (B:Nat):Nat→Nat→Prop
 | 0,_=>False
 | 1,b=>F b∧B≤b
 | _,b=>F b
def fY (w:World) (F:Nat→Prop) (own:Nat→Prop) (z:Nat) (d:D) (y:Value):Prop :=
 ∃l,d = .arr z l∧(∀e∈l,e.width=z)∧((y = .slice none 0 0∧l=[]) ∨
  ∃g o c us cs e,y = .slice (some ⟨g,o,none⟩) l.length c∧l.length≤c∧w.heap[g]?=some (.cells cs e (0,0))∧o+c*z≤cs.size∧bW w F l us ∧
   (∀(i:Nat) (u:Value),us[i]?=some u→cs[o+i]?=some u)∧own g)
def Dj (w:World) (F:Nat→Prop) (own:Nat→Prop) (n:Nat) (d:D) (y:Value):Prop :=
 ∃l us g e,d = .agg l∧y = .pointer (some ⟨g,0,none⟩)∧w.heap[g]?=some (.cells (List.toArray us) e (0,0))∧bW w F l us∧l.all D.single=true∧l.length=n∧own g
def Vs (w:World) (own:Nat→Prop) (d:D) (y:Value):Prop :=
 ∃s p g,d = .itr s p∧y = .pointer (some ⟨g,0,none⟩)∧w.heap[g]?=some (.stringIter s p)∧own g
def VS (w:World) (own:Nat→Prop) (d:D) (y:Value):Prop :=
 ∃l g es clock,d = .mp l∧y = .map (some g)∧w.heap[g]?=some (.map es clock)∧KR es clock l∧own g
def tw (k:Kd) (y:Value) (i f:Nat) (p:Value):Prop :=
 match k with
 | .own z _ _=>∃g o n c,y = .slice (some ⟨g,o,none⟩) n c∧p = .pointer (some ⟨g,o+i*z+f,none⟩)
 | .box _ _ _=>∃g,y = .pointer (some ⟨g,0,none⟩)∧p = .pointer (some ⟨g,f,none⟩)
 | _=>False
theorem ky {K:List Kd} {r i f:Nat} {y p:Value} (h:tw (aq K r) y i f p):dP K r:=by
 unfold tw at h;unfold dP;split at h<;>simp_all
def Cj (B:Nat) (F:Nat→Prop) (O:Nat→Option (Nat × Nat)) (w:World) (id:Nat × Nat) (k:Kd) (d:D) (y:Value):Prop :=
 d = .bad∨match k with
  | .dat lv=>bf w (FB F B lv) d y
  | .own z lv io=>fY w (FB F B lv) (fun g=>O g=some id∧(io=false→B≤g)) z d y
  | .box n lv io=>Dj w (FB F B lv) (fun g=>O g=some id∧(io=false→B≤g)) n d y
  | .itr=>Vs w (fun g=>O g=some id∧B≤g) d y
  | .mpo=>VS w (fun g=>O g=some id∧B≤g) d y
  | _=>False
def yJ (K:List Kd) (B:Nat) (F:Nat→Prop) (O:Nat→Option (Nat × Nat)) (a:Act) (w:World) (δ:List D) (s:Nat):Prop :=
 nth δ s = .bad∨match aq K s with
  | .via r=>av a s=av a r∧nth δ s = .ref 0 0∧nth δ r ≠ .bad∧rW K r=true
  | .ref r=>∃i f,nth δ s = .ref i f∧nth δ r ≠ .bad∧tw (aq K r) (av a r) i f (av a s)
  | .tup ms=>∃l vs,nth δ s = .tup l∧av a s = .tuple vs∧∀i,Cj B F O w (s,i+1) (aq ms i) (nth l i) (vs.getD i undef)
  | .no=>True
  | k=>Cj B F O w (s,0) k (nth δ s) (av a s)
def gOk (G:List (Nat × (Obj→Prop))) (w:World) (F:Nat→Prop):Prop:=∀p∈G,F p.1∧∃o,w.heap[p.1]?=some o∧p.2 o
theorem GH {G:List (Nat × (Obj→Prop))} {w w':World} {F F':Nat→Prop} (hF:∀b,F b→F' b) (hw:∀b,F b→w'.heap[b]?=w.heap[b]?) (h:gOk G w F):gOk G w' F':=fun p hp=>by
 obtain⟨h1,o,h2,h3⟩:=h p hp;exact⟨hF _ h1,o,(hw _ h1).trans h2,h3⟩
theorem ga {w:World} {F:Nat→Prop}:gOk [] w F:=fun p hp=>by cases hp
structure Inv (c:Cx) (B:Nat) (X:Nat→Prop) (w0:World) (F0 F:Nat→Prop) (O:Nat→Option (Nat × Nat)) (a:Act) (w:World) (δ:List D):Prop where
 la:a.tmps.size=c.K.length
 ld:δ.length=c.K.length
 df:a.defers=[]
 slot:∀s,yJ c.K B F O a w δ s
 fl:∀b,F b→b<w.heap.size∧O b=none
 ol:∀b p,O b=some p→b<w.heap.size∧(B≤b∨X b)
 f0:∀b,F0 b→F b
 fn:∀b,F b→F0 b∨B≤b
 bb:B≤w.heap.size
 os:w.os=w0.os
 tape:w.tape=w0.tape
 output:w.output=w0.output
 keep:∀b,b<B→¬X b→w.heap[b]?=w0.heap[b]?
 gl:gOk c.G w F
theorem iy {F F':Nat→Prop} {B lv:Nat} (h:∀b,F b→F' b):∀b,FB F B lv b→FB F' B lv b:=by
 intro b hb;unfold FB at *;split at hb<;>simp_all
theorem gz {F:Nat→Prop} {B lv:Nat}:∀b,FB F B lv b→F b:=by
 intro b hb;unfold FB at *;split at hb<;>simp_all
theorem mM {F:Nat→Prop} {B lv lv':Nat} (h:lv≤lv'):∀b,FB F B lv b→FB F B lv' b:=by
 intro b hb
 match lv,lv',h with
 | 0,_,_=>exact hb.elim
 | 1,1,_=>exact hb
 | 1,n+2,_=>exact hb.1
 | m+2,n+2,_=>exact hb
theorem KB {w w':World} {F F':Nat→Prop} {own own':Nat→Prop} {z:Nat} {d:D} {y:Value} (hF:∀b,F b→F' b) (hw:∀b,F b→w'.heap[b]?=w.heap[b]?)
  (ho:∀g,own g→own' g∧w'.heap[g]?=w.heap[g]?) (h:fY w F own z d y):fY w' F' own' z d y:=by
 obtain⟨l,h1,h2,h3⟩:=h;refine⟨l,h1,h2,?_⟩
 rcases h3 with h3 | ⟨g,o,c,us,cs,e,a1,a2,a3,a4,a5,a6,a7⟩
 ·exact .inl h3
 ·exact .inr ⟨g,o,c,us,cs,e,a1,a2,(ho g a7).2.trans a3,a4,bG hF hw _ _ a5,a6,(ho g a7).1⟩
theorem vp {w w':World} {F F':Nat→Prop} {own own':Nat→Prop} {n:Nat} {d:D} {y:Value} (hF:∀b,F b→F' b) (hw:∀b,F b→w'.heap[b]?=w.heap[b]?)
  (ho:∀g,own g→own' g∧w'.heap[g]?=w.heap[g]?) (h:Dj w F own n d y):Dj w' F' own' n d y:=by
 obtain⟨l,us,g,e,a1,a2,a3,a4,a5,a6,a7⟩:=h;exact⟨l,us,g,e,a1,a2,(ho g a7).2.trans a3,bG hF hw _ _ a4,a5,a6,(ho g a7).1⟩
theorem KA {w w':World} {own own':Nat→Prop} {d:D} {y:Value} (ho:∀g,own g→own' g∧w'.heap[g]?=w.heap[g]?) (h:Vs w own d y):Vs w' own' d y:=by
 obtain⟨s,p,g,a1,a2,a3,a4⟩:=h;exact⟨s,p,g,a1,a2,(ho g a4).2.trans a3,(ho g a4).1⟩
theorem KM {w w':World} {own own':Nat→Prop} {d:D} {y:Value} (ho:∀g,own g→own' g∧w'.heap[g]?=w.heap[g]?) (h:VS w own d y):VS w' own' d y:=by
 obtain⟨l,g,es,clock,a1,a2,a3,a4,a5⟩:=h;exact⟨l,g,es,clock,a1,a2,(ho g a5).2.trans a3,a4,(ho g a5).1⟩
theorem vI {B:Nat} {w w':World} {F F':Nat→Prop} {O O':Nat→Option (Nat × Nat)} {id id':Nat × Nat} {k:Kd} {d:D} {y:Value} (hF:∀b,F b→F' b) (hw:∀b,F b→w'.heap[b]?=w.heap[b]?)
  (ho:∀g,O g=some id→O' g=some id'∧w'.heap[g]?=w.heap[g]?) (h:Cj B F O w id k d y):Cj B F' O' w' id' k d y:=by
 rcases h with h | h
 ·exact .inl h
 ·refine .inr ?_
  cases k
  case dat lv=>exact aK (iy hF) (fun b hb=>hw b (gz b hb)) h
  case own z lv io=>exact KB (iy hF) (fun b hb=>hw b (gz b hb)) (fun g hg=>⟨⟨(ho g hg.1).1,hg.2⟩,(ho g hg.1).2⟩) h
  case box n lv io=>exact vp (iy hF) (fun b hb=>hw b (gz b hb)) (fun g hg=>⟨⟨(ho g hg.1).1,hg.2⟩,(ho g hg.1).2⟩) h
  case itr=>exact KA (fun g hg=>⟨⟨(ho g hg.1).1,hg.2⟩,(ho g hg.1).2⟩) h
  case mpo=>exact KM (fun g hg=>⟨⟨(ho g hg.1).1,hg.2⟩,(ho g hg.1).2⟩) h
  all_goals exact h
theorem Inv.step {c:Cx} {B:Nat} {X:Nat→Prop} {w0:World} {F0 F F':Nat→Prop} {O O':Nat→Option (Nat × Nat)} {a a':Act} {w w':World} {δ δ':List D}
  (h:Inv c B X w0 F0 F O a w δ) (U:Nat→Prop) (la:a'.tmps.size=a.tmps.size) (ld:δ'.length=δ.length) (df:a'.defers=a.defers)
  (hs:∀s,¬U s→av a' s=av a s∧(nth δ' s=nth δ s∨nth δ' s = .bad))
  (hF:∀b,F b→F' b) (hw:∀b,F b→w'.heap[b]?=w.heap[b]?)
  (ho:∀b p,O b=some p→¬U p.1→O' b=some p∧w'.heap[b]?=w.heap[b]?)
  (hd:∀s r,¬U s→(aq c.K s = .via r∨aq c.K s = .ref r)→nth δ' s ≠ .bad→av a' r=av a r∧nth δ' r ≠ .bad)
  (hU:∀s,U s→yJ c.K B F' O' a' w' δ' s)
  (fl:∀b,F' b→b<w'.heap.size∧O' b=none) (ol:∀b p,O' b=some p→b<w'.heap.size∧(B≤b∨X b)) (fn:∀b,F' b→F b∨B≤b) (sz:w.heap.size≤w'.heap.size)
  (os:w'.os=w.os) (tape:w'.tape=w.tape) (output:w'.output=w.output) (keep:∀b,b<B→¬X b→w'.heap[b]?=w.heap[b]?):Inv c B X w0 F0 F' O' a' w' δ':=by
 refine⟨la.trans h.la,ld.trans h.ld,df.trans h.df,fun s=>?_,fl,ol,fun b hb=>hF b (h.f0 b hb),fun b hb=>?_,Nat.le_trans h.bb sz,os.trans h.os,tape.trans h.tape,output.trans h.output,fun b h1 h2=>(keep b h1 h2).trans (h.keep b h1 h2),GH hF hw h.gl⟩
 ·by_cases hu:U s
  ·exact hU s hu
  ·obtain⟨e1,e2⟩:=hs s hu
   rcases e2 with e2 | e2
   case inr=>exact .inl e2
   by_cases hb:nth δ s = .bad
   ·exact .inl (e2.trans hb)
   have hb':nth δ' s ≠ .bad:=by rw [e2];exact hb
   have h0:=(h.slot s).resolve_left hb;refine .inr ?_
   have lone:∀(k:Kd) (i:Nat) (d:D) (y:Value),Cj B F O w (s,i) k d y→Cj B F' O' w' (s,i) k d y:=fun k i d y hl=>vI hF hw (fun g hg=>ho g _ hg hu) hl
   have hdd:=hd s;rw [e1,e2];generalize hk:aq c.K s=k at h0 hdd;cases k
   case via r =>
    obtain⟨b1,b2,b3,b4⟩:=h0;obtain⟨d1,d2⟩:=hdd r hu (.inl rfl) hb';exact⟨b1.trans d1.symm,b2,d2,b4⟩
   case ref r =>
    obtain⟨i,f,b1,b2,b3⟩:=h0;obtain⟨d1,d2⟩:=hdd r hu (.inr rfl) hb';exact⟨i,f,b1,d2,by rw [d1];exact b3⟩
   case tup ms =>
    obtain⟨l,vs,b1,b2,b3⟩:=h0;exact⟨l,vs,b1,b2,fun i=>lone _ _ _ _ (b3 i)⟩
   case no=>trivial
   all_goals exact lone _ _ _ _ h0
 ·rcases fn b hb with hb | hb
  ·exact h.fn b hb
  ·exact .inr hb
theorem Ti {a:Act} {d s:Nat} {v:Value}:av (a.put (some d) v) s=if s=d∧d<a.tmps.size then v else av a s:=by
 simp only [av,Act.put,Array.getD_eq_getD_getElem?,Array.getElem?_setIfInBounds];by_cases hs:d=s
 ·subst hs
  by_cases hd:d<a.tmps.size
  ·simp [hd]
  ·simp [hd]
 ·simp [hs,Ne.symm hs]
theorem cQ {a:Act} {d s:Nat} {v:Value} (h:s≠d):av (a.put (some d) v) s=av a s:=by rw [Ti,if_neg (by simp [h])]
theorem dT {a:Act} {d:Nat} {v:Value} (h:d<a.tmps.size):av (a.put (some d) v) d=v:=by rw [Ti,if_pos ⟨rfl,h⟩]
theorem gy {a:Act} {d:Nat} {v:Value}:(a.put (some d) v).tmps.size=a.tmps.size:=by simp [Act.put]
theorem Inv.root {c:Cx} {B:Nat} {X:Nat→Prop} {w0:World} {F0 F:Nat→Prop} {O:Nat→Option (Nat × Nat)} {a:Act} {w:World} {δ:List D}
  (h:Inv c B X w0 F0 F O a w δ) {s r:Nat} (hv:aq c.K s = .via r∨aq c.K s = .ref r) (hb:nth δ s ≠ .bad):dP c.K r∧nth δ r ≠ .bad:=by
 have h0:=(h.slot s).resolve_left hb;rcases hv with hv | hv<;>rw [hv] at h0
 ·exact⟨lM h0.2.2.2,h0.2.2.1⟩
 ·obtain⟨_,_,_,h2,h3⟩:=h0
  exact⟨ky h3,h2⟩
def Fr (K:List Kd) (B:Nat) (F:Nat→Prop) (a:Act) (w:World) (δ:List D) (d:Nat) (z:D) (y:Value):Prop :=
 z = .bad∨match aq K d with
  | .dat lv=>bf w (FB F B lv) z y
  | .via r=>y=av a r∧z = .ref 0 0∧nth δ r ≠ .bad∧rW K r=true
  | .ref r=>∃i f,z = .ref i f∧nth δ r ≠ .bad∧tw (aq K r) (av a r) i f y
  | .no=>True
  | _=>False
theorem Inv.put {c:Cx} {B:Nat} {X:Nat→Prop} {w0:World} {F0 F:Nat→Prop} {O:Nat→Option (Nat × Nat)} {a:Act} {w:World} {δ:List D}
  (h:Inv c B X w0 F0 F O a w δ) {d:Nat} {z:D} {y:Value} (hk:Fr c.K B F a w δ d z y) :
  Inv c B X w0 F0 F O (a.put (some d) y) w (aj δ (d::fv d c.K 0) [z]):=by
 have e0:aj δ (d::fv d c.K 0) [z]=aj (gS δ d z) (fv d c.K 0) []:=by simp [aj]
 rw [e0];have keepr:∀r,dP c.K r→r≠d→nth (aj (gS δ d z) (fv d c.K 0) []) r=nth δ r:=fun r hr hd=>by
  rw [aD _ _ _ _ (Pw hr),cK _ _ _ _ hd]
 refine h.step (fun s=>s=d) gy (by rw [dz,gi]) rfl (fun s hs=>⟨cQ hs,?_⟩) (fun _ hb=>hb) (fun _ _=>rfl) (fun _ _ h _=>⟨h,rfl⟩) (fun s r hs hv hb=>?_) (fun s hs=>?_) h.fl h.ol (fun _ hb=>.inl hb) (aaC _) rfl rfl rfl (fun _ _ _=>rfl)
 ·rcases kS (fv d c.K 0) (gS δ d z) s with e | e
  ·exact .inl (e.trans (cK _ _ _ _ hs))
  ·exact .inr e
 ·by_cases hr:r=d
  ·subst hr
   exact absurd (ll _ _ _ (by have:=FY c.K 0 s hv;simpa using this)) hb
  ·refine⟨cQ hr,?_⟩
   have hs':s∉fv d c.K 0:=fun hm=>hb (ll _ _ _ hm)
   rw [aD _ _ _ _ hs',cK _ _ _ _ hs] at hb;obtain⟨h1,h2⟩:=h.root hv hb;rw [keepr r h1 hr];exact h2
 ·subst hs
  by_cases hdl:s<c.K.length
  case neg =>
   refine .inl ?_
   rcases kS (fv s c.K 0) (gS δ s z) s with e | e
   ·rw [e,bH,if_neg (by rw [h.ld];exact hdl)]
   ·exact e
  have hav:av (a.put (some s) y) s=y:=dT (by rw [h.la];exact hdl);rcases kS (fv s c.K 0) (gS δ s z) s with e | e
  case inr=>exact .inl e
  have ez:nth (aj (gS δ s z) (fv s c.K 0) []) s=z:=by rw [e,bH,if_pos (by rw [h.ld];exact hdl)]
  rcases hk with hk | hk
  ·exact .inl (ez.trans hk)
  ·refine .inr ?_
   rw [ez,hav];generalize hks:aq c.K s=k at hk;have hne:∀r,dP c.K r→(∀z lv io,k ≠ .own z lv io)→(∀n lv io,k ≠ .box n lv io)→k ≠ .mpo→r≠s:=by
    intro r hr h1 h2 h3 e;subst e;unfold dP at hr;rw [hks] at hr;cases k
    case own z lv io=>exact h1 _ _ _ rfl
    case box n lv io=>exact h2 _ _ _ rfl
    case mpo=>exact h3 rfl
    all_goals exact hr
   cases k
   case dat lv=>exact .inr hk
   case via r =>
    obtain⟨b1,b2,b3,b4⟩:=hk;have hr:=hne r (lM b4) (by intros;simp) (by intros;simp) (by simp);exact⟨by rw [cQ hr];exact b1,b2,by rw [keepr r (lM b4) hr];exact b3,b4⟩
   case ref r =>
    obtain⟨i,f,b1,b2,b3⟩:=hk;have hr:=hne r (ky b3) (by intros;simp) (by intros;simp) (by simp);exact⟨i,f,b1,by rw [keepr r (ky b3) hr];exact b2,by rw [cQ hr];exact b3⟩
   case no=>trivial
   all_goals exact hk.elim
theorem Inv.forget {c:Cx} {B:Nat} {X:Nat→Prop} {w0:World} {F0 F:Nat→Prop} {O:Nat→Option (Nat × Nat)} {a:Act} {w:World} {δ δ':List D}
  (h:Inv c B X w0 F0 F O a w δ) (hl:δ'.length=δ.length) (hs:∀s,nth δ' s=nth δ s∨nth δ' s = .bad) (hr:∀s r,(aq c.K s = .via r∨aq c.K s = .ref r)→nth δ' s ≠ .bad→nth δ' r ≠ .bad):Inv c B X w0 F0 F O a w δ' :=
 h.step (fun _=>False) rfl hl rfl (fun s _=>⟨rfl,hs s⟩) (fun _ hb=>hb) (fun _ _=>rfl) (fun _ _ h _=>⟨h,rfl⟩) (fun s r _ hv hb=>⟨rfl,hr s r hv hb⟩) (fun _ h=>h.elim) h.fl h.ol (fun _ hb=>.inl hb) (aaC _) rfl rfl rfl (fun _ _ _=>rfl)
theorem Inv.dat {c:Cx} {B:Nat} {X:Nat→Prop} {w0:World} {F0 F:Nat→Prop} {O:Nat→Option (Nat × Nat)} {a:Act} {w:World} {δ:List D}
  (h:Inv c B X w0 F0 F O a w δ) {s lv:Nat} (hk:aq c.K s = .dat lv):de w (FB F B lv) (nth δ s) (av a s):=by
 rcases h.slot s with hb | h0
 ·exact .inl hb
 ·rw [hk] at h0
  exact h0
end Go.V

end
