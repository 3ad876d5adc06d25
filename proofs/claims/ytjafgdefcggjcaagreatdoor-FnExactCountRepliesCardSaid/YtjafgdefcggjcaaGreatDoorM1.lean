/-
  A part of the proof: contracts and plain forms of functions beneath the statement, made small by a program (names shortened, what is not needed left out).
-/
import Derived.Test.YtjafgdefcggjcaaGreatDoorRows
import Derived.Test.YtjafgdefcggjcaaGreatDoorTie
import Derived.Test.YtjafgdefcggjcaaGreatDoorCards
import Derived.WalkKit
open Nat renaming beq → aht, ble → ahy, eq_of_beq_eq_true → ahI, succ → ahP, le_refl → ahX, add_assoc → aid, lt_or_ge → aig, min_eq_left → ail
open Go.Result renaming andThen_ok → ahu
open Bool renaming and_eq_true → ahv, not_eq_true' → ahC, false_eq_true → ahQ
open Go.Sem renaming run_bind → ahw, run_pure → ahB
open List.cons renaming injEq → ahx
open List renaming map_cons → ahz, map_nil → ahD, getElem?_eq_some_iff → ahE, mem_of_mem_take → ahG, length_take → ahK, all_eq_true → ahL, mem_cons → ahN, drop_eq_nil_of_le → ahR, all_cons → ahT, mem_of_mem_drop → ahU, eq_nil_of_length_eq_zero → ahV, length_drop → ah1, nil_append → ah2, mem_append → ah3, take_of_length_le → ah6, take_append_drop → aia, mem_cons_of_mem → aic, getElem?_drop → aif, cons_append → aij, length_cons → aik, foldl_cons → aim
open Option renaming map_eq_some_iff → ahA, bind_eq_some_iff → ahF
open Go.Op renaming equalIn → ahH, equal → ahM, maxDepth → ahS, bytesLess → ahZ, eqFields → ah7, intArith → ah8, stringOp → aii
open Go.Addr renaming add_lit → ahJ
open Go.Instr renaming indexAt → ahO, sureAddr → ahW, loadAt → ah0, index → ah9, fieldAt → aie, sliceAt → aio
open Option.some renaming injEq → ahY
open UInt8 renaming ofNat → ah4
open Go.Value renaming cells → ah5, int → ain
open Go.World renaming cell?_of_block → aib
open Go.Builtin renaming len_ → aih, min2 → aiq, max2 → air
open Go.Program renaming elem → aip
set_option linter.unusedSimpArgs false
set_option linter.unusedVariables false
noncomputable section
namespace Go.V
inductive D where
 | v (x:Value)
 | arr (z:Nat) (l:List D)
 | agg (l:List D)
 | ptr (l:List D)
 | clo (f:Nat) (l:List D)
 | ifc
 | raw (x:Value)
 | tup (l:List D)
 | ref (i f:Nat)
 | bad
 deriving Inhabited
abbrev B (b:Bool):D:=.v (.bool b)
abbrev I (n:Int):D:=.v (.int .i64 n)
abbrev U (n:Int):D:=.v (.int .u8 n)
abbrev T (s:ByteArray):D:=.v (.string s)
inductive Out where
 | nrm (δ:List D)
 | ext (id:Nat) (δ:List D)
 | ret (rs us:List D)
structure TI where
 agg:Bool:=false
 n:Nat:=1
 zero:List D:=[]
 elem:Nat:=0
 ez:Nat:=0
 eb:Nat:=0
 fs:List (Nat × Nat):=[]
 alen:Nat:=0
 eq:List Nat:=[]
 ik:Option IntKind:=none
 str:Bool:=false
 bl:Bool:=false
 ifc:Bool:=false
inductive Kd where
 | dat (lv:Nat)
 | own (z lv:Nat) (io:Bool)
 | box (n lv:Nat) (io:Bool)
 | via (r:Nat)
 | ref (r:Nat)
 | tup (l:List Kd)
 | no
structure FS where
 pm:List Kd
 rm:List Kd
 f:List D→Option Out
structure Cx where
 K:List Kd
 T:List (Nat × TI)
 S:List (Nat × FS)
 H:List (Nat × (List Nat × List Nat)):=[]
 res:List ResultVar
 ios:List Nat:=[]
 G:List (Nat × (Obj→Prop)):=[]
 N:List Nat:=[]
 C:List (Nat × Nat):=[]
section small
@[reducible] def Xu {α:Type}:List α→Nat→Option α
 | [],_=>none
 | a::_,0=>some a
 | _::l,n+1=>Xu l n
@[reducible] def nth:List D→Nat→D
 | [],_=>.bad
 | a::_,0=>a
 | _::l,n+1=>nth l n
@[reducible] def aC:List Kd→Nat→Kd
 | [],_=>.no
 | a::_,0=>a
 | _::l,n+1=>aC l n
@[reducible] def iL:List D→Nat→D→List D
 | [],_,_=>[]
 | _::l,0,b=>b::l
 | a::l,n+1,b=>a::iL l n b
@[reducible] def eX {α:Type}:List (Nat × α)→Nat→Option α
 | [],_=>none
 | (k,a)::l,n=>match aht k n with
  | true=>some a
  | false=>eX l n
@[reducible] def app {α:Type}:List α→List α→List α
 | [],b=>b
 | a::l,b=>a::app l b
@[reducible] def tU {α β:Type} (f:α→β):List α→List β
 | []=>[]
 | a::l=>f a::tU f l
@[reducible] def az:List D→List Nat→List D→List D
 | δ,[],_=>δ
 | δ,s::ss,[]=>az (iL δ s .bad) ss []
 | δ,s::ss,d::ds=>az (iL δ s d) ss ds
@[reducible] def iB {R:Type}:List D→Nat→(D→R)→R
 | [],_,k=>k .bad
 | a::_,0,k=>k a
 | _::l,n+1,k=>iB l n k
@[reducible] def Yk {R:Type}:List D→Nat→D→(List D→R)→R
 | [],_,_,k=>k []
 | _::l,0,b,k=>k (b::l)
 | a::l,n+1,b,k=>Yk l n b fun l'=>k (a::l')
@[reducible] def AA {R:Type} (δ:List D):List Nat→(List D→R)→R
 | [],k=>k []
 | s::ss,k=>iB δ s fun a=>AA δ ss fun l=>k (a::l)
@[reducible] def eN {R:Type}:List D→List Nat→List D→(List D→R)→R
 | δ,[],_,k=>k δ
 | δ,s::ss,[],k=>Yk δ s .bad fun δ=>eN δ ss [] k
 | δ,s::ss,d::ds,k=>Yk δ s d fun δ=>eN δ ss ds k
@[reducible] def oc:Nat→List Nat→Bool
 | _,[]=>false
 | n,m::l=>match aht n m with
  | true=>true
  | false=>oc n l
end small
def D.cells:D→List D
 | .agg l=>l
 | d=>[d]
def D.single:D→Bool
 | .v _ | .arr .. | .ptr _ | .clo .. | .ifc | .raw _=>true
 | _=>false
def D.width (d:D):Nat:=d.cells.length
def D.isV:D→Bool
 | .v _=>true
 | .agg l=>l.all fun | .v _=>true | _=>false
 | _=>false
def flat:Value→Bool
 | .bool _ | .int .. | .string _ | .nilFunc | .nilIface | .pointer none=>true
 | .slice none 0 0=>true
 | _=>false
def mP (op:BinOp) (k:IntKind) (a b:Int):Option D :=
 match op with
 | .add=>some (.v (.int k (k.wrap (a+b))))
 | .sub=>some (.v (.int k (k.wrap (a - b))))
 | .mul=>some (.v (.int k (k.wrap (a*b))))
 | .quo=>if b=0 then none else some (.v (.int k (k.wrap (a.tdiv b))))
 | .rem=>if b=0 then none else some (.v (.int k (a.tmod b)))
 | .and | .or | .xor | .andNot=>some (.v (.int k (bits op k a b)))
 | .eql=>some (B (a==b))
 | .neq=>some (B (a != b))
 | .lss=>some (B (a<b))
 | .leq=>some (B (a≤b))
 | .gtr=>some (B (a>b))
 | .geq=>some (B (a≥b))
 | .shl | .shr=>none
def JJ (op:BinOp) (a b:ByteArray):Option D :=
 match op with
 | .add=>if a.size+b.size≤1152921504606846976 then some (T (a++b)) else none
 | .eql=>some (B (a.toList==b.toList))
 | .neq=>some (B !(a.toList==b.toList))
 | .lss=>some (B (ahZ a.toList b.toList))
 | .leq=>some (B (ahZ a.toList b.toList||a.toList==b.toList))
 | .gtr=>some (B !(ahZ a.toList b.toList||a.toList==b.toList))
 | .geq=>some (B !(ahZ a.toList b.toList))
 | _=>none
def HP:List Nat→List D→List D→Option Bool
 | [],[],[]=>some true
 | 1::c,.v (.int k a)::l,.v (.int k' b)::m=>if k=k' then(HP c l m).map (a==b&&·) else none
 | 2::c,.v (.bool a)::l,.v (.bool b)::m=>(HP c l m).map (a==b&&·)
 | 3::c,.v (.string a)::l,.v (.string b)::m=>(HP c l m).map (a.toList==b.toList&&·)
 | _,_,_=>none
def bin (op:BinOp) (bl:Bool) (eq:List Nat) (x y:D):Option D :=
 match op,x,y with
 | .shl,.v (.int k a),.v (.int _ b)=>if 0≤b then some (.v (.int k (k.wrap (a*2 ^ min b.toNat k.bits)))) else none
 | .shr,.v (.int k a),.v (.int _ b)=>if 0≤b then some (.v (.int k (a.fdiv (2 ^ min b.toNat k.bits)))) else none
 | op,.v (.int k a),.v (.int k' b)=>if k=k' then mP op k a b else none
 | op,.v (.string a),.v (.string b)=>JJ op a b
 | .eql,.v (.bool a),.v (.bool b)=>if bl then some (B (a==b)) else none
 | .neq,.v (.bool a),.v (.bool b)=>if bl then some (B !(a==b)) else none
 | .eql,.agg a,.agg b=>if eq=[] then none else(HP eq a b).map B
 | .neq,.agg a,.agg b=>if eq=[] then none else(HP eq a b).map fun q=>B !q
 | _,_,_=>none
def Yp (nc:Bool) (op:BinOp) (x y:D):Option D :=
 match op,x,y with
 | .eql,.ifc,.v .nilIface=>some (B false)
 | .neq,.ifc,.v .nilIface=>some (B true)
 | .eql,.v .nilIface,.v .nilIface=>if nc then some (B true) else none
 | .neq,.v .nilIface,.v .nilIface=>if nc then some (B false) else none
 | _,_,_=>none
def aba (op:BinOp) (x:D):Option D :=
 match op,x with
 | .eql,.v (.slice none 0 0)=>some (B true)
 | .neq,.v (.slice none 0 0)=>some (B false)
 | .eql,.arr _ (_::_)=>some (B false)
 | .neq,.arr _ (_::_)=>some (B true)
 | _,_=>none
def un (op:UnOp) (x:D):Option D :=
 match op,x with
 | .neg,.v (.int k n)=>some (.v (.int k (k.wrap (0 - n))))
 | .not,.v (.bool b)=>some (B !b)
 | _,_=>none
def aT (c a b:D):Option D :=
 match c with
 | .v (.bool true)=>some a
 | .v (.bool false)=>some b
 | _=>none
def lenD (str:Bool) (x:D):Option D :=
 match str,x with
 | false,.arr _ l=>some (I l.length)
 | true,.v (.string s)=>some (I s.size)
 | _,_=>none
def ao (z:Nat) (x i:D):Option (List D) :=
 match x,i with
 | .arr z' l,.v (.int _ n)=>if z'=z∧0≤n then(l[n.toNat]?).map D.cells else none
 | _,_=>none
def an (ag:Bool) (n:Nat) (l:List D):Option D :=
 if ag then(if n≤l.length then some (.agg (l.take n)) else none) else l.head?
def jW (x i:D):Option D :=
 match x,i with
 | .v (.string s),.v (.int _ n)=>if 0≤n then(s.data.toList[n.toNat]?).map fun b=>U b.toNat else none
 | _,_=>none
def dW (str:Bool) (z:Nat) (x lo hi:D):Option D :=
 match str,x,lo,hi with
 | false,.arr z' l,.v (.int _ a),.v (.int _ b)=>if z'=z∧0≤a∧a≤b∧b≤l.length then some (.arr z ((l.take b.toNat).drop a.toNat)) else none
 | true,.v (.string s),.v (.int _ a),.v (.int _ b)=>if 0≤a∧a≤b∧b≤s.size then some (T (s.extract a.toNat b.toNat)) else none
 | _,_,_,_=>none
def aL (d:D):Option D:=if d.isV then some d else none
def bA (z eb:Nat) (x y:D):Option D :=
 match x,y with
 | .arr a l,.arr b m=>if (a=z∨l=[])∧(b=z∨m=[])∧(l.length+m.length)*eb≤140737488355328∧l.length+m.length≤1152921504606846976 then some (.arr z (l++m)) else none
 | _,_=>none
abbrev kd0:Kd:=.dat 0
abbrev kd1:Kd:=.dat 1
abbrev kd2:Kd:=.dat 2
end Go.V

namespace Go.V
inductive Ac where
 | one (rd:List Nat) (d:Nat) (h:List D→Option D)
 | many (rd hw cw:List Nat) (fn:List D→(List D→Option Out)→Option Out)
def ifD (c:D) (t e:Option Out):Option Out :=
 match c with
 | .v (.bool true)=>t
 | .v (.bool false)=>e
 | _=>none
def aj (v:D) (g:D) (pol:Bool) (r:Option D):Option D :=
 match g with
 | .v (.bool b)=>if b=pol then r else some v
 | .tup _=>some v
 | _=>none
def cR (g:D) (pol:Bool) (r:Option Out) (alt:List D) (k:List D→Option Out):Option Out :=
 match g with
 | .v (.bool b)=>if b=pol then(match r with
  | some (.nrm l)=>k l
  | _=>none) else k alt
 | .tup _=>k alt
 | _=>none
def ae (r:Option Out) (k:List D→List D→Option Out):Option Out :=
 match r with
 | some (.ret rs us)=>k rs us
 | _=>none
def bf (ag:Bool) (n off:Nat) (d:D):Option D :=
 match d with
 | .agg l=>an ag n (l.drop off)
 | _=>none
def ldD (ag:Bool) (n:Nat) (d:D):Option D :=
 match d with
 | .ptr l=>an ag n l
 | _=>none
def gy (off:Nat) (d:D):Option D :=
 match d with
 | .ptr l=>some (.ptr (l.drop off))
 | _=>none
def atD (o r:D):Option (List D) :=
 match o,r with
 | .arr _ l,.ref i f=>(l[i]?).map fun d=>d.cells.drop f
 | .agg l,.ref _ f=>some (l.drop f)
 | _,_=>none
def D.ofCells (old:D) (cs:List D):D :=
 match old,cs with
 | .agg _,cs=>.agg cs
 | _,c::_=>c
 | d,[]=>d
def putCells (l:List D) (f:Nat) (vs:List D):List D:=l.take f++vs++l.drop (f+vs.length)
def stD (n:Nat) (o r x:D):Option D :=
 match o,r with
 | .arr z l,.ref i f=>match l[i]? with
  | some d=>if x.cells.length=n∧f+n≤d.width∧x.cells.all D.single then some (.arr z (l.set i (d.ofCells (putCells d.cells f x.cells)))) else none
  | none=>none
 | .agg l,.ref _ f=>if x.cells.length=n∧f+n≤l.length∧x.cells.all D.single then some (.agg (putCells l f x.cells)) else none
 | _,_=>none
def eH (z:Nat) (o i:D):Option D :=
 match o,i with
 | .arr z' l,.v (.int _ n)=>if z'=z∧0≤n∧n<l.length then some (.ref n.toNat 0) else none
 | _,_=>none
def aa (d:D) (x:D):Option D :=
 match d with
 | .bad=>none
 | _=>some x
def lW (z n:Nat) (l:List D):Bool:=l.all fun d=>d.width==z&&(d.single||(match d with | .agg c=>c.all D.single | _=>false))&&decide (l.length=n)
def aH (z:Nat) (l:List D):Option D:=if lW z l.length l then some (.arr z l) else none
def OA (z eb:Nat) (x:D) (n c:D):Option D :=
 match n,c with
 | .v (.int _ a),.v (.int _ b)=>if 0≤a∧a≤b∧b*(eb:Int)≤140737488355328∧b≤140737488355328 then some (.arr z (List.replicate a.toNat x)) else none
 | _,_=>none
def fJ (n:Nat) (x:D):Option D:=if x.cells.length=n∧x.cells.all D.single then some (.agg x.cells) else none
def ag6 (y:D):Option D :=
 match y with
 | .agg l=>some (.ptr l)
 | _=>none
def ag1 (f:Nat) (ds:List D):Option D:=if ds.all D.single then some (.clo f ds) else none
def afm (f n:Nat) (cl:D):Option (List D) :=
 match cl with
 | .clo g l=>if g=f∧l.length=n∧l.all D.single then some l else none
 | _=>none
def aq (t:D) (i:Nat):Option D :=
 match t with
 | .tup l=>match l[i]? with
  | some .bad=>none
  | some (.tup _)=>none
  | r=>r
 | _=>none
def dg (t:D) (i:Nat):D :=
 match t with
 | .tup l=>.tup (l.set i .bad)
 | d=>d
@[reducible] def EN:Value→D
 | .slice _ _ _=>.arr 0 []
 | v=>.v v
@[reducible] def okC:Value→Bool
 | .slice none 0 0=>true
 | .bool _=>true
 | .int _ _=>true
 | .string _=>true
 | .nilFunc=>true
 | .nilIface=>true
 | .pointer none=>true
 | _=>false
@[reducible] def vm:List Operand→List Nat
 | []=>[]
 | .tmp t::xs=>t::vm xs
 | _::xs=>vm xs
@[reducible] def fE:List Operand→List D→List D
 | [],_=>[]
 | .tmp _::xs,i::is=>i::fE xs is
 | .tmp _::xs,[]=>.bad::fE xs []
 | .const c::xs,is=>EN c::fE xs is
 | .func f::xs,is=>.clo f []::fE xs is
 | .global _::xs,is=>.bad::fE xs is
@[reducible] def opD (δ:List D):Operand→D
 | .tmp t=>nth δ t
 | .const c=>EN c
 | .func f=>.clo f []
 | .global _=>.bad
@[reducible] def Ry (a b:Nat):Nat:=match ahy a b with
 | true=>b
 | false=>a
@[reducible] def fU (K:List Kd):Operand→Nat
 | .tmp t=>match aC K t with
  | .dat lv=>lv
  | _=>9
 | .const v=>match okC v with
  | true=>0
  | false=>9
 | .func _=>0
 | .global _=>9
@[reducible] def qh (K:List Kd):List Operand→Nat
 | []=>0
 | x::xs=>Ry (fU K x) (qh K xs)
@[reducible] def cF (c:Cx) (dst:Option Nat) (xs:List Operand) (lv:Nat) (h:List D→Option D):Option Ac :=
 match dst with
 | none=>none
 | some d=>match aC c.K d with
  | .dat l=>match ahy (qh c.K xs) 2 with
   | false=>none
   | true=>match ahy lv l with
    | true=>some (.one (vm xs) d fun is=>h (fE xs is))
    | false=>match aht l 0 with
     | true=>some (.one (vm xs) d fun is=>(h (fE xs is)).bind aL)
     | false=>none
  | _=>none
@[reducible] def iq (c:Cx) (t:Nat) (f:TI→Option Ac):Option Ac:=match eX c.T t with
 | some i=>f i
 | none=>none
@[reducible] def HC (c:Cx) (i:TI) (f:Nat):Option (Nat × TI):=match Xu i.fs f with
 | some (off,ty)=>match eX c.T ty with
  | some j=>some (off,j)
  | none=>none
 | none=>none
@[reducible] def jD (h:D→Option D):List D→Option D
 | [a]=>h a
 | _=>none
@[reducible] def Lr (h:D→D→Option D):List D→Option D
 | [a,b]=>h a b
 | _=>none
@[reducible] def ad0 (h:D→D→D→Option D):List D→Option D
 | [a,b,x]=>h a b x
 | _=>none
@[reducible] def hP (r:Nat):List Kd→Nat→List Nat
 | [],_=>[]
 | .via q::K,s=>match aht q r with
  | true=>s::hP r K (ahP s)
  | false=>hP r K (ahP s)
 | .ref q::K,s=>match aht q r with
  | true=>s::hP r K (ahP s)
  | false=>hP r K (ahP s)
 | _::K,s=>hP r K (ahP s)
@[reducible] def bq (K:List Kd):List Nat→List Nat
 | []=>[]
 | r::rs=>app (hP r K 0) (bq K rs)
end Go.V

namespace Go.V
def Aw (ik:Option IntKind) (str:Bool) (x:D):Option D :=
 match ik,str,x with
 | some k,_,.v (.int _ n)=>some (.v (.int k (k.wrap n)))
 | none,true,.v (.string s)=>some (T s)
 | _,_,_=>none
def sS:List D→Option (List UInt8)
 | []=>some []
 | .v (.int .u8 n)::l=>(sS l).map (ah4 n.toNat::·)
 | _=>none
def Rh (x:D):Option D :=
 match x with
 | .arr _ l=>(sS l).map fun b=>T ⟨b.toArray⟩
 | _=>none
def XE (x y:D):Option D :=
 match x,y with
 | .v (.int k a),.v (.int _ b)=>some (.v (.int k (if b<a then b else a)))
 | _,_=>none
def Uf (x y:D):Option D :=
 match x,y with
 | .v (.int k a),.v (.int _ b)=>some (.v (.int k (if a<b then b else a)))
 | _,_=>none
def Bn (x:D):Option D :=
 match x with
 | .ptr l=>some (.ptr l)
 | .clo f l=>some (.clo f l)
 | _=>none
def bc (off:Nat) (r:D):Option D :=
 match r with
 | .ref i f=>some (.ref i (f+off))
 | _=>none
def kS (r x:D):Option D :=
 match r with
 | .ref 0 0=>some x
 | _=>none
def ixD (len z:Nat) (x i:D):Option D :=
 match x,i with
 | .ptr l,.v (.int _ n)=>if 0≤n∧n<len then some (.ptr (l.drop (n.toNat*z))) else none
 | _,_=>none
def ixA (ag:Bool) (len z:Nat) (x i:D):Option D :=
 match x,i with
 | .agg l,.v (.int _ n)=>if 0≤n∧n<len then an ag z (l.drop (n.toNat*z)) else none
 | _,_=>none
def XT (len z:Nat) (r i:D):Option D :=
 match r,i with
 | .ref j f,.v (.int _ n)=>if 0≤n∧n<len then some (.ref j (f+n.toNat*z)) else none
 | _,_=>none
def HR:List (Nat × Nat)→List D→List D→Option (List D)
 | (off,n)::ps,x::xs,cs=>if x.cells.length=n∧off+n≤cs.length∧x.cells.all D.single then HR ps xs (putCells cs off x.cells) else none
 | [],[],cs=>some cs
 | _,_,_=>none
def dw (ps:List (Nat × Nat)) (z:List D) (xs:List D):Option D:=(HR ps xs z).map .agg
def cJ (str:Bool) (z:Nat) (x lo:D):Option D :=
 match str,x,lo with
 | false,.arr z' l,.v (.int _ a)=>if z'=z∧0≤a∧a≤l.length then some (.arr z (l.drop a.toNat)) else none
 | true,.v (.string s),.v (.int _ a)=>if 0≤a∧a≤s.size then some (T (s.extract a.toNat s.size)) else none
 | _,_,_=>none
@[reducible] def KS (e:TI):D :=
 match e.agg with
 | true=>.agg e.zero
 | false=>match e.zero with
  | v::_=>v
  | []=>.bad
@[reducible] def iV:List Kd→List Kd→Bool
 | [],[]=>true
 | .dat a::l,.dat b::m=>match aht a b with
  | true=>iV l m
  | false=>false
 | .own z a false::l,.own y b false::m=>match aht a b,aht z y with
  | true,true=>iV l m
  | _,_=>false
 | _,_=>false
@[reducible] def XV (c:Cx) (dst:Option Nat) (x:Operand) (ty:Nat):Option Ac :=
 match x with
 | .tmp t=>match aC c.K t with
  | .own z lv io=>match dst with
   | none=>none
   | some d=>match aC c.K d with
    | .via r=>match aht r t with
     | true=>some (.one [t] d fun is=>(jD fun x=>aa x (.ref 0 0)) is)
     | false=>none
    | .own z' lv' false=>match io,aht z z',ahy lv lv' with
     | false,true,true=>some (.many [t] [d,t] [] fun is k=>iB is 0 fun x=>k [x,.bad])
     | _,_,_=>none
    | .dat lv'=>match io,ahy 1 lv',ahy lv lv' with
     | false,true,true=>some (.many [t] [d,t] [] fun is k=>iB is 0 fun x=>k [x,.bad])
     | _,_,_=>none
    | _=>none
  | .via r=>match dst with
   | none=>none
   | some d=>match aC c.K r with
    | .own z lv io=>match aC c.K d with
     | .via r'=>match aht r r' with
      | true=>some (.one [t] d fun is=>(jD fun x=>aa x (.ref 0 0)) is)
      | false=>none
     | .own z' lv' false=>match io,aht z z',ahy lv lv' with
      | false,true,true=>some (.many [t,r] [d,r] [] fun is k=>iB is 0 fun p=>iB is 1 fun x=>(aa p x).bind fun y=>k [y,.bad])
      | _,_,_=>none
     | .dat lv'=>match io,ahy 1 lv',ahy lv lv' with
      | false,true,true=>some (.many [t,r] [d,r] [] fun is k=>iB is 0 fun p=>iB is 1 fun x=>(aa p x).bind fun y=>k [y,.bad])
      | _,_,_=>none
     | _=>none
    | _=>none
  | .box _ _ _=>match dst with
   | none=>none
   | some d=>match aC c.K d with
    | .ref r=>match aht r t with
     | true=>some (.one [t] d fun is=>(jD fun x=>aa x (.ref 0 0)) is)
     | false=>none
    | _=>none
  | .ref r=>match dst with
   | none=>none
   | some d=>match aC c.K d with
    | .ref r'=>match aht r r' with
     | true=>some (.one [t] d fun is=>(jD fun x=>aa x x) is)
     | false=>none
    | _=>none
  | .dat lv=>cF c dst [x] lv (jD some)
  | .tup ms=>match dst with
   | none=>none
   | some d=>match aC c.K d with
    | .tup ns=>match iV ms ns,aht d t with
     | true,false=>some (.many [t] [d,t] [] fun is k=>iB is 0 fun x=>k [x,.bad])
     | _,_=>none
    | _=>none
  | _=>none
 | .const (.slice none 0 0)=>match dst with
  | none=>none
  | some d=>match aC c.K d with
   | .own z _ false=>some (.many [] [d] [] fun _ k=>k [.arr z []])
   | .dat _=>match oc d c.N with
    | true=>cF c dst [x] 0 (fun _=>some (.v (.slice none 0 0)))
    | false=>iq c ty fun i=>cF c dst [x] 0 (fun _=>some (.arr i.ez []))
   | _=>none
 | x=>cF c dst [x] (fU c.K x) (jD some)
@[reducible] def aes {α β:Type} (f:α→β):Option α→Option β
 | none=>none
 | some a=>some (f a)
@[reducible] def Sl (lv l:Nat) (h:List D→Option D):Option (List D→Option D) :=
 match ahy lv l with
 | true=>some h
 | false=>match aht l 0 with
  | true=>some fun is=>(h is).bind aL
  | false=>none
@[reducible] def fM (K:List Kd) (r:Nat):Nat :=
 match aC K r with
 | .own _ lv _=>lv
 | .box _ lv _=>lv
 | _=>9
@[reducible] def po (K:List Kd) (r:Nat):Bool :=
 match aC K r with
 | .own _ _ _=>true
 | _=>false
@[reducible] def agL (K:List Kd) (r:Nat):Nat :=
 match aC K r with
 | .own z _ _=>z
 | _=>0
@[reducible] def Mj (K:List Kd) (r:Nat):Bool :=
 match aC K r with
 | .own _ _ false=>true
 | _=>false
@[reducible] def ae5 (c:Cx) (dst:Option Nat) (i:TI) (p:Operand):Option Ac :=
 match p with
 | .tmp q=>match aC c.K q with
  | .dat lv=>cF c dst [p] lv (jD (ldD i.agg i.n))
  | .box _ lv _=>match dst with
   | none=>none
   | some d=>match aC c.K d with
    | .dat l=>aes (fun h=>.one [q] d h) (Sl lv l (fun is=>bf i.agg i.n 0 (nth is 0)))
    | _=>none
  | .ref r=>match dst with
   | none=>none
   | some d=>match aC c.K d with
    | .dat l=>aes (fun h=>.one [q,r] d h) (Sl (fM c.K r) l (fun is=>(atD (nth is 1) (nth is 0)).bind (an i.agg i.n)))
    | _=>none
  | _=>none
 | _=>none
@[reducible] def rdP (q r:Nat):List Nat :=
 match aht q r with
 | true=>[r]
 | false=>[q,r]
@[reducible] def goP (q r:Nat) (is:List D) (k:D→D→List D→Option Out):Option Out :=
 match aht q r with
 | true=>match is with
  | b::is=>k b (.ref 0 0) is
  | []=>none
 | false=>match is with
  | p::b::is=>k b p is
  | _=>none
@[reducible] def stK (chk:Bool) (n:Nat) (b p y:D) (k:D→Option Out):Option Out :=
 match chk with
 | true=>(aL y).bind fun y=>(stD n b p y).bind k
 | false=>(stD n b p y).bind k
@[reducible] def XZ (c:Cx) (i:TI) (q r lv:Nat) (x:Operand):Option Ac :=
 match x with
 | .tmp s=>match aC c.K s with
  | .dat l=>match ahy l lv,aht lv 0 with
   | true,_=>some (.many (app (rdP q r) [s]) [] [r] fun is k=>goP q r is fun b p is=>iB is 0 fun y=>stK false i.n b p y fun b=>k [b])
   | false,true=>some (.many (app (rdP q r) [s]) [] [r] fun is k=>goP q r is fun b p is=>iB is 0 fun y=>stK true i.n b p y fun b=>k [b])
   | false,false=>none
  | .own _ l false=>match ahy 1 lv,ahy l lv,aht s r with
   | true,true,false=>some (.many (app (rdP q r) [s]) [s] [r] fun is k=>goP q r is fun b p is=>iB is 0 fun y=>stK false i.n b p y fun b=>k [.bad,b])
   | _,_,_=>none
  | _=>none
 | .global _=>none
 | .const v=>match okC v with
  | true=>some (.many (app (rdP q r) []) [] [r] fun is k=>goP q r is fun b p _=>stK false i.n b p (EN v) fun b=>k [b])
  | false=>none
 | .func f=>some (.many (app (rdP q r) []) [] [r] fun is k=>goP q r is fun b p _=>stK false i.n b p (.clo f []) fun b=>k [b])
@[reducible] def ac5 (c:Cx) (i:TI) (p x:Operand):Option Ac :=
 match p with
 | .tmp q=>match aC c.K q with
  | .box _ lv _=>XZ c i q q lv x
  | .ref r=>XZ c i q r (fM c.K r) x
  | _=>none
 | _=>none
@[reducible] def ae6 (c:Cx) (dst:Option Nat) (i:TI) (f:Nat) (p:Operand):Option Ac :=
 match p,HC c i f with
 | .tmp q,some (off,_)=>match aC c.K q with
  | .dat lv=>cF c dst [p] lv (jD (gy off))
  | .box _ _ _=>match dst with
   | none=>none
   | some d=>match aC c.K d with
    | .ref r=>match aht r q with
     | true=>some (.one [q] d (jD fun b=>aa b (.ref 0 off)))
     | false=>none
    | _=>none
  | .ref r=>match dst with
   | none=>none
   | some d=>match aC c.K d with
    | .ref r'=>match aht r r' with
     | true=>some (.one [q] d (jD (bc off)))
     | false=>none
    | _=>none
  | _=>none
 | _,_=>none
@[reducible] def Nh (K:List Kd) (x:Operand):Bool:=ahy (fU K x) 2
@[reducible] def qR (i:TI):Bool :=
 match i.alen,i.ez with
 | 0,0=>false
 | 0,_=>true
 | _,_=>false
@[reducible] def ad3 (c:Cx) (dst:Option Nat) (i:TI) (x ix:Operand):Option Ac :=
  match x,Nh c.K ix with
  | .tmp q,true=>match qR i with
    | true=>match aC c.K q with
      | .dat lv=>cF c dst [x,ix] lv (Lr fun x j=>(ao i.ez x j).map .ptr)
      | .own _ _ _=>match dst with
        | none=>none
        | some d=>match aC c.K d with
          | .ref r=>match aht r q with
            | true=>some (.one (q::vm [ix]) d fun is=>match is with
              | b::is=>jD (eH i.ez b) (fE [ix] is)
              | []=>none)
            | false=>none
          | _=>none
      | .via r=>match dst with
        | none=>none
        | some d=>match aC c.K d with
          | .ref r'=>match aht r r',po c.K r with
            | true,true=>some (.one (q::r::vm [ix]) d fun is=>match is with
              | p::b::is=>(aa p b).bind fun b=>jD (eH i.ez b) (fE [ix] is)
              | _=>none)
            | _,_=>none
          | _=>none
      | _=>none
    | false=>match i.alen with
     | 0=>none
     | len=>match aC c.K q with
      | .dat lv=>cF c dst [x,ix] lv (Lr (ixD len i.ez))
      | .box _ _ _=>match dst with
        | none=>none
        | some d=>match aC c.K d with
          | .ref r=>match aht r q with
            | true=>some (.one (q::vm [ix]) d fun is=>match is with
              | b::is=>(aa b (.ref 0 0)).bind fun p=>jD (XT len i.ez p) (fE [ix] is)
              | []=>none)
            | false=>none
          | _=>none
      | .ref r=>match dst with
        | none=>none
        | some d=>match aC c.K d with
          | .ref r'=>match aht r r' with
            | true=>some (.one (q::vm [ix]) d fun is=>match is with
              | p::is=>jD (XT len i.ez p) (fE [ix] is)
              | []=>none)
            | false=>none
          | _=>none
      | _=>none
  | _,_=>none
@[reducible] def kH (K:List Kd) (d z lv:Nat):Bool :=
 match aC K d with
 | .own z' l false=>match aht z z' with
  | true=>ahy lv l
  | false=>false
 | .dat l=>match ahy 1 l with
  | true=>ahy lv l
  | false=>false
 | _=>false
@[reducible] def XQ:Nat→List (Nat × Operand)→Nat→Bool
 | k,[],n=>aht k n
 | k,(i,_)::ps,n=>match aht i k with
  | true=>XQ (ahP k) ps n
  | false=>false
@[reducible] def ae2 (c:Cx) (dst:Option Nat) (i:TI) (n:Nat) (parts:List (Nat × Operand)):Option Ac :=
 let xs:=tU (fun p=>p.2) parts
 match dst with
 | none=>none
 | some d =>
  match XQ 0 parts n,ahy (n*i.ez) 16777216,kH c.K d i.ez (qh c.K xs),ahy (qh c.K xs) 2 with
  | true,true,true,true=>some (.many (vm xs) [d] [] fun is k=>(aH i.ez (fE xs is)).bind fun a=>k [a])
  | _,_,_,_=>none
@[reducible] def rW (K:List Kd) (x:Operand):Option (List Nat × Nat × Option Nat) :=
 match x with
 | .tmp t=>match aC K t with
  | .dat lv=>some ([t],lv,none)
  | .own _ lv _=>some ([t],lv,some t)
  | .via r=>match aC K r with
   | .own _ lv _=>some ([t,r],lv,some r)
   | _=>none
  | _=>none
 | .const (.slice none 0 0)=>some ([],0,none)
 | _=>none
@[reducible] def nj (rd:List Nat) (is:List D) (k:D→Option Out):Option Out :=
 match rd with
 | []=>k (.arr 0 [])
 | [_]=>iB is 0 k
 | _=>iB is 0 fun p=>iB is 1 fun x=>(aa p x).bind k
@[reducible] def xV {α:Type}:Nat→List α→List α
 | 0,l=>l
 | _+1,[]=>[]
 | n+1,_::l=>xV n l
@[reducible] def oi {α:Type}:List α→Nat
 | []=>0
 | _::l=>ahP (oi l)
@[reducible] def neO:Option Nat→Option Nat→Bool
 | some a,some b=>match aht a b with
  | true=>false
  | false=>true
 | _,_=>true
def cK (d:D):Option D :=
 match d with
 | .arr z l=>if l.all D.isV then some (.arr z l) else none
 | _=>none
@[reducible] def Zu (chk:Bool) (b:D) (k:D→Option Out):Option Out :=
 match chk with
 | true=>(cK b).bind k
 | false=>k b
@[reducible] def aaY (c:Cx) (d:Nat) (i:TI) (chk:Bool) (rs rx:List Nat) (os:Option Nat):Option Ac :=
 match os with
 | some r=>match Mj c.K r,aht (agL c.K r) i.ez with
  | true,true=>some (.many (app rs rx) [d,r] [] fun is k=>nj rs is fun a=>nj rx (xV (oi rs) is) fun b=>Zu chk b fun b=>(bA i.ez i.eb a b).bind fun y=>k [y,.bad])
  | _,_=>none
 | none=>match rs with
  | []=>some (.many rx [d] [] fun is k=>nj rx is fun b=>Zu chk b fun b=>(bA i.ez i.eb (.arr 0 []) b).bind fun y=>k [y])
  | _=>none
@[reducible] def adz (c:Cx) (dst:Option Nat) (i:TI) (s x:Operand):Option Ac :=
 match dst,rW c.K s,rW c.K x with
 | some d,some (rs,ls,os),some (rx,lx,ox) =>
  match neO os ox,kH c.K d i.ez (Ry ls lx),kH c.K d i.ez ls with
  | true,true,_=>aaY c d i false rs rx os
  | true,false,true=>aaY c d i true rs rx os
  | _,_,_=>none
 | _,_,_=>none
@[reducible] def abq (c:Cx) (dst:Option Nat) (str:Bool) (x:Operand):Option Ac :=
 match x with
 | .tmp t=>match aC c.K t with
  | .dat _=>cF c dst [x] 0 (jD (lenD str))
  | _=>match dst,rW c.K x with
   | some d,some (rd,_,_)=>match aC c.K d with
    | .dat _=>some (.one rd d fun is=>match rd with
     | [_]=>lenD str (nth is 0)
     | _=>(aa (nth is 0) (nth is 1)).bind (lenD str))
    | _=>none
   | _,_=>none
 | _=>cF c dst [x] 0 (jD (lenD str))
@[reducible] def EE:Option Operand→Operand
 | some l=>l
 | none=>.const (.int .i64 0)
@[reducible] def SG (c:Cx) (dst:Option Nat) (i:TI) (x:Operand) (lo hi:Option Operand):Option Ac :=
 match dst,rW c.K x with
 | some d,some (rd,lv,some r)=>match Mj c.K r,kH c.K d i.ez lv,Nh c.K (EE lo),i.str with
  | true,true,true,false=>match hi with
   | some h=>match Nh c.K h with
    | true=>some (.many (app rd (vm [EE lo,h])) [d,r] [] fun is k=>nj rd is fun b =>
      (Lr (dW false i.ez b) (fE [EE lo,h] (xV (oi rd) is))).bind fun y=>k [y,.bad])
    | false=>none
   | none=>some (.many (app rd (vm [EE lo])) [d,r] [] fun is k=>nj rd is fun b =>
      (jD (cJ false i.ez b) (fE [EE lo] (xV (oi rd) is))).bind fun y=>k [y,.bad])
  | _,_,_,_=>none
 | _,_=>none
@[reducible] def Wr (c:Cx) (dst:Option Nat) (i:TI) (x:Operand) (lo hi:Option Operand):Option Ac :=
 match x with
 | .tmp q=>match aC c.K q with
  | .dat lv=>match hi with
   | some h=>cF c dst [x,EE lo,h] lv (ad0 (dW i.str i.ez))
   | none=>cF c dst [x,EE lo] lv (Lr (cJ i.str i.ez))
  | .own _ _ _=>SG c dst i x lo hi
  | .via _=>SG c dst i x lo hi
  | _=>none
 | _=>none
@[reducible] def aeC (c:Cx) (dst:Option Nat) (i e:TI) (n m:Operand):Option Ac :=
 match dst,Nh c.K n,Nh c.K m with
 | some d,true,true=>match kH c.K d i.ez 0 with
  | true=>some (.many (vm [n,m]) [d] [] fun is k=>(match fE [n,m] is with
    | [a,b]=>OA i.ez i.eb (KS e) a b
    | _=>none).bind fun y=>k [y])
  | false=>none
 | _,_,_=>none
@[reducible] def afd (c:Cx) (dst:Option Nat) (i:TI) (x:Operand):Option Ac :=
 match dst with
 | none=>none
 | some d=>match aC c.K d with
  | .box n l false=>match aht n i.n,Nh c.K x with
   | true,true=>match ahy (fU c.K x) l with
    | true=>some (.many (vm [x]) [d] [] fun is k=>(jD (fJ n) (fE [x] is)).bind fun y=>k [y])
    | false=>match aht l 0 with
     | true=>some (.many (vm [x]) [d] [] fun is k=>(jD (fun x=>(aL x).bind (fJ n)) (fE [x] is)).bind fun y=>k [y])
     | false=>none
   | _,_=>none
  | .dat l=>match Nh c.K x,ahy 1 l,ahy (fU c.K x) l with
   | true,true,true=>some (.many (vm [x]) [d] [] fun is k=>(jD (fJ i.n) (fE [x] is)).bind fun y=>(ag6 y).bind fun y=>k [y])
   | _,_,_=>none
  | _=>none
@[reducible] def aeU (c:Cx) (dst:Option Nat) (i:TI):Option Ac :=
 match dst with
 | none=>none
 | some d=>match aC c.K d with
  | .box n _ false=>match aht n i.n with
   | true=>some (.many [] [d] [] fun _ k=>k [.agg i.zero])
   | false=>none
  | _=>none
@[reducible] def ael (c:Cx) (dst:Option Nat) (x:Operand) (i:Nat):Option Ac :=
 match dst,x with
 | some d,.tmp t=>match aC c.K t with
  | .tup ms=>match aC ms i with
   | .dat lv=>match aC c.K d with
    | .dat l=>match ahy lv l with
     | true=>some (.one [t] d fun is=>aq (nth is 0) i)
     | false=>none
    | _=>none
   | .own z lv false=>match kH c.K d z lv with
    | true=>some (.many [t] [d,t] [] fun is k=>iB is 0 fun t=>(aq t i).bind fun y=>k [y,dg t i])
    | false=>none
   | _=>none
  | _=>none
 | _,_=>none
inductive Ag where
 | d (x:Operand) (chk:Bool)
 | bor (t r:Nat)
 | io (t r:Nat)
@[reducible] def yG (K:List Kd) (x:Operand) (m:Kd):Option Ag :=
 match m with
 | .dat l=>match x with
  | .tmp t=>match aC K t with
   | .dat lv=>match ahy lv l with
    | true=>some (.d x false)
    | false=>match aht l 0 with
     | true=>some (.d x true)
     | false=>none
   | .own _ _ _=>match aht l 2 with
    | true=>some (.bor t t)
    | false=>none
   | .via r=>match aht l 2,po K r with
    | true,true=>some (.bor t r)
    | _,_=>none
   | _=>none
  | .global _=>none
  | .func _=>some (.d x false)
  | .const v=>match okC v with
   | true=>some (.d x false)
   | false=>none
 | .own z l true=>match x with
  | .tmp t=>match aC K t with
   | .own z' lv _=>match aht z z',aht l lv with
    | true,true=>some (.io t t)
    | _,_=>none
   | .via r=>match aC K r with
    | .own z' lv _=>match aht z z',aht l lv with
     | true,true=>some (.io t r)
     | _,_=>none
    | _=>none
   | _=>none
  | _=>none
 | .box n l true=>match x with
  | .tmp t=>match aC K t with
   | .box n' lv _=>match aht n n',aht l lv with
    | true,true=>some (.io t t)
    | _,_=>none
   | .ref r=>match aC K r with
    | .box n' lv _=>match aht n n',aht l lv with
     | true,true=>some (.io t r)
     | _,_=>none
    | _=>none
   | _=>none
  | _=>none
 | _=>none
@[reducible] def nh (K:List Kd):List Operand→List Kd→Option (List Ag)
 | [],[]=>some []
 | x::xs,m::ms=>match yG K x m,nh K xs ms with
  | some a,some l=>some (a::l)
  | _,_=>none
 | _,_=>none
@[reducible] def gC:List Ag→List Nat
 | []=>[]
 | .d x _::l=>app (vm [x]) (gC l)
 | .bor t r::l=>match aht t r with
  | true=>t::gC l
  | false=>t::r::gC l
 | .io t r::l=>match aht t r with
  | true=>t::gC l
  | false=>t::r::gC l
@[reducible] def fD:List Ag→List Nat
 | []=>[]
 | .io _ r::l=>r::fD l
 | _::l=>fD l
@[reducible] def iM:List Ag→List Nat
 | []=>[]
 | .bor _ r::l=>r::iM l
 | _::l=>iM l
@[reducible] def nN:List Nat→Bool
 | []=>true
 | a::l=>match oc a l with
  | true=>false
  | false=>nN l
@[reducible] def Og:List Nat→List Nat→Bool
 | [],_=>true
 | a::l,m=>match oc a m with
  | true=>false
  | false=>Og l m
@[reducible] def kb (acc:List D):List Ag→List D→(List D→Option Out)→Option Out
 | [],_,k=>k acc
 | .d x chk::l,is,k=>match x with
  | .tmp _=>match is with
   | i::is=>match chk with
    | false=>kb (app acc [i]) l is k
    | true=>(aL i).bind fun i=>kb (app acc [i]) l is k
   | []=>none
  | .const v=>kb (app acc [EN v]) l is k
  | .func f=>kb (app acc [.clo f []]) l is k
  | .global _=>none
 | .bor t r::l,is,k=>match aht t r with
  | true=>match is with
   | i::is=>kb (app acc [i]) l is k
   | _=>none
  | false=>match is with
   | p::i::is=>(aa p i).bind fun i=>kb (app acc [i]) l is k
   | _=>none
 | .io t r::l,is,k=>match aht t r with
  | true=>match is with
   | i::is=>(aa i i).bind fun i=>kb (app acc [i]) l is k
   | _=>none
  | false=>match is with
   | p::i::is=>(kS p i).bind fun i=>(aa i i).bind fun i=>kb (app acc [i]) l is k
   | _=>none
@[reducible] def Wc (K:List Kd) (d:Nat):List Kd→Bool
 | [.dat lv]=>match aC K d with
  | .dat l=>ahy lv l
  | _=>false
 | [.own z lv false]=>kH K d z lv
 | []=>true
 | ms=>match aC K d with
  | .tup ns=>iV ms ns
  | _=>false
@[reducible] def Az:List Kd→Bool
 | []=>true
 | .dat lv::l=>match ahy lv 1 with
  | true=>Az l
  | false=>false
 | .own _ lv _::l=>match ahy lv 1 with
  | true=>Az l
  | false=>false
 | _=>false
@[reducible] def mv:List Kd→Bool
 | []=>true
 | .dat lv::l=>match aht lv 1,ahy lv 2 with
  | false,true=>mv l
  | _,_=>false
 | .own _ lv true::l=>match aht lv 1,ahy lv 2 with
  | false,true=>mv l
  | _,_=>false
 | .box _ lv true::l=>match aht lv 1,ahy lv 2 with
  | false,true=>mv l
  | _,_=>false
 | _=>false
@[reducible] def io0:List Kd→Bool
 | []=>true
 | .own _ lv _::l=>match aht lv 0 with
  | true=>io0 l
  | false=>false
 | .box _ lv _::l=>match aht lv 0 with
  | true=>io0 l
  | false=>false
 | _::l=>io0 l
@[reducible] def Ek (c:Cx) (dst:Option Nat) (S:FS) (xs:List Operand):Option Ac :=
 match nh c.K xs S.pm with
 | none=>none
 | some ags =>
  let ios:=fD ags
  let bor:=iM ags
  let okB:=match bor with
   | []=>true
   | _=>match Az S.rm,io0 S.pm with
    | true,true=>Og bor ios
    | _,_=>false
  match okB,nN ios,mv S.pm with
  | true,true,true=>match dst with
   | none=>match S.rm with
    | []=>some (.many (gC ags) [] ios fun is k=>kb [] ags is fun ds=>ae (S.f ds) fun _ us=>k (outs us ios))
    | _=>none
   | some d=>match Wc c.K d S.rm,oc d ios,S.rm with
    | true,false,[]=>some (.many (gC ags) [d] ios fun is k=>kb [] ags is fun ds=>ae (S.f ds) fun _ us=>k (.bad::outs us ios))
    | true,false,[_]=>some (.many (gC ags) [d] ios fun is k=>kb [] ags is fun ds=>ae (S.f ds) fun rs us=>k (nth rs 0::outs us ios))
    | true,false,_=>some (.many (gC ags) [d] ios fun is k=>kb [] ags is fun ds=>ae (S.f ds) fun rs us=>k (.tup rs::outs us ios))
    | _,_,_=>none
  | _,_,_=>none
where
 @[reducible] outs (us:List D) (ios:List Nat):List D:=go us 0 ios
 @[reducible] go (us:List D):Nat→List Nat→List D
  | _,[]=>[]
  | j,_::l=>nth us j::go us (ahP j) l
@[reducible] def NS {α:Type}:Nat→List α→List α
 | 0,_=>[]
 | _+1,[]=>[]
 | n+1,a::l=>a::NS n l
@[reducible] def qS:List Kd→Bool
 | []=>true
 | .dat lv::l=>match aht lv 2 with
  | true=>qS l
  | false=>false
 | _=>false
@[reducible] def WF (c:Cx) (dst:Option Nat) (t f:Nat) (S:FS) (xs:List Operand):Option Ac :=
 match dst,aC c.K t,S.rm with
 | some d,.dat lt,[.dat lr]=>match nh c.K xs (NS (oi xs) S.pm),aC c.K d with
  | some ags,.dat l=>match ahy lr l,ahy lt 2,mv (NS (oi xs) S.pm),qS (xV (oi xs) S.pm),fD ags,iM ags with
   | true,true,true,true,[],[]=>some (.many (t::gC ags) [d] [] fun is k=>match is with
    | cl::is=>(afm f (oi (xV (oi xs) S.pm)) cl).bind fun caps=>kb [] ags is fun ds=>ae (S.f (ds++caps)) fun rs _=>k [nth rs 0]
    | []=>none)
   | _,_,_,_,_,_=>none
  | _,_=>none
 | _,_,_=>none
@[reducible] def GU (c:Cx) (t:TI):List (Nat × Operand)→Option (List (Nat × Nat))
 | []=>some []
 | (i,_)::ps=>match HC c t i,GU c t ps with
  | some (off,ti),some l=>some ((off,ti.n)::l)
  | _,_=>none
@[reducible] def Mi (z:Nat):List (Nat × Operand)→List (Nat × Nat)
 | []=>[]
 | (i,_)::ps=>(i*z,z)::Mi z ps
@[reducible] def OY (f:D→D→Option D):D→List D→Option D
 | x,[]=>some x
 | x,y::ys=>(f x y).bind fun z=>OY f z ys
@[reducible] def Oi (f:D→D→Option D):List D→Option D
 | x::y::xs=>OY f x (y::xs)
 | _=>none
@[reducible] def afo (c:Cx) (i:TI):Bool :=
 match qR i with
 | true=>match eX c.T i.elem with
  | some e=>match e.ik with
   | some .u8=>true
   | _=>false
  | none=>false
 | false=>false
@[reducible] def ad4 (c:Cx) (dst:Option Nat) (si di:TI) (x:Operand):Option Ac :=
 match di.str,si.str,si.ez with
 | true,false,1=>match dst,rW c.K x with
  | some d,some (rd,_,_)=>match aC c.K d,afo c si with
   | .dat _,true=>some (.one rd d fun is=>match rd with
    | []=>none
    | [_]=>Rh (nth is 0)
    | _=>(aa (nth is 0) (nth is 1)).bind Rh)
   | _,_=>none
  | _,_=>none
 | _,_,_=>cF c dst [x] 0 (jD (Aw di.ik (match di.str with
  | true=>si.str
  | false=>false)))
@[reducible] def aex (c:Cx) (dst:Option Nat) (t:TI) (x i:Operand):Option Ac :=
 match t.str with
 | true=>cF c dst [x,i] 0 (Lr jW)
 | false=>match t.alen with
  | 0=>none
  | n=>iq c t.elem fun e=>cF c dst [x,i] (fU c.K x) (Lr (ixA e.agg n t.ez))
@[reducible] def aa5 (c:Cx) (dst:Option Nat) (q:Call):Option Ac :=
 match q.callee,q.args.toList,q.argTypes.toList with
 | .builtin .len,[x],[t]=>iq c t fun i=>match qR i,i.str with
  | true,false=>abq c dst false x
  | false,true=>abq c dst true x
  | _,_=>none
 | .builtin .append,[s,x],[t,u]=>match aht t u with
  | true=>iq c t fun i=>iq c i.elem fun _=>match qR i with
   | true=>adz c dst i s x
   | false=>none
  | false=>none
 | .builtin .min,xs,_=>cF c dst xs 0 (Oi XE)
 | .builtin .max,xs,_=>cF c dst xs 0 (Oi Uf)
 | .value (.func f),xs,_=>match eX c.S f with
  | some S=>Ek c dst S xs
  | none=>none
 | .value (.tmp t),xs,_=>match eX c.C t with
  | some f=>match eX c.S f with
   | some S=>WF c dst t f S xs
   | none=>none
  | none=>none
 | _,_,_=>none
@[reducible] def ad2 (c:Cx) (dst:Option Nat) (i:TI) (parts:List (Nat × Operand)):Option Ac :=
 let xs:=tU (fun p=>p.2) parts
 match i.alen,i.agg with
 | 0,true=>match GU c i parts with
  | some ps=>cF c dst xs (qh c.K xs) (dw ps i.zero)
  | none=>none
 | 0,false=>none
 | _,_=>cF c dst xs (qh c.K xs) (dw (Mi i.ez parts) i.zero)
@[reducible] def aeE (c:Cx) (dst:Option Nat) (x:Operand):Option Ac :=
 match x with
 | .tmp t=>match aC c.K t with
  | .box _ _ _=>match dst with
   | none=>none
   | some d=>match aC c.K d with
    | .ref r=>match aht r t with
     | true=>some (.one [t] d fun is=>(jD fun x=>aa x (.ref 0 0)) is)
     | false=>none
    | _=>none
  | .ref r=>match dst with
   | none=>none
   | some d=>match aC c.K d with
    | .ref r'=>match aht r r' with
     | true=>some (.one [t] d fun is=>(jD fun x=>aa x x) is)
     | false=>none
    | _=>none
  | _=>cF c dst [x] (fU c.K x) (jD Bn)
 | x=>cF c dst [x] (fU c.K x) (jD Bn)
@[reducible] def ac0:Operand→Bool
 | .const .nilIface=>true
 | _=>false
@[reducible] def abE:Operand→Bool
 | .const (.slice none 0 0)=>true
 | _=>false
@[reducible] def du (c:Cx) (o:Oper):Option Ac :=
 match o.op with
 | .move x=>XV c o.dst x o.type
 | .assign x=>XV c o.dst x o.type
 | .pick q a b=>cF c o.dst [q,a,b] (Ry (fU c.K a) (fU c.K b)) (ad0 aT)
 | .alloc t=>iq c t fun i=>aeU c o.dst i
 | .box t x=>iq c t fun i=>afd c o.dst i x
 | .build t parts=>iq c t fun i=>ad2 c o.dst i parts.toList
 | .buildSlice t n parts=>iq c t fun i=>iq c i.elem fun _=>match qR i with
  | true=>ae2 c o.dst i n parts.toList
  | false=>none
 | .load t p=>iq c t fun i=>ae5 c o.dst i p
 | .store t p x=>match o.dst with
  | none=>iq c t fun i=>ac5 c i p x
  | some _=>none
 | .nilCheck x=>aeE c o.dst x
 | .binOp op t x y _=>iq c t fun i=>match i.ifc with
  | true=>cF c o.dst [x,y] 0 (Lr (Yp (ac0 y) op))
  | false=>match qR i,abE y with
   | true,true=>cF c o.dst [x,y] 0 (Lr fun x _=>aba op x)
   | _,_=>cF c o.dst [x,y] 0 (Lr (bin op i.bl i.eq))
 | .unOp op _ x=>cF c o.dst [x] 0 (jD (un op))
 | .convert src dt x=>iq c src fun si=>iq c dt fun di=>ad4 c o.dst si di x
 | .makeFunc (.func f) first cap=>match first.toList,cap.toList with
  | [],[]=>cF c o.dst [] 0 (fun _=>some (.clo f []))
  | [],x::xs=>cF c o.dst (x::xs) (qh c.K (x::xs)) (ag1 f)
  | _,_=>none
 | .makeSlice t n m=>iq c t fun i=>iq c i.elem fun e=>match qR i with
  | true=>aeC c o.dst i e n m
  | false=>none
 | .slice t x lo hi none=>iq c t fun i=>match qR i,i.str with
  | true,false=>Wr c o.dst i x lo hi
  | false,true=>Wr c o.dst i x lo hi
  | _,_=>none
 | .fieldAddr t x f=>iq c t fun i=>ae6 c o.dst i f x
 | .field t x f=>iq c t fun i=>match HC c i f with
  | some (off,ti)=>cF c o.dst [x] (fU c.K x) (jD (bf ti.agg ti.n off))
  | none=>none
 | .indexAddr t x i=>iq c t fun ti=>ad3 c o.dst ti x i
 | .index t x i=>iq c t fun ti=>aex c o.dst ti x i
 | .extract x i=>ael c o.dst x i
 | .call q=>aa5 c o.dst q
 | _=>none
@[reducible] def afC:Ac→List Nat
 | .one rd _ _=>rd
 | .many rd _ _ _=>rd
@[reducible] def OS (ops:List Oper) (j:Nat):Option Nat :=
 match Xu ops j with
 | some o=>o.dst
 | none=>none
@[reducible] def Gk:Kd→D
 | .dat _=>.tup []
 | _=>.bad
@[reducible] def VN (K:List Kd) (δ:List D) (dst:Option Nat):List Nat→(List D→Option Out)→Option Out
 | [],k=>k []
 | s::ss,k=>match dst with
  | some d=>match oc s (d::hP d K 0) with
   | true=>VN K δ dst ss fun l=>k (Gk (aC K s)::l)
   | false=>iB δ s fun a=>VN K δ dst ss fun l=>k (a::l)
  | none=>iB δ s fun a=>VN K δ dst ss fun l=>k (a::l)
@[reducible] def fit (l:List D):Nat→List Nat→List D
 | _,[]=>[]
 | j,_::ss=>nth l j::fit l (ahP j) ss
@[reducible] def eC (c:Cx) (ops:List Oper) (o:Oper) (δ:List D) (k:List D→Option Out):Option Out :=
 match du c o with
 | none=>none
 | some A=>match o.guard with
  | none=>match A with
   | .one rd d h=>AA δ rd fun is=>(h is).bind fun z=>eN δ (d::hP d c.K 0) [z] k
   | .many rd hw cw fn=>AA δ rd fun is=>fn is fun outs=>eN δ (app hw (app cw (bq c.K hw))) outs k
  | some (j,pol)=>match OS ops j with
   | none=>none
   | some g=>iB δ g fun gv=>match A with
    | .one rd d h=>AA δ rd fun is=>(aj (Gk (aC c.K d)) gv pol (h is)).bind fun z=>eN δ (d::hP d c.K 0) [z] k
    | .many rd hw cw fn=>AA δ rd fun is=>VN c.K δ o.dst (app hw cw) fun alt =>
     cR gv pol (fn is fun outs=>some (.nrm (fit outs 0 (app hw cw)))) alt fun outs =>
      eN δ (app hw (app cw (bq c.K hw))) (fit outs 0 (app hw cw)) k
@[reducible] def nS (c:Cx) (ops:List Oper):List Oper→List D→(List D→Option Out)→Option Out
 | [],δ,k=>k δ
 | o::os,δ,k=>eC c ops o δ fun δ'=>nS c ops os δ' k
@[reducible] def PC:Nat→List D
 | 0=>[]
 | n+1=>.bad::PC n
@[reducible] def AL:Nat→List D→List D
 | 0,_=>[]
 | n+1,[]=>.bad::AL n []
 | n+1,a::l=>a::AL n l
@[reducible] def oH (n:Nat) (hl:List Nat) (s:List D) (k:List D→Option Out):Option Out :=
 eN (PC n) hl (fit s 0 hl) k
def iter (body:List D→Option Out):Nat→List D→Option Out
 | 0,_=>none
 | n+1,s=>match body s with
  | some (.nrm s')=>iter body n s'
  | r=>r
open Classical in
def aX (body:List D→Option Out) (s:List D):Option Out :=
 if h:∃n,(iter body n s).isSome=true then iter body (Classical.choose h) s else none
@[reducible] def dL (hl xl:List Nat) (o:Out):Option Out :=
 match o with
 | .nrm δ=>AA δ hl fun l=>some (.nrm l)
 | .ext i δ=>AA δ xl fun l=>some (.ext i l)
 | .ret a b=>some (.ret a b)
@[reducible] def tX (c:Cx) (δ:List D):List ResultVar→(List D→Option Out)→Option Out
 | [],k=>k []
 | .tmp t::l,k=>iB δ t fun a=>tX c δ l fun as'=>k (a::as')
 | .cell a t::l,k=>match eX c.T t with
  | some i=>iB δ a fun b=>(bf i.agg i.n 0 b).bind fun y=>tX c δ l fun as'=>k (y::as')
  | none=>none
@[reducible] def usK:List D→Option Out→Option Out
 | [],o=>o
 | u::us,o=>(aa u u).bind fun _=>usK us o
@[reducible] def opC (δ:List D) (x:Operand) (k:D→Option Out):Option Out :=
 match x with
 | .tmp t=>iB δ t k
 | .const c=>k (EN c)
 | .func f=>k (.clo f [])
 | .global _=>none
@[reducible] def ag7 (o:Out) (f:List D→Option Out) (k:Out→Option Out):Option Out :=
 match o with
 | .nrm δ=>f δ
 | .ext i δ=>k (.ext i δ)
 | .ret a b=>k (.ret a b)
@[reducible] def WN (id:Nat) (o:Out) (k:Out→Option Out):Option Out :=
 match o with
 | .nrm δ=>k (.nrm δ)
 | .ext i δ=>match aht i id with
  | true=>k (.nrm δ)
  | false=>k (.ext i δ)
 | .ret a b=>k (.ret a b)
def bY (o:Out) (x:Nat→List D→Option Out) (r:List D→List D→Option Out):Option Out :=
 match o with
 | .nrm _=>none
 | .ext i s=>x i s
 | .ret a b=>r a b
@[reducible] def den (c:Cx):Nat→Code→List D→(Out→Option Out)→Option Out
 | _,.skip,δ,k=>k (.nrm δ)
 | _,.region _ ops _,δ,k=>nS c ops.toList ops.toList δ fun δ'=>k (.nrm δ')
 | bid,.seq a b,δ,k=>den c bid a δ fun o=>ag7 o (fun δ'=>den c bid b δ' k) k
 | bid,.cond x t e,δ,k=>opC δ x fun q=>ifD q (den c bid t δ k) (den c bid e δ k)
 | _,.block id b,δ,k=>den c id b δ fun o=>WN id o k
 | bid,.loop b,δ,k=>match eX c.H bid with
  | none=>none
  | some (hl,xl) =>
   AA δ hl fun s=>(aX (fun s=>oH (oi c.K) hl s fun δ=>den c bid b δ (dL hl xl)) s).bind fun o =>
    bY o (fun i s=>oH (oi c.K) xl s fun δ=>k (.ext i δ)) (fun a b=>k (.ret a b))
 | _,.exit id,δ,k=>k (.ext id δ)
 | _,.ret,δ,k=>tX c δ c.res fun rs=>AA δ c.ios fun us=>usK us (k (.ret rs us))
 | _,_,_,_=>none
@[reducible] def aS (c:Cx) (fn:Func) (ds:List D):Option Out :=
 match fn.body with
 | none=>none
 | some b=>den c 0 b (AL fn.ntmps ds) fun o=>match o with
  | .nrm δ=>tX c δ c.res fun rs=>AA δ c.ios fun us=>usK us (some (.ret rs us))
  | .ext _ _=>none
  | .ret rs us=>some (.ret rs us)
end Go.V

namespace Go.V
open Go.RowKit
def cH (w:World) (b o:Nat) (us:List Value):Prop:=∀i u,us[i]?=some u→w.cell? ⟨b,o+i,none⟩=some u
mutual
def RepC (w:World) (F:Nat→Prop):D→List Value→Prop
 | .v x,vs=>vs=[x]∧flat x=true
 | .agg l,vs=>bZ w F l vs∧l.all D.single=true
 | .arr z l,vs=>∃A c us,vs=[.slice A l.length c]∧l.length≤c∧bZ w F l us∧(∀d∈l,d.width=z) ∧
   (l≠[]→∃b o,A=some ⟨b,o,none⟩∧F b∧cH w b o us)
 | .ptr l,vs=>∃b o us,vs=[.pointer (some ⟨b,o,none⟩)]∧bZ w F l us∧l.all D.single=true∧F b∧cH w b o us
 | .clo f l,vs=>∃us:List Value,vs=[.func (.func f) #[] us.toArray]∧bZ w F l us
 | .ifc,vs=>∃t x,vs=[.iface t x]
 | .raw x,vs=>vs=[x]∧∃A n c,x = .slice A n c
 | .tup _,_=>False
 | .ref _ _,_=>False
 | .bad,_=>False
def bZ (w:World) (F:Nat→Prop):List D→List Value→Prop
 | [],vs=>vs=[]
 | d::ds,vs=>∃v1 v2,vs=v1++v2∧RepC w F d v1∧bZ w F ds v2
end
def bP (w:World) (F:Nat→Prop) (d:D) (y:Value):Prop :=
 match d with
 | .agg l=>∃vs:List Value,y = .agg vs.toArray∧RepC w F (.agg l) vs
 | .tup l=>l=[]∧y = .tuple #[]
 | d=>RepC w F d [y]
theorem all_append {α:Type} (p:α→Bool) (a b:List α):(a++b).all p=(a.all p&&b.all p):=by simp
mutual
theorem RepC_mono {w w':World} {F F':Nat→Prop} (hF:∀b,F b→F' b) (hw:∀b,F b→w'.heap[b]?=w.heap[b]?) :
  ∀(d:D) (vs:List Value),RepC w F d vs→RepC w' F' d vs
 | .v _,_,h=>by simpa only [RepC] using h
 | .agg l,vs,h=>by
  simp only [RepC] at h ⊢
  exact⟨cB hF hw l vs h.1,h.2⟩
 | .arr z l,vs,h=>by
  simp only [RepC] at h ⊢
  obtain⟨A,c,us,h1,h2,h3,h4,h5⟩:=h
  refine⟨A,c,us,h1,h2,cB hF hw l us h3,h4,fun hl=>?_⟩
  obtain⟨b,o,e,hb,hc⟩:=h5 hl
  exact⟨b,o,e,hF b hb,fun i u hu=>(aib (w:=w) (hw b hb)).trans (hc i u hu)⟩
 | .ptr l,vs,h=>by
  simp only [RepC] at h ⊢
  obtain⟨b,o,us,h1,h2,h3,h4,h5⟩:=h
  exact⟨b,o,us,h1,cB hF hw l us h2,h3,hF b h4,fun i u hu=>(aib (w:=w) (hw b h4)).trans (h5 i u hu)⟩
 | .clo f l,vs,h=>by
  simp only [RepC] at h ⊢
  obtain⟨us,h1,h2⟩:=h
  exact⟨us,h1,cB hF hw l us h2⟩
 | .ifc,_,h=>by simpa only [RepC] using h
 | .raw _,_,h=>by simpa only [RepC] using h
 | .tup _,_,h=>by simp only [RepC] at h
 | .ref _ _,_,h=>by simp only [RepC] at h
 | .bad,_,h=>by simp only [RepC] at h
theorem cB {w w':World} {F F':Nat→Prop} (hF:∀b,F b→F' b) (hw:∀b,F b→w'.heap[b]?=w.heap[b]?) :
  ∀(l:List D) (vs:List Value),bZ w F l vs→bZ w' F' l vs
 | [],vs,h=>by simpa only [bZ] using h
 | d::ds,vs,h=>by
  simp only [bZ] at h ⊢
  obtain⟨v1,v2,h1,h2,h3⟩:=h
  exact⟨v1,v2,h1,RepC_mono hF hw d v1 h2,cB hF hw ds v2 h3⟩
end
theorem ch {w w':World} {F F':Nat→Prop} (hF:∀b,F b→F' b) (hw:∀b,F b→w'.heap[b]?=w.heap[b]?) {d:D} {y:Value} (h:bP w F d y):bP w' F' d y:=by
 cases d<;>simp only [bP] at h ⊢<;>first
  | exact h
  | exact RepC_mono hF hw _ _ h
  | (obtain⟨vs,h1,h2⟩:=h;exact⟨vs,h1,RepC_mono hF hw _ _ h2⟩)
theorem lh {w:World} {F:Nat→Prop}:∀(d:D) (vs:List Value),d.single=true→RepC w F d vs→∃y,vs=[y]∧y.cells=#[y]∧y.oneCell'=true:=by
 intro d vs hs h
 cases d<;>simp only [RepC] at h<;>simp only [D.single] at hs
 case v x =>
  obtain⟨rfl,hf⟩:=h
  cases x<;>simp_all [flat,ah5,Value.oneCell']
 case arr z l=>obtain⟨A,c,us,rfl,_⟩:=h;exact⟨_,rfl,rfl,rfl⟩
 case ptr l=>obtain⟨b,o,us,rfl,_⟩:=h;exact⟨_,rfl,rfl,rfl⟩
 case clo f l=>obtain⟨us,rfl,_⟩:=h;exact⟨_,rfl,rfl,rfl⟩
 case ifc=>obtain⟨t,x,rfl⟩:=h;exact⟨_,rfl,rfl,rfl⟩
 case raw x=>obtain⟨rfl,A,n,c,rfl⟩:=h;exact⟨_,rfl,rfl,rfl⟩
 all_goals exact absurd hs (by simp)
theorem gc {d:D} (h:d.single=true):d.width=1∧d.cells=[d]:=by cases d<;>simp_all [D.single,D.width,D.cells]
theorem aw {w:World} {F:Nat→Prop} {d:D} {ds:List D} {vs:List Value}:bZ w F (d::ds) vs↔∃v1 v2,vs=v1++v2∧RepC w F d v1∧bZ w F ds v2:=by rw [bZ]
theorem aV {w:World} {F:Nat→Prop} {vs:List Value}:bZ w F [] vs↔vs=[]:=by rw [bZ]
theorem eO {w:World} {F:Nat→Prop}:∀(l m:List D) (vs:List Value),bZ w F (l++m) vs↔∃v1 v2,vs=v1++v2∧bZ w F l v1∧bZ w F m v2
 | [],m,vs=>by
  rw [ah2]
  exact⟨fun h=>⟨[],vs,rfl,aV.2 rfl,h⟩,fun⟨v1,v2,e,h1,h2⟩=>by rw [aV.1 h1] at e;rw [e];exact h2⟩
 | d::l,m,vs=>by
  rw [aij,aw]
  constructor
  ·rintro⟨v1,v2,rfl,h1,h2⟩
   obtain⟨u1,u2,rfl,h3,h4⟩:=(eO l m v2).1 h2
   exact⟨v1++u1,u2,by simp,aw.2 ⟨v1,u1,rfl,h1,h3⟩,h4⟩
  ·rintro⟨v1,v2,rfl,h1,h2⟩
   obtain⟨u1,u2,rfl,h3,h4⟩:=aw.1 h1
   exact⟨u1,u2++v2,by simp,h3,(eO l m _).2 ⟨u2,v2,rfl,h4,h2⟩⟩
theorem dB {w:World} {F:Nat→Prop}:∀(l:List D) (vs:List Value),l.all D.single=true→bZ w F l vs→vs.length=l.length∧(∀u∈vs,u.oneCell'=true∧u.cells=#[u])∧∀(i:Nat) (d:D),l[i]?=some d→∃u,vs[i]?=some u∧RepC w F d [u]
 | [],vs,_,h=>by rw [aV] at h;subst h;simp
 | d::l,vs,hs,h=>by
  obtain⟨v1,v2,rfl,h1,h2⟩:=aw.1 h
  simp only [ahT,ahv] at hs
  obtain⟨y,rfl,hy,hy'⟩:=lh d v1 hs.1 h1
  obtain⟨g1,g2,g3⟩:=dB l v2 hs.2 h2
  refine⟨by simp [g1],?_,?_⟩
  ·intro u hu
   rcases ah3.1 hu with hu | hu
   ·simp at hu;subst hu;exact⟨hy',hy⟩
   ·exact g2 u hu
  ·intro i e he
   cases i with
   | zero=>simp at he;subst he;exact⟨y,rfl,h1⟩
   | succ i=>simpa using g3 i e (by simpa using he)
theorem re {w:World} {F:Nat→Prop} {d:D} {vs:List Value} (h:RepC w F d vs):(∃l,d = .agg l)∨d.single=true:=by
 cases d
 case agg l=>exact .inl ⟨l,rfl⟩
 case tup l=>simp only [RepC] at h
 case ref i f=>simp only [RepC] at h
 case bad=>simp only [RepC] at h
 all_goals exact .inr rfl
theorem ww {w:World} {F:Nat→Prop} {d:D} {vs:List Value} (h:RepC w F d vs):vs.length=d.width:=by
 rcases re h with ⟨l,rfl⟩ | hs
 ·simp only [RepC] at h
  simpa [D.width,D.cells] using (dB l vs h.2 h.1).1
 ·obtain⟨y,rfl,_⟩:=lh _ _ hs h
  rw [(gc hs).1];rfl
theorem fu {w:World} {F:Nat→Prop} {z:Nat}:∀(l:List D) (vs:List Value),bZ w F l vs→(∀d∈l,d.width=z)→vs.length=l.length*z
 | [],vs,h,_=>by rw [aV] at h;subst h;simp
 | d::l,vs,h,hw=>by
  obtain⟨v1,v2,rfl,h1,h2⟩:=aw.1 h
  rw [List.length_append,ww h1,fu l v2 h2 (fun d hd=>hw d (by simp [hd])),hw d (by simp)]
  simp [Nat.succ_mul,Nat.add_comm]
theorem Nf {w:World} {F:Nat→Prop} {z:Nat} (l:List D) (vs:List Value) (h:bZ w F l vs) (hw:∀d∈l,d.width=z) (i:Nat) (d:D) (hd:l[i]?=some d) :
  ∃p m q,vs=p++m++q∧p.length=i*z∧m.length=z∧RepC w F d m∧bZ w F (l.take i) p∧bZ w F (l.drop (i+1)) q:=by
 have hi:i<l.length:=(ahE.1 hd).1
 have e:l=l.take i++(d::l.drop (i+1)):=by
  have h1:l[i]=d:=(ahE.1 hd).2
  conv=>lhs;rw [←aia i l,List.drop_eq_getElem_cons hi,h1]
 rw [e] at h
 obtain⟨p,r,rfl,hp,hr⟩:=(eO _ _ _).1 h
 obtain⟨m,q,rfl,hm,hq⟩:=aw.1 hr
 refine⟨p,m,q,by simp,?_,?_,hm,hp,hq⟩
 ·rw [fu _ _ hp (fun d hd=>hw d (ahG hd)),ahK]
  rw [ail (by omega)]
 ·rw [ww hm];exact hw d (List.mem_of_getElem? hd)
theorem rg {w:World} {F:Nat→Prop} {z:Nat} (l:List D) (vs:List Value) (h:bZ w F l vs) (hw:∀d∈l,d.width=z) (i:Nat):bZ w F (l.take i) (vs.take (i*z))∧bZ w F (l.drop i) (vs.drop (i*z)):=by
 by_cases hi:i≤l.length
 ·rw [←aia i l] at h
  obtain⟨p,q,rfl,hp,hq⟩:=(eO _ _ _).1 h
  have hl:p.length=i*z:=by
   rw [fu _ _ hp (fun d hd=>hw d (ahG hd)),ahK,ail hi]
  exact⟨by rw [←hl];simpa using hp,by rw [←hl];simpa using hq⟩
 ·have hl:=fu l vs h hw
  have h2:vs.length≤i*z:=by rw [hl];exact Nat.mul_le_mul_right _ (by omega)
  rw [ah6 h2,ahR h2,ah6 (by omega),ahR (by omega)]
  exact⟨h,aV.2 rfl⟩
theorem pB {w:World} {F:Nat→Prop} (l:List D) (vs:List Value) (hs:l.all D.single=true) (h:bZ w F l vs) (i:Nat):bZ w F (l.take i) (vs.take i)∧bZ w F (l.drop i) (vs.drop i):=by
 have:=rg (z:=1) l vs h (fun d hd=>(gc (ahL.1 hs d hd)).1) i
 simpa using this
theorem WX {α:Type} {p:α→Bool} {l:List α} (h:l.all p=true) (i:Nat):(l.take i).all p=true:=ahL.2 fun x hx=>ahL.1 h x (ahG hx)
theorem vx {α:Type} {p:α→Bool} {l:List α} (h:l.all p=true) (i:Nat):(l.drop i).all p=true:=ahL.2 fun x hx=>ahL.1 h x (ahU hx)
theorem cH.take {w:World} {b o:Nat} {us:List Value} (h:cH w b o us) (n:Nat):cH w b o (us.take n):=fun i u hu=>h i u (by
 rw [List.getElem?_take] at hu
 split at hu
 ·exact hu
 ·cases hu)
theorem cH.drop {w:World} {b o:Nat} {us:List Value} (h:cH w b o us) (n:Nat):cH w b (o+n) (us.drop n):=fun i u hu=>by
 rw [aif] at hu
 rw [aid]
 exact h _ u hu
theorem cH.part {w:World} {b o:Nat} {p m q:List Value} (h:cH w b o (p++m++q)):cH w b (o+p.length) m:=fun i u hu=>by
 rw [aid]
 refine h _ u ?_
 have hi:i<m.length:=by
  rcases aig i m.length with hi | hi
  ·exact hi
  ·rw [List.getElem?_eq_none hi] at hu;cases hu
 rw [List.append_assoc,List.getElem?_append_right (by omega),Nat.add_sub_cancel_left,List.getElem?_append_left hi]
 exact hu
theorem mc {w:World} {F:Nat→Prop} {d:D} {y:Value} (hs:d.single=true):bP w F d y↔RepC w F d [y]:=by
 cases d<;>simp_all [D.single,bP]
theorem aaP {w:World} {F:Nat→Prop} {d:D} {y:Value} (h:bP w F d y) (hn:∀l,d ≠ .tup l):(∃l,d = .agg l)∨d.single=true:=by
 cases d
 case agg l=>exact .inl ⟨l,rfl⟩
 case tup l=>exact absurd rfl (hn l)
 all_goals exact(re (vs:=[y]) h).elim (fun⟨_,e⟩=>by cases e) .inr
theorem wz {d:D} (h:d.cells.all D.single=true) (l:List D):d ≠ .tup l:=by
 rintro rfl
 simp [D.cells,D.single] at h
theorem gq {w:World} {F:Nat→Prop} {d:D} {y:Value} (h:bP w F d y) (hn:∀l,d ≠ .tup l):RepC w F d y.cells.toList∧d.cells.all D.single=true∧bZ w F d.cells y.cells.toList:=by
 rcases aaP h hn with ⟨l,rfl⟩ | hs
 ·obtain⟨vs,rfl,hr⟩:=h
  have hr':=hr
  simp only [RepC] at hr'
  exact⟨by simpa [ah5] using hr,hr'.2,by simpa [ah5,D.cells] using hr'.1⟩
 ·rw [mc hs] at h
  obtain⟨u,hu,hc,_⟩:=lh _ _ hs h
  simp at hu;subst hu
  rw [(gc hs).2,hc]
  exact⟨h,by simp [hs],aw.2 ⟨_,[],by simp,h,aV.2 rfl⟩⟩
theorem cb {w:World} {F:Nat→Prop} {x y:Value}:bP w F (.v x) y↔y=x∧flat x=true:=by simp [bP,RepC]
theorem acX {w:World} {F:Nat→Prop} {y:Value}:¬bP w F .bad y:=by simp [bP,RepC]
theorem aem {w:World} {F:Nat→Prop} {d:D} {y:Value} (h:bP w F d y):d ≠ .bad:=fun e=>acX (e ▸ h)
theorem Na {w w':World} {F F':Nat→Prop}:∀(l:List D) (vs:List Value),(l.all fun | .v _=>true | _=>false)=true→bZ w F l vs→bZ w' F' l vs
 | [],vs,_,h=>by simpa only [bZ] using h
 | d::l,vs,hv,h=>by
  obtain⟨v1,v2,rfl,h1,h2⟩:=aw.1 h
  simp only [ahT,ahv] at hv
  refine aw.2 ⟨v1,v2,rfl,?_,Na l v2 hv.2 h2⟩
  cases d<;>simp at hv
  simpa only [RepC] using h1
theorem vC {w w':World} {F F':Nat→Prop} {d:D} {y:Value} (hv:d.isV=true) (h:bP w F d y):bP w' F' d y:=by
 cases d
 case v x=>exact cb.2 (cb.1 h)
 case agg l =>
  obtain⟨vs,rfl,hr⟩:=h
  refine⟨vs,rfl,?_⟩
  simp only [RepC] at hr ⊢
  exact⟨Na l vs hv hr.1,hr.2⟩
 all_goals exact absurd hv (by simp [D.isV])
end Go.V

namespace Go.V
open Go.RowKit
def iX:List D→List Value→Bool
 | [],[]=>true
 | .v (.int k a)::l,.int k' b::m=>k==k'&&a==b&&iX l m
 | .v (.bool a)::l,.bool b::m=>a==b&&iX l m
 | .v (.string a)::l,.string b::m=>a.data.toList==b.data.toList&&iX l m
 | .v .nilFunc::l,.nilFunc::m=>iX l m
 | .v .nilIface::l,.nilIface::m=>iX l m
 | .v (.pointer none)::l,.pointer none::m=>iX l m
 | .arr _ []::l,.slice none 0 0::m=>iX l m
 | _,_=>false
def RH (P:Program):List Field→List (Nat × Nat)→Bool
 | [],[]=>true
 | f::fs,(o,t)::l=>f.offset==o&&f.type==t&&(match P.info? t with
  | some x=>x.size != 0
  | none=>false)&&RH P fs l
 | _,_=>false
def aeh (P:Program) (t c:Nat):Bool :=
 match P.underlying t with
 | some (.int _)=>c==1
 | some .bool=>c==2
 | some .string=>c==3
 | _=>false
def Yx (P:Program):Nat→List Field→List Nat→Bool
 | _,[],[]=>true
 | n,f::fs,c::cs=>f.name != "_"&&f.offset==n&&aeh P f.type c&&Yx P (n+1) fs cs
 | _,_,_=>false
def FI:Value→Bool
 | .agg _=>true
 | _=>false
def ZM (P:Program) (t:Nat) (i:TI):Bool :=
 match P.info? t,P.underlying t with
 | some x,some u =>
  (!i.ifc||(match u with
   | .interface _=>true
   | _=>false))&&x.size==i.n&&(match x.zero with
   | some z=>iX i.zero z.cells.toList&&FI z==i.agg&&i.zero.length==i.n
   | none=>false) &&
  (match u with
   | .struct fs=>i.agg&&i.alen==0&&i.ez==0&&i.ik==none && !i.str && !i.bl&&RH P fs.toList i.fs &&
     (i.eq==[]||(Yx P 0 fs.toList i.eq&&fs.size==i.n && !P.eqGuardType P.depth t && !P.stoodInHeld t))
   | .array n e=>i.agg&&i.alen==n&&n != 0&&i.elem==e&&i.fs==[]&&i.ik==none && !i.str && !i.bl&&i.eq==[]&&(match P.info? e with
    | some y=>y.size==i.ez&&y.size != 0
    | none=>false)&&i.n==n*i.ez
   | .slice e=>!i.agg&&i.alen==0&&i.elem==e&&i.fs==[]&&i.ik==none && !i.str && !i.bl&&i.eq==[]&&(match P.info? e with
    | some y=>y.size==i.ez&&y.size != 0&&y.bytes==i.eb&&y.bytes != 0
    | none=>false)
   | .int k=>!i.agg&&i.alen==0&&i.ez==0&&i.fs==[]&&i.ik==some k && !i.str && !i.bl&&i.eq==[]
   | .string=>!i.agg&&i.alen==0&&i.ez==0&&i.fs==[]&&i.ik==none&&i.str && !i.bl&&i.eq==[]
   | .bool=>!i.agg&&i.alen==0&&i.ez==0&&i.fs==[]&&i.ik==none && !i.str&&i.bl&&i.eq==[]
   | _=>!i.agg&&i.alen==0&&i.ez==0&&i.fs==[]&&i.ik==none && !i.str && !i.bl&&i.eq==[])
 | _,_=>false
def okT (P:Program):List (Nat × TI)→Bool
 | []=>true
 | (t,i)::l=>ZM P t i&&okT P l
theorem Wn {α:Type}:∀(l:List (Nat × α)) (n:Nat) (a:α),eX l n=some a→(n,a)∈l
 | [],_,_,h=>by simp [eX] at h
 | (k,b)::l,n,a,h=>by
  simp only [eX] at h
  split at h
  ·rename_i hb
   have:k=n:=ahI hb
   subst this
   cases h
   simp
  ·exact aic _ (Wn l n a h)
theorem adR {P:Program} {T:List (Nat × TI)} (h:okT P T=true) {t:Nat} {i:TI} (hl:eX T t=some i):ZM P t i=true:=by
 have:=Wn T t i hl
 clear hl
 induction T with
 | nil=>cases this
 | cons p T ih =>
  obtain⟨t',i'⟩:=p
  simp only [okT,ahv] at h
  rcases ahN.1 this with e | e
  ·cases e;exact h.1
  ·exact ih h.2 e
structure TOk (P:Program) (t:Nat) (i:TI):Prop where
 info:∃x z,P.info? t=some x∧x.size=i.n∧x.zero=some z∧iX i.zero z.cells.toList=true∧FI z=i.agg
 zl:i.zero.length=i.n
 und:(P.underlying t).isSome=true
 agg:∀w:World,(isAgg t).run P w = .ok i.agg w
 sl:i.ez≠0→i.alen=0→P.underlying t=some (.slice i.elem)∧i.agg=false∧0<i.ez∧0<i.eb∧∃y,P.info? i.elem=some y∧y.size=i.ez∧y.bytes=i.eb
 ar:i.alen≠0→P.underlying t=some (.array i.alen i.elem)∧i.agg=true∧0<i.ez∧i.n=i.alen*i.ez∧∃y,P.info? i.elem=some y∧y.size=i.ez
 fs:∀(f:Nat) (o ty:Nat),i.fs[f]?=some (o,ty)→∃fs fl,P.underlying t=some (.struct fs)∧fs[f]?=some fl∧fl.offset=o∧fl.type=ty∧i.agg=true∧∃y,P.info? ty=some y∧y.size≠0
 st:i.agg=true→i.alen=0→∃fs,P.underlying t=some (.struct fs)∧RH P fs.toList i.fs=true
 eq:i.eq≠[]→∃fs,P.underlying t=some (.struct fs)∧Yx P 0 fs.toList i.eq=true∧fs.size=i.n∧P.eqGuardType P.depth t=false∧P.stoodInHeld t=false
 ik:∀k,i.ik=some k→P.underlying t=some (.int k)
 str:i.str=true→P.underlying t=some .string∧i.ez=0∧i.alen=0
 bl:i.bl=true→P.underlying t=some .bool
 ifc:i.ifc=true→∃ms,P.underlying t=some (.interface ms)
theorem VF {P:Program}:∀(fs:List Field) (l:List (Nat × Nat)),RH P fs l=true→∀(f o ty:Nat),l[f]?=some (o,ty)→∃fl,fs[f]?=some fl∧fl.offset=o∧fl.type=ty∧∃y,P.info? ty=some y∧y.size≠0
 | [],[],_,f,o,ty,h=>by simp at h
 | g::fs,(o',t')::l,hk,f,o,ty,h=>by
  simp only [RH,ahv,beq_iff_eq] at hk
  obtain⟨⟨⟨h1,h2⟩,h3⟩,h4⟩:=hk
  cases f with
  | zero =>
   simp at h
   obtain⟨rfl,rfl⟩:=h
   refine⟨g,rfl,h1,h2,?_⟩
   split at h3
   ·rename_i x hx;exact⟨x,hx,by simpa using h3⟩
   ·cases h3
  | succ f=>exact VF fs l h4 f o ty (by simpa using h)
 | [],_::_,hk,_,_,_,_=>by simp [RH] at hk
 | _::_,[],hk,_,_,_,_=>by simp [RH] at hk
def adY:TypeDesc→Bool
 | .struct _=>true
 | .array _ _=>true
 | _=>false
theorem abV {P:Program} {t:Nat} {i:TI} (h:ZM P t i=true):TOk P t i:=by
 unfold ZM at h
 split at h
 case h_2=>cases h
 case h_1 x u hx hu =>
  simp only [ahv] at h
  obtain⟨⟨⟨hif,hn⟩,hz⟩,hk⟩:=h
  have hifc:i.ifc=true→∃ms,P.underlying t=some (.interface ms):=by
   intro e
   rw [e] at hif
   simp only [Bool.not_true,Bool.false_or] at hif
   split at hif
   ·rename_i ms;exact⟨ms,hu⟩
   ·cases hif
  clear hif
  have hinfo:∃x z,P.info? t=some x∧x.size=i.n∧x.zero=some z∧iX i.zero z.cells.toList=true∧FI z=i.agg:=by
   split at hz
   ·rename_i z hzz
    simp only [ahv,beq_iff_eq] at hz
    exact⟨x,z,hx,by simpa using hn,hzz,hz.1.1,hz.1.2⟩
   ·cases hz
  have hzl:i.zero.length=i.n:=by
   split at hz
   ·simp only [ahv,beq_iff_eq] at hz
    exact hz.2
   ·cases hz
  have hund:(P.underlying t).isSome=true:=by rw [hu];rfl
  have hagg:∀(w:World) (b:Bool),adY u=b→(isAgg t).run P w = .ok b w:=by
   intro w b hb
   subst hb
   simp only [isAgg,ahw,run_underlying hu,ahu]
   cases u<;>rfl
  have mk:∀(b:Bool),adY u=false→i.agg=false→i.alen=0→i.ez=0→i.fs=[]→i.eq=[] →
    (∀k,i.ik=some k→P.underlying t=some (.int k))→(i.str=true→P.underlying t=some .string)→(i.bl=true→P.underlying t=some .bool)→TOk P t i:=by
   intro _ hb a1 a2 a3 a4 a5 a6 a7 a8
   exact⟨hinfo,hzl,hund,fun w=>hagg w _ (hb.trans a1.symm),fun h=>absurd a3 h,fun h=>absurd a2 h,fun f o ty hf=>by(rw [a4] at hf;simp at hf),fun h=>by(rw [a1] at h;cases h),fun h=>absurd a5 h,a6,fun h=>⟨a7 h,a3,a2⟩,a8,hifc⟩
  have other:(!i.agg&&i.alen==0&&i.ez==0&&i.fs==[]&&i.ik==none && !i.str && !i.bl&&i.eq==[])=true →
    (i.agg=false→i.alen=0→i.ez=0→i.fs=[]→i.eq=[]→(∀k,i.ik=some k→P.underlying t=some (.int k))→(i.str=true→P.underlying t=some .string)→(i.bl=true→P.underlying t=some .bool)→TOk P t i)→TOk P t i:=by
   intro hk mk
   simp only [ahv,ahC,beq_iff_eq] at hk
   obtain⟨⟨⟨⟨⟨⟨⟨a1,a2⟩,a3⟩,a4⟩,a5⟩,a6⟩,a7⟩,a8⟩:=hk
   exact mk a1 a2 a3 a4 a8 (fun k' hk=>by(rw [a5] at hk;cases hk)) (fun h=>by(rw [a6] at h;cases h)) (fun h=>by(rw [a7] at h;cases h))
  clear hz hn
  match u,hu,hk,hagg,mk with
  | .struct fs,hu,hk,hagg,_ =>
   simp only [ahv,ahC,beq_iff_eq] at hk
   obtain⟨⟨⟨⟨⟨⟨⟨a1,a2⟩,a3⟩,a4⟩,a5⟩,a6⟩,a7⟩,a8⟩:=hk
   refine⟨hinfo,hzl,hund,fun w=>hagg w _ a1.symm,fun h=>absurd a3 h,fun h=>absurd a2 h,fun f o ty hf=>?_,fun _ _=>⟨fs,hu,a7⟩,fun he=>?_,fun k hk=>by(rw [a4] at hk;cases hk),fun h=>by(rw [a5] at h;cases h),fun h=>by(rw [a6] at h;cases h),hifc⟩
   ·obtain⟨fl,h1,h2,h3,h4⟩:=VF _ _ a7 f o ty hf
    exact⟨fs,fl,hu,by simpa using h1,h2,h3,a1,h4⟩
   ·simp only [Bool.or_eq_true,beq_iff_eq,ahv,ahC] at a8
    rcases a8 with a8 | a8
    ·exact absurd a8 he
    ·exact⟨fs,hu,a8.1.1.1,a8.1.1.2,a8.1.2,a8.2⟩
  | .array n e,hu,hk,hagg,_ =>
   simp only [ahv,ahC,beq_iff_eq,bne_iff_ne,ne_eq] at hk
   obtain⟨⟨⟨⟨⟨⟨⟨⟨⟨⟨a1,a2⟩,a3⟩,a4⟩,a5⟩,a6⟩,a7⟩,a8⟩,a9⟩,a10⟩,a11⟩:=hk
   refine⟨hinfo,hzl,hund,fun w=>hagg w _ a1.symm,fun _ h=>absurd (a2 ▸ h) a3,fun _=>?_,fun f o ty hf=>by(rw [a5] at hf;simp at hf),fun _ h=>absurd (a2 ▸ h) a3,fun h=>absurd a9 h,fun k hk=>by(rw [a6] at hk;cases hk),fun h=>by(rw [a7] at h;cases h),fun h=>by(rw [a8] at h;cases h),hifc⟩
   split at a10
   ·rename_i y hy
    simp only [ahv,beq_iff_eq,bne_iff_ne,ne_eq] at a10
    refine⟨by rw [hu,a2,a4],a1,by omega,by rw [a2];exact a11,y,by rw [a4];exact hy,a10.1⟩
   ·cases a10
  | .slice e,hu,hk,hagg,_ =>
   simp only [ahv,ahC,beq_iff_eq] at hk
   obtain⟨⟨⟨⟨⟨⟨⟨⟨a1,a2⟩,a3⟩,a4⟩,a5⟩,a6⟩,a7⟩,a8⟩,a9⟩:=hk
   refine⟨hinfo,hzl,hund,fun w=>hagg w _ a1.symm,fun _ _=>?_,fun h=>absurd a2 h,fun f o ty hf=>by(rw [a4] at hf;simp at hf),fun h=>by(rw [a1] at h;cases h),fun h=>absurd a8 h,fun k hk=>by(rw [a5] at hk;cases hk),fun h=>by(rw [a6] at h;cases h),fun h=>by(rw [a7] at h;cases h),hifc⟩
   split at a9
   ·rename_i y hy
    simp only [ahv,beq_iff_eq,bne_iff_ne,ne_eq] at a9
    obtain⟨⟨⟨b1,b2⟩,b3⟩,b4⟩:=a9
    exact⟨by rw [hu,a3],a1,by omega,by omega,y,by rw [a3];exact hy,b1,b3⟩
   ·cases a9
  | .int k,hu,hk,_,mk =>
   simp only [ahv,ahC,beq_iff_eq] at hk
   obtain⟨⟨⟨⟨⟨⟨⟨a1,a2⟩,a3⟩,a4⟩,a5⟩,a6⟩,a7⟩,a8⟩:=hk
   exact mk true rfl a1 a2 a3 a4 a8 (fun k' hk=>by rw [a5] at hk;cases hk;exact hu) (fun h=>by rw [a6] at h;cases h) (fun h=>by rw [a7] at h;cases h)
  | .string,hu,hk,_,mk =>
   simp only [ahv,ahC,beq_iff_eq] at hk
   obtain⟨⟨⟨⟨⟨⟨⟨a1,a2⟩,a3⟩,a4⟩,a5⟩,a6⟩,a7⟩,a8⟩:=hk
   exact mk true rfl a1 a2 a3 a4 a8 (fun k' hk=>by rw [a5] at hk;cases hk) (fun _=>hu) (fun h=>by rw [a7] at h;cases h)
  | .bool,hu,hk,_,mk =>
   simp only [ahv,ahC,beq_iff_eq] at hk
   obtain⟨⟨⟨⟨⟨⟨⟨a1,a2⟩,a3⟩,a4⟩,a5⟩,a6⟩,a7⟩,a8⟩:=hk
   exact mk true rfl a1 a2 a3 a4 a8 (fun k' hk=>by rw [a5] at hk;cases hk) (fun h=>by rw [a6] at h;cases h) (fun _=>hu)
  | .invalid,_,hk,_,mk=>exact other hk (mk true rfl)
  | .float _,_,hk,_,mk=>exact other hk (mk true rfl)
  | .complex _,_,hk,_,mk=>exact other hk (mk true rfl)
  | .unsafePointer,_,hk,_,mk=>exact other hk (mk true rfl)
  | .pointer _,_,hk,_,mk=>exact other hk (mk true rfl)
  | .map _ _,_,hk,_,mk=>exact other hk (mk true rfl)
  | .chan _ _,_,hk,_,mk=>exact other hk (mk true rfl)
  | .func _ _ _,_,hk,_,mk=>exact other hk (mk true rfl)
  | .interface _,_,hk,_,mk=>exact other hk (mk true rfl)
  | .tuple _,_,hk,_,mk=>exact other hk (mk true rfl)
  | .named _ _,_,hk,_,mk=>exact other hk (mk true rfl)
theorem TOk.size {P:Program} {t:Nat} {i:TI} (h:TOk P t i) (w:World):(sizeOf t).run P w = .ok i.n w:=by
 obtain⟨x,z,hx,hn,_⟩:=h.info
 simp [sizeOf,typeInfo,hx,hn]
theorem eU {P:Program} {e:Nat} {y:TypeInfo} (h:P.info? e=some y) (w:World):(sizeOf e).run P w = .ok y.size w:=by simp [sizeOf,typeInfo,h]
theorem kM {w:World} {F:Nat→Prop} {x:Value} (h:flat x=true):RepC w F (.v x) [x]:=by simp only [RepC];exact⟨trivial,h⟩
theorem kO {w:World} {F:Nat→Prop} {z:Nat}:RepC w F (.arr z []) [.slice none 0 0]:=by
 simp only [RepC]
 exact⟨none,0,[],rfl,ahX _,aV.2 rfl,fun d hd=>(List.not_mem_nil hd).elim,fun h=>absurd rfl h⟩
theorem fF {w:World} {F:Nat→Prop}:∀(l:List D) (vs:List Value),iX l vs=true→bZ w F l vs∧l.all D.single=true
 | [],[],_=>⟨aV.2 rfl,rfl⟩
 | .v (.int k a)::l,.int k' b::m,h=>by
  simp only [iX,ahv,beq_iff_eq] at h
  obtain⟨⟨rfl,rfl⟩,h⟩:=h
  obtain⟨g1,g2⟩:=fF (w:=w) (F:=F) l m h
  exact⟨aw.2 ⟨_,_,rfl,kM rfl,g1⟩,by simp [D.single,g2]⟩
 | .v (.bool a)::l,.bool b::m,h=>by
  simp only [iX,ahv,beq_iff_eq] at h
  obtain⟨rfl,h⟩:=h
  obtain⟨g1,g2⟩:=fF (w:=w) (F:=F) l m h
  exact⟨aw.2 ⟨_,_,rfl,kM rfl,g1⟩,by simp [D.single,g2]⟩
 | .v (.string a)::l,.string b::m,h=>by
  simp only [iX,ahv,beq_iff_eq] at h
  obtain⟨h1,h⟩:=h
  have e:a=b:=by
   obtain⟨⟨a⟩⟩:=a
   obtain⟨⟨b⟩⟩:=b
   simpa using h1
  subst e
  obtain⟨g1,g2⟩:=fF (w:=w) (F:=F) l m h
  exact⟨aw.2 ⟨_,_,rfl,kM rfl,g1⟩,by simp [D.single,g2]⟩
 | .v .nilFunc::l,.nilFunc::m,h=>by
  obtain⟨g1,g2⟩:=fF (w:=w) (F:=F) l m (by simpa [iX] using h)
  exact⟨aw.2 ⟨_,_,rfl,kM rfl,g1⟩,by simp [D.single,g2]⟩
 | .v .nilIface::l,.nilIface::m,h=>by
  obtain⟨g1,g2⟩:=fF (w:=w) (F:=F) l m (by simpa [iX] using h)
  exact⟨aw.2 ⟨_,_,rfl,kM rfl,g1⟩,by simp [D.single,g2]⟩
 | .v (.pointer none)::l,.pointer none::m,h=>by
  obtain⟨g1,g2⟩:=fF (w:=w) (F:=F) l m (by simpa [iX] using h)
  exact⟨aw.2 ⟨_,_,rfl,kM rfl,g1⟩,by simp [D.single,g2]⟩
 | .arr z []::l,.slice none 0 0::m,h=>by
  obtain⟨g1,g2⟩:=fF (w:=w) (F:=F) l m (by simpa [iX] using h)
  exact⟨aw.2 ⟨_,_,rfl,kO,g1⟩,by simp [D.single,g2]⟩
theorem aaX {e:TI} (h:e.zero.all D.single=true) {m:List D} (hm:KS e = .tup m):False:=by
 unfold KS at hm
 cases hg:e.agg<;>rw [hg] at hm<;>simp only at hm
 ·cases hz:e.zero with
  | nil=>rw [hz] at hm;cases hm
  | cons d l =>
   rw [hz] at h hm
   simp only at hm
   subst hm
   simp [D.single] at h
 ·cases hm
theorem TOk.zero {P:Program} {t:Nat} {i:TI} (h:TOk P t i):∃z,(∀w:World,(zeroValue t).run P w = .ok z w)∧(∀(w:World) (F:Nat→Prop),bP w F (KS i) z∧bZ w F i.zero z.cells.toList)∧i.zero.all D.single=true∧z.cells.size=i.zero.length:=by
 obtain⟨x,z,hx,hn,hz,h0,ha⟩:=h.info
 obtain⟨_,hs⟩:=fF (w:=default) (F:=fun _=>True) _ _ h0
 refine⟨z,fun w=>by simp [zeroValue,typeInfo,hx,hz],fun w F=>?_,hs,?_⟩
 ·obtain⟨g,_⟩:=fF (w:=w) (F:=F) _ _ h0
  refine⟨?_,g⟩
  unfold KS
  cases hb:i.agg
  ·cases z<;>first
    | (simp only [FI] at ha;rw [hb] at ha;cases ha)
    | skip
   all_goals
    simp only [ah5] at g
    generalize i.zero=l at g hs
    cases l with
    | nil=>rw [aV] at g;cases g
    | cons d l =>
     obtain⟨v1,v2,e,h1,h2⟩:=aw.1 g
     simp only [ahT,ahv] at hs
     obtain⟨y,rfl,_⟩:=lh d v1 hs.1 h1
     simp at e
     rw [mc hs.1,e.1]
     exact h1
  ·cases z<;>first
    | (simp only [FI] at ha;rw [hb] at ha;cases ha)
    | skip
   exact⟨_,rfl,by simp only [RepC];exact⟨g,hs⟩⟩
 ·obtain⟨g,_⟩:=fF (w:=default) (F:=fun _=>True) _ _ h0
  simpa using (dB _ _ hs g).1
end Go.V

namespace Go.V
open Go.RowKit
def dc (w:World) (F:Nat→Prop) (d:D) (y:Value):Prop:=d = .bad∨bP w F d y
section
variable {P:Program} {w:World} {F G:Nat→Prop}
theorem dc.rep {d:D} {y:Value} (h:dc w F d y) (hd:d ≠ .bad):bP w F d y:=h.resolve_left hd
theorem bI {x y:Value} (h:dc w F (.v x) y):y=x∧flat x=true:=cb.1 (h.rep (by simp))
theorem cU {x:Value} (hx:flat x=true):bP w F (.v x) x:=cb.2 ⟨rfl,hx⟩
theorem JQ:∀(fs:List Field) (n:Nat) (c:List Nat) (l m:List D) (us vs xs ys:List Value) (q:Bool),Yx P n fs c=true→HP c l m=some q→xs.length=n→ys.length=n→bZ w F l us→bZ w G m vs →
  (ah7 9999 (xs++us).toArray (ys++vs).toArray fs).run P w = .ok q w
 | [],n,[],l,m,us,vs,xs,ys,q,_,he,_,_,_,_=>by
  cases l<;>cases m<;>simp [HP] at he
  subst he
  simp [ah7]
 | f::fs,n,c::cs,l,m,us,vs,xs,ys,q,hk,he,hx,hy,hu,hv=>by
  simp only [Yx,ahv,bne_iff_ne,ne_eq,beq_iff_eq] at hk
  obtain⟨⟨⟨h1,h2⟩,h3⟩,h4⟩:=hk
  have fin:∀(a b:Value) (l' m':List D) (us' vs':List Value) (r:Bool),us=a::us'→vs=b::vs'→bZ w F l' us'→bZ w G m' vs'→(HP cs l' m').map (r&&·)=some q →
    (isAgg f.type).run P w = .ok false w→(ahH 9999 f.type a b).run P w = .ok r w→(ah7 9999 (xs++us).toArray (ys++vs).toArray (f::fs)).run P w = .ok q w:=by
   intro a b l' m' us' vs' r e1 e2 g1 g2 g4 p0 p3
   subst e1 e2
   have p1:(part f.type (xs++a::us').toArray f.offset).run P w = .ok a w:=by simp [part,p0,h2,hx]
   have p2:(part f.type (ys++b::vs').toArray f.offset).run P w = .ok b w:=by simp [part,p0,h2,hy]
   obtain⟨q',g3,g5⟩:=ahA.1 g4
   simp only [ah7,h1,not_false_eq_true,if_true,ne_eq,ahw,p1,p2,p3,ahu,Sem.run_ite]
   cases r
   ·simp at g5;simp [g5]
   ·simp only [Bool.not_true,ahQ,if_false,Bool.true_and] at g5 ⊢
    subst g5
    have ih:=JQ fs (n+1) cs l' m' us' vs' (xs++[a]) (ys++[b]) q' h4 g3 (by simp [hx]) (by simp [hy]) g1 g2
    simpa using ih
  unfold HP at he
  split at he
  ·cases ‹_::_=[]›
  ·rename_i c' k a l' k' b m' _
   split at he
   ·rename_i hkk
    subst hkk
    obtain⟨v1,v2,rfl,r1,r2⟩:=aw.1 hu
    obtain⟨u1,u2,rfl,s1,s2⟩:=aw.1 hv
    simp only [RepC] at r1 s1
    obtain⟨rfl,_⟩:=r1
    obtain⟨rfl,_⟩:=s1
    cases ‹c::cs=_›
    unfold aeh at h3
    split at h3<;>simp at h3
    rename_i kk hu
    exact fin _ _ _ _ _ _ _ rfl rfl r2 s2 he (by simp [isAgg,run_underlying hu]) (run_equalIn_int w _ _ _ _ _ _ hu)
   ·cases he
  ·rename_i c' a l' b m' _
   obtain⟨v1,v2,rfl,r1,r2⟩:=aw.1 hu
   obtain⟨u1,u2,rfl,s1,s2⟩:=aw.1 hv
   simp only [RepC] at r1 s1
   obtain⟨rfl,_⟩:=r1
   obtain⟨rfl,_⟩:=s1
   cases ‹c::cs=_›
   unfold aeh at h3
   split at h3<;>simp at h3
   rename_i hu
   exact fin _ _ _ _ _ _ _ rfl rfl r2 s2 he (by simp [isAgg,run_underlying hu]) (run_equalIn_bool' w _ _ _ _ hu)
  ·rename_i c' a l' b m' _
   obtain⟨v1,v2,rfl,r1,r2⟩:=aw.1 hu
   obtain⟨u1,u2,rfl,s1,s2⟩:=aw.1 hv
   simp only [RepC] at r1 s1
   obtain⟨rfl,_⟩:=r1
   obtain⟨rfl,_⟩:=s1
   cases ‹c::cs=_›
   unfold aeh at h3
   split at h3<;>simp at h3
   rename_i hu
   exact fin _ _ _ _ _ _ _ rfl rfl r2 s2 he (by simp [isAgg,run_underlying hu]) (run_equalIn_string w _ _ _ _ hu)
  ·cases he
 | [],n,_::_,_,_,_,_,_,_,_,hk,_,_,_,_,_=>by simp [Yx] at hk
 | _::_,n,[],_,_,_,_,_,_,_,hk,_,_,_,_,_=>by simp [Yx] at hk
theorem aeu {op:BinOp} {t:Nat} {k:IntKind} {a b:Int} {z:D} (h:mP op k a b=some z):∃v,(binOp op t (.int k a) (.int k b)).run P w = .ok v w∧z = .v v∧flat v=true:=by
 cases op<;>simp only [mP,ahY] at h
 case quo =>
  split at h<;>simp at h
  rename_i hb
  exact⟨_,by simp [binOp_quo,Op.intDiv,hb],h.symm,rfl⟩
 case rem =>
  split at h<;>simp at h
  rename_i hb
  exact⟨_,by simp [binOp_rem,Op.intDiv,hb],h.symm,rfl⟩
 case shl=>cases h
 case shr=>cases h
 all_goals
  subst h
  refine⟨_,?_,rfl,rfl⟩
  first
  | simp [binOp_add,ah8];done
  | simp [binOp_sub,ah8];done
  | simp [binOp_mul,ah8];done
  | simp [binOp_and,intBits_and];done
  | simp [binOp_or,intBits_or];done
  | simp [binOp_xor,intBits_xor];done
  | simp [binOp_andNot,intBits_andNot];done
  | simp [binOp_eql];done
  | simp [binOp_neq];done
  | simp [binOp_lss];done
  | simp [binOp_leq];done
  | simp [binOp_gtr];done
  | simp [binOp_geq];done
theorem aee {op:BinOp} {t:Nat} {a b:ByteArray} {z:D} (h:JJ op a b=some z):∃v,(binOp op t (.string a) (.string b)).run P w = .ok v w∧z = .v v∧flat v=true:=by
 have e:binOp op t (.string a) (.string b)=aii op a b:=by cases op<;>rfl
 rw [e]
 cases op<;>simp only [JJ,ahY] at h<;>try (cases h;done)
 case add =>
  split at h<;>simp at h
  rename_i hb
  subst h
  refine⟨_,?_,rfl,rfl⟩
  have:¬(((a.size+b.size:Nat):Int)>IntKind.i64.max):=by rw [IntKind.max_i64];omega
  simp only [aii,if_neg this,ahB]
 all_goals
  subst h
  exact⟨_,by simp [aii],rfl,rfl⟩
theorem aeI {op:BinOp} {t:Nat} {i:TI} (hi:TOk P t i) {a b z:D} {x y:Value} (ox oy:Operand) (ha:dc w F a x) (hb:dc w G b y) (h:bin op i.bl i.eq a b=some z) :
  ∃v,(do eqGuard op t ox oy x y;binOp op t x y:Sem Value).run P w = .ok v w∧z = .v v∧flat v=true:=by
 unfold bin at h
 split at h
 ·rename_i k a' _ b'
  obtain⟨rfl,_⟩:=bI ha
  obtain⟨rfl,_⟩:=bI hb
  split at h<;>simp at h
  rename_i h0
  subst h
  refine⟨_,?_,rfl,rfl⟩
  rw [eqGuard_at_int]
  simp [binOp_shl,Op.shift,Int.not_lt.2 h0]
 ·rename_i k a' _ b'
  obtain⟨rfl,_⟩:=bI ha
  obtain⟨rfl,_⟩:=bI hb
  split at h<;>simp at h
  rename_i h0
  subst h
  refine⟨_,?_,rfl,rfl⟩
  rw [eqGuard_at_int]
  simp [binOp_shr,Op.shift,Int.not_lt.2 h0]
 ·rename_i k a' k' b' _ _
  obtain⟨rfl,_⟩:=bI ha
  obtain⟨rfl,_⟩:=bI hb
  by_cases hk:k=k'
  case neg=>rw [if_neg hk] at h;cases h
  rw [if_pos hk] at h
  subst hk
  obtain⟨v,h1,h2,h3⟩:=aeu (P:=P) (w:=w) (t:=t) h
  refine⟨v,?_,h2,h3⟩
  rw [eqGuard_at_int]
  simpa using h1
 ·obtain⟨rfl,_⟩:=bI ha
  obtain⟨rfl,_⟩:=bI hb
  obtain⟨v,h1,h2,h3⟩:=aee (P:=P) (w:=w) (t:=t) h
  refine⟨v,?_,h2,h3⟩
  rw [eqGuard_at_string]
  simpa using h1
 ·obtain⟨rfl,_⟩:=bI ha
  obtain⟨rfl,_⟩:=bI hb
  split at h<;>simp at h
  rename_i hbl
  subst h
  refine⟨_,?_,rfl,rfl⟩
  rw [eqGuard_at_bool]
  simp [binOp,ahM,ahS,run_equalIn_bool' w _ t _ _ (hi.bl hbl)]
 ·obtain⟨rfl,_⟩:=bI ha
  obtain⟨rfl,_⟩:=bI hb
  split at h<;>simp at h
  rename_i hbl
  subst h
  refine⟨_,?_,rfl,rfl⟩
  rw [eqGuard_at_bool]
  simp [binOp,ahM,ahS,run_equalIn_bool' w _ t _ _ (hi.bl hbl)]
 ·split at h
  ·cases h
  ·rename_i he
   obtain⟨q,hq,rfl⟩:=ahA.1 h
   obtain⟨us,rfl,r1⟩:=ha.rep (by simp)
   obtain⟨vs,rfl,s1⟩:=hb.rep (by simp)
   simp only [RepC] at r1 s1
   obtain⟨fs,f1,f2,f3,f4,f5⟩:=hi.eq he
   have hfs:P.fieldsOf t=fs:=by simp [Program.fieldsOf,f1]
   refine⟨_,?_,rfl,rfl⟩
   have key:=JQ (P:=P) fs.toList 0 i.eq _ _ us vs [] [] q f2 hq rfl rfl r1.1 s1.1
   simp only [ah2] at key
   simp only [ahw,run_eqGuard_agg w _ _ _ _ _ _ f4,ahu,run_eql_struct,run_equalIn_agg w 9999 t _ _ (by rw [hfs];exact f1) f5,hfs,key]
 ·split at h
  ·cases h
  ·rename_i he
   obtain⟨q,hq,rfl⟩:=ahA.1 h
   obtain⟨us,rfl,r1⟩:=ha.rep (by simp)
   obtain⟨vs,rfl,s1⟩:=hb.rep (by simp)
   simp only [RepC] at r1 s1
   obtain⟨fs,f1,f2,f3,f4,f5⟩:=hi.eq he
   have hfs:P.fieldsOf t=fs:=by simp [Program.fieldsOf,f1]
   refine⟨_,?_,rfl,rfl⟩
   have key:=JQ (P:=P) fs.toList 0 i.eq _ _ us vs [] [] q f2 hq rfl rfl r1.1 s1.1
   simp only [ah2] at key
   simp only [ahw,run_eqGuard_agg w _ _ _ _ _ _ f4,ahu,run_neq_struct,run_equalIn_agg w 9999 t _ _ (by rw [hfs];exact f1) f5,hfs,key]
 ·cases h
theorem acm {op:BinOp} {t:Nat} {i:TI} (hi:TOk P t i) (hs:qR i=true) {a z:D} {x:Value} (ox oy:Operand) (ha:dc w F a x) (h:aba op a=some z) :
  ∃v,(do eqGuard op t ox oy x (.slice none 0 0);binOp op t x (.slice none 0 0):Sem Value).run P w = .ok v w∧z = .v v∧flat v=true:=by
 have hez:i.ez≠0∧i.alen=0:=by
  unfold qR at hs
  split at hs
  ·cases hs
  ·rename_i e1 h2
   exact⟨h2,e1⟩
  ·cases hs
 obtain⟨hu,_⟩:=hi.sl hez.1 hez.2
 have eq1:∀(b:Addr) (n c:Nat),(ahM t (.slice (some b) n c) (.slice none 0 0)).run P w = .ok false w:=fun b n c=>by
  have h:∀d:Nat,(ahH (d+1) t (.slice (some b) n c) (.slice none 0 0)).run P w = .ok false w:=fun d=>by
   simp [ahH,run_underlying hu]
  simp [ahM,ahS,h 9999]
 have eq2:(ahM t (.slice none 0 0) (.slice none 0 0)).run P w = .ok true w:=by
  have h:∀d:Nat,(ahH (d+1) t (.slice none 0 0) (.slice none 0 0)).run P w = .ok true w:=fun d=>by
   simp [ahH,run_underlying hu]
  simp [ahM,ahS,h 9999]
 have g1:∀(op:BinOp) (b:Option Addr) (n c:Nat),(eqGuard op t ox oy (.slice b n c) (.slice none 0 0)).run P w = .ok () w:=fun op b n c=>by
  cases op<;>simp [eqGuard]
 unfold aba at h
 split at h
 ·obtain⟨rfl,_⟩:=bI ha
  cases h
  refine⟨_,?_,rfl,rfl⟩
  simp only [ahw,g1,ahu,binOp,eq2]
  rfl
 ·obtain⟨rfl,_⟩:=bI ha
  cases h
  refine⟨_,?_,rfl,rfl⟩
  simp only [ahw,g1,ahu,binOp,eq2]
  rfl
 ·have hr:=ha.rep (by simp)
  simp only [bP,RepC] at hr
  obtain⟨A,c,us,e,_,_,_,hA⟩:=hr
  obtain⟨b,o,rfl,_⟩:=hA (by simp)
  simp only [ahx,and_true] at e
  subst e
  cases h
  refine⟨_,?_,rfl,rfl⟩
  simp only [ahw,g1,ahu,binOp,eq1]
  rfl
 ·have hr:=ha.rep (by simp)
  simp only [bP,RepC] at hr
  obtain⟨A,c,us,e,_,_,_,hA⟩:=hr
  obtain⟨b,o,rfl,_⟩:=hA (by simp)
  simp only [ahx,and_true] at e
  subst e
  cases h
  refine⟨_,?_,rfl,rfl⟩
  simp only [ahw,g1,ahu,binOp,eq1]
  rfl
 ·cases h
theorem adX {op:BinOp} {t:Nat} {i:TI} (hi:TOk P t i) (hf:i.ifc=true) {a b z:D} {x y:Value} {nc:Bool} (ox oy:Operand) (hc:nc=true→∃v,oy = .const v) (ha:dc w F a x) (hb:dc w G b y) (h:Yp nc op a b=some z) :
  ∃v,(do eqGuard op t ox oy x y;binOp op t x y:Sem Value).run P w = .ok v w∧z = .v v∧flat v=true:=by
 obtain⟨ms,hu⟩:=hi.ifc hf
 have eq1:∀(tx:TypeId) (v:Value),(ahM t (.iface tx v) .nilIface).run P w = .ok false w:=fun tx v=>by
  have h:∀d:Nat,(ahH (d+1) t (.iface tx v) .nilIface).run P w = .ok false w:=fun d=>by
   simp [ahH,run_underlying hu]
  simp [ahM,ahS,h 9999]
 have eq2:(ahM t .nilIface .nilIface).run P w = .ok true w:=by
  have h:∀d:Nat,(ahH (d+1) t .nilIface .nilIface).run P w = .ok true w:=fun d=>by
   simp [ahH,run_underlying hu]
  simp [ahM,ahS,h 9999]
 have g1:∀(op:BinOp) (tx:TypeId) (v:Value),(eqGuard op t ox oy (.iface tx v) .nilIface).run P w = .ok () w:=fun op tx v=>by
  cases op<;>simp [eqGuard]
 have g2:nc=true→∀op:BinOp,(eqGuard op t ox oy .nilIface .nilIface).run P w = .ok () w:=fun hn op=>by
  obtain⟨v,rfl⟩:=hc hn
  cases op<;>simp [eqGuard]
 unfold Yp at h
 split at h
 ·obtain⟨tx,v,e⟩:=ha.rep (by simp)
  obtain⟨rfl,_⟩:=bI hb
  simp only [ahx,and_true] at e
  subst e
  cases h
  refine⟨_,?_,rfl,rfl⟩
  simp only [ahw,g1,ahu,binOp,eq1]
  rfl
 ·obtain⟨tx,v,e⟩:=ha.rep (by simp)
  obtain⟨rfl,_⟩:=bI hb
  simp only [ahx,and_true] at e
  subst e
  cases h
  refine⟨_,?_,rfl,rfl⟩
  simp only [ahw,g1,ahu,binOp,eq1]
  rfl
 ·obtain⟨rfl,_⟩:=bI ha
  obtain⟨rfl,_⟩:=bI hb
  split at h
  case isFalse=>cases h
  rename_i hn
  cases h
  refine⟨_,?_,rfl,rfl⟩
  simp only [ahw,g2 hn,ahu,binOp,eq2]
  rfl
 ·obtain⟨rfl,_⟩:=bI ha
  obtain⟨rfl,_⟩:=bI hb
  split at h
  case isFalse=>cases h
  rename_i hn
  cases h
  refine⟨_,?_,rfl,rfl⟩
  simp only [ahw,g2 hn,ahu,binOp,eq2]
  rfl
 ·cases h
theorem afS {op:UnOp} {a z:D} {x:Value} (ha:dc w F a x) (h:un op a=some z):∃v,(Op.unary op x).run P w = .ok v w∧z = .v v∧flat v=true:=by
 unfold un at h
 split at h
 ·obtain⟨rfl,_⟩:=bI ha
  simp at h;subst h
  exact⟨_,by simp [Op.unary,ah8],rfl,rfl⟩
 ·obtain⟨rfl,_⟩:=bI ha
  simp at h;subst h
  exact⟨_,by simp [Op.unary],rfl,rfl⟩
 ·cases h
theorem aci {q a b z:D} {xq xa xb:Value} (hq:dc w F q xq) (ha:dc w G a xa) (hb:dc w G b xb) (h:aT q a b=some z):∃y,(do pure (if ←asBool xq then xa else xb):Sem Value).run P w = .ok y w∧dc w G z y:=by
 unfold aT at h
 split at h
 ·obtain⟨rfl,_⟩:=bI hq
  simp at h;subst h
  exact⟨xa,by simp [asBool],ha⟩
 ·obtain⟨rfl,_⟩:=bI hq
  simp at h;subst h
  exact⟨xb,by simp [asBool],hb⟩
 ·cases h
theorem ab9 {src dst:Nat} {si di:TI} (hs:TOk P src si) (hd:TOk P dst di) {a z:D} {x:Value} (ha:dc w F a x) (h:Aw di.ik (match di.str with | true=>si.str | false=>false) a=some z) :
  ∃v,(convert src dst x).run P w = .ok v w∧z = .v v∧flat v=true:=by
 unfold Aw at h
 split at h
 ·rename_i k kk n hk
  obtain⟨rfl,_⟩:=bI ha
  simp at h;subst h
  obtain⟨d,hu⟩:=Option.isSome_iff_exists.1 hs.und
  refine⟨_,?_,rfl,rfl⟩
  simp [convert,run_underlying hu,run_underlying (hd.ik k hk),Conv.intToInt]
 ·rename_i s hk
  obtain⟨rfl,_⟩:=bI ha
  simp at h;subst h
  split at hk
  ·rename_i hdd
   have h1:=(hd.str hdd).1
   have h2:=(hs.str hk).1
   refine⟨_,?_,rfl,rfl⟩
   simp [convert,run_underlying h1,run_underlying h2]
  ·cases hk
 ·cases h
theorem qH {t:Nat} {i:TI} (hi:TOk P t i) (h:qR i=true):P.underlying t=some (.slice i.elem)∧i.agg=false∧0<i.ez∧0<i.eb∧∃y,P.info? i.elem=some y∧y.size=i.ez∧y.bytes=i.eb:=by
 unfold qR at h
 split at h
 ·cases h
 ·rename_i h1 h2
  exact hi.sl (by intro h0;exact h2 h0) h1
 ·cases h
theorem pI {z:Nat} {l:List D} {y:Value} (h:bP w F (.arr z l) y):∃A c us,y = .slice A l.length c∧l.length≤c∧bZ w F l us∧(∀d∈l,d.width=z)∧(l≠[]→∃b o,A=some ⟨b,o,none⟩∧F b∧cH w b o us):=by
 simp only [bP,RepC] at h
 obtain⟨A,c,us,h1,h2⟩:=h
 simp at h1
 exact⟨A,c,us,h1,h2⟩
theorem GQ {l:List D} {y:Value} (h:bP w F (.ptr l) y):∃b o us,y = .pointer (some ⟨b,o,none⟩)∧bZ w F l us∧l.all D.single=true∧F b∧cH w b o us:=by
 simp only [bP,RepC] at h
 obtain⟨b,o,us,h1,h2⟩:=h
 simp at h1
 exact⟨b,o,us,h1,h2⟩
theorem aeb {t ty:Nat} {str:Bool} {a z:D} {x:Value} (ha:dc w F a x) (hs:str=false→∃e,P.underlying t=some (.slice e)) (ht:str=true→P.underlying t=some .string) (h:lenD str a=some z) :
  ∃v,(aih #[t] ty #[x]).run P w = .ok v w∧z = .v v∧flat v=true:=by
 unfold lenD at h
 split at h
 ·obtain⟨e,hu⟩:=hs rfl
  obtain⟨A,c,us,rfl,_⟩:=pI (ha.rep (by simp))
  simp at h;subst h
  exact⟨_,by simp [aih,run_underlying hu,goInt],rfl,rfl⟩
 ·have hu:=ht rfl
  obtain⟨rfl,_⟩:=bI ha
  simp at h;subst h
  exact⟨_,by simp [aih,run_underlying hu,goInt],rfl,rfl⟩
 ·cases h
theorem SX {ag:Bool} {n:Nat} {l:List D} {us:List Value} {z:D} (hr:bZ w F l us) (hs:l.all D.single=true) (h:an ag n l=some z) :
  (ag=true→n≤us.length∧bP w F z (.agg (us.take n).toArray))∧(ag=false→∃u,us[0]?=some u∧bP w F z u):=by
 have hl:=(dB l us hs hr).1
 unfold an at h
 constructor
 ·rintro rfl
  simp only [if_true] at h
  split at h
  ·rename_i hn
   simp at h;subst h
   refine⟨by omega,_,rfl,?_⟩
   simp only [RepC]
   exact⟨(pB l us hs hr n).1,WX hs n⟩
  ·cases h
 ·rintro rfl
  simp only [ahQ,if_false] at h
  cases l with
  | nil=>cases h
  | cons d l =>
   simp at h;subst h
   simp only [ahT,ahv] at hs
   obtain⟨v1,v2,rfl,h1,h2⟩:=aw.1 hr
   obtain⟨y,rfl,_⟩:=lh _ _ hs.1 h1
   exact⟨y,rfl,(mc hs.1).2 h1⟩
theorem XJ {t:Nat} {i:TI} (hi:TOk P t i) {off:Nat} {l:List D} {us:List Value} {z:D} (hr:bZ w F l us) (hs:l.all D.single=true) (h:an i.agg i.n (l.drop off)=some z) :
  ∃y,(part t us.toArray off).run P w = .ok y w∧bP w F z y:=by
 obtain⟨h1,h2⟩:=SX (pB l us hs hr off).2 (vx hs off) h
 cases ha:i.agg
 ·obtain⟨u,hu,hv⟩:=h2 ha
  refine⟨u,?_,hv⟩
  rw [aif] at hu
  simp only [part,ahw,hi.agg,ha,ahu,ahQ,if_false]
  have:us.toArray[off]?=some u:=by simpa using hu
  rw [this]
  rfl
 ·obtain⟨hn,hv⟩:=h1 ha
  refine⟨_,?_,hv⟩
  simp only [part,ahw,hi.agg,ha,ahu,if_true,hi.size,ahB]
  congr 2
  apply Array.ext'
  simp
theorem aeG {t ft f off:Nat} {i ti:TI} (hi:TOk P t i) (hf:TOk P ft ti) {a z:D} {x:Value} (hl:i.fs[f]?=some (off,ft)) (ha:dc w F a x) (h:bf ti.agg ti.n off a=some z) :
  ∃y,(Instr.field t x f).run P w = .ok y w∧bP w F z y:=by
 unfold bf at h
 split at h
 ·rename_i l
  obtain⟨us,rfl,hr⟩:=ha.rep (by simp)
  simp only [RepC] at hr
  obtain⟨fs,fl,h1,h2,h3,h4,_⟩:=hi.fs f off ft hl
  obtain⟨y,hy,hv⟩:=XJ hf hr.1 hr.2 h
  refine⟨y,?_,hv⟩
  simp only [Instr.field,ahw,run_underlying h1,ahu,h2,asAgg,ahB,h3,h4,hy]
 ·cases h
theorem Ik {t:Nat} {i:TI} (hi:TOk P t i) {b o:Nat} {l:List D} {us:List Value} {z:D} (hr:bZ w F l us) (hs:l.all D.single=true) (hc:cH w b o us) (h:an i.agg i.n l=some z) :
  ∃y,(ah0 t (.pointer (some ⟨b,o,none⟩))).run P w = .ok y w∧bP w F z y:=by
 obtain⟨h1,h2⟩:=SX hr hs h
 cases ha:i.agg
 ·obtain⟨u,hu,hv⟩:=h2 ha
  refine⟨u,?_,hv⟩
  have hcell:=hc 0 u hu
  rw [Nat.add_zero] at hcell
  simp only [ah0,ahW,ahw,ahB,ahu,loadVar,hi.agg,ha,ahQ,if_false,run_load,hcell]
 ·obtain⟨hn,hv⟩:=h1 ha
  refine⟨_,?_,hv⟩
  have hlc:(loadCells ⟨b,o,none⟩ i.n).run P w = .ok (us.take i.n).toArray w:=by
   have hlen:(us.take i.n).length=i.n:=by rw [ahK];omega
   have:=run_loadCells_list (P:=P) w ⟨b,o,none⟩ (us.take i.n) (fun j v hj=>by rw [ahJ];exact(hc.take i.n) j v hj)
   rwa [hlen] at this
  simp only [ah0,ahW,ahw,ahB,ahu,loadVar,hi.agg,ha,if_true,hi.size,hlc]
theorem af9 {t:Nat} {i:TI} (hi:TOk P t i) {a z:D} {x:Value} (ha:dc w F a x) (h:ldD i.agg i.n a=some z):∃y,(ah0 t x).run P w = .ok y w∧bP w F z y:=by
 unfold ldD at h
 split at h
 ·obtain⟨b,o,us,rfl,h1,h2,_,h4⟩:=GQ (ha.rep (by simp))
  exact Ik hi h1 h2 h4 h
 ·cases h
theorem zS {t f off ft:Nat} {i:TI} (hi:TOk P t i) (hl:i.fs[f]?=some (off,ft)) (b o:Nat):(aie t (.pointer (some ⟨b,o,none⟩)) f).run P w = .ok (.pointer (some ⟨b,o+off,none⟩)) w:=by
 obtain⟨fs,fl,h1,h2,h3,h4,_,y,h5,h6⟩:=hi.fs f off ft hl
 simp only [aie,ahw,run_underlying h1,ahu,h2,ahW,ahB,fieldPlace,h4,eU h5,if_neg h6,h3,ahJ]
theorem aeY {t f off ft:Nat} {i:TI} (hi:TOk P t i) (hl:i.fs[f]?=some (off,ft)) {a z:D} {x:Value} (ha:dc w F a x) (h:gy off a=some z):∃y,(aie t x f).run P w = .ok y w∧bP w F z y:=by
 unfold gy at h
 split at h
 ·rename_i l
  obtain⟨b,o,us,rfl,h1,h2,h3,h4⟩:=GQ (ha.rep (by simp))
  simp at h;subst h
  refine⟨_,zS hi hl b o,?_⟩
  simp only [bP,RepC]
  exact⟨b,o+off,us.drop off,rfl,(pB l us h2 h1 off).2,vx h2 off,h3,h4.drop off⟩
 ·cases h
theorem KA {t:Nat} {i:TI} (hi:TOk P t i) (hsl:qR i=true) (b o len c:Nat) (k:IntKind) (n:Int) (h0:0≤n) (h1:n<len) :
  (ahO t (.slice (some ⟨b,o,none⟩) len c) (.int k n)).run P w = .ok (.pointer (some ⟨b,o+n.toNat*i.ez,none⟩)) w:=by
 obtain⟨hu,_,_,_,y,hy,hz,_⟩:=qH hi hsl
 simp only [ahO,asIntOf,ahw,ahB,ahu,run_underlying hu,h0,h1,and_self,if_true,eU hy,hz,ahJ]
theorem KL {t:Nat} {i:TI} (hi:TOk P t i) (ha:i.alen≠0) (b o:Nat) (k:IntKind) (n:Int) (h0:0≤n) (h1:n<i.alen) :
  (ahO t (.pointer (some ⟨b,o,none⟩)) (.int k n)).run P w = .ok (.pointer (some ⟨b,o+n.toNat*i.ez,none⟩)) w:=by
 obtain⟨hu,_,_,_,y,hy,hz⟩:=hi.ar ha
 simp only [ahO,asIntOf,ahw,ahB,ahu,run_underlying hu,ahW,h0,h1,and_self,if_true,eU hy,hz,ahJ]
theorem adU {t:Nat} {i:TI} (hi:TOk P t i) (hsl:qR i=true) {a j:D} {x y:Value} {l:List D} (ha:dc w F a x) (hj:dc w G j y) (h:ao i.ez a j=some l) :
  ∃v,(ahO t x y).run P w = .ok v w∧bP w F (.ptr l) v:=by
 unfold ao at h
 split at h
 ·rename_i z' m k n
  split at h
  ·rename_i hz
   obtain⟨rfl,h0⟩:=hz
   obtain⟨d,hd,rfl⟩:=ahA.1 h
   obtain⟨rfl,_⟩:=bI hj
   obtain⟨A,c,us,rfl,h1,h2,h3,h4⟩:=pI (ha.rep (by simp))
   have hn:n.toNat<m.length:=(ahE.1 hd).1
   obtain⟨b,o,rfl,hb,hc⟩:=h4 (by intro e;subst e;simp at hn)
   refine⟨_,KA hi hsl b o _ c k n h0 (by omega),?_⟩
   obtain⟨p,q,r,rfl,hp,hq,hr,_⟩:=Nf m us h2 h3 _ d hd
   simp only [bP,RepC]
   have hrr:bZ w F d.cells q∧d.cells.all D.single=true:=by
    rcases re hr with ⟨l,rfl⟩ | hs
    ·simpa only [RepC,D.cells] using hr
    ·rw [(gc hs).2]
     exact⟨aw.2 ⟨q,[],by simp,hr,aV.2 rfl⟩,by simp [hs]⟩
   refine⟨b,_,q,rfl,hrr.1,hrr.2,hb,?_⟩
   rw [←hp]
   exact hc.part
  ·cases h
 ·cases h
theorem aeK {t:Nat} {i:TI} (hi:TOk P t i) (hal:i.alen≠0) {a j z:D} {x y:Value} (ha:dc w F a x) (hj:dc w G j y) (h:ixD i.alen i.ez a j=some z):∃v,(ahO t x y).run P w = .ok v w∧bP w F z v:=by
 unfold ixD at h
 split at h
 ·rename_i l k n
  split at h
  ·rename_i hn
   simp at h;subst h
   obtain⟨rfl,_⟩:=bI hj
   obtain⟨b,o,us,rfl,h1,h2,h3,h4⟩:=GQ (ha.rep (by simp))
   refine⟨_,KL hi hal b o k n hn.1 hn.2,?_⟩
   simp only [bP,RepC]
   exact⟨b,_,_,rfl,(pB l us h2 h1 _).2,vx h2 _,h3,h4.drop _⟩
  ·cases h
 ·cases h
theorem ad6 {t et:Nat} {i e:TI} (hi:TOk P t i) (he:TOk P et e) (hal:i.alen≠0) (hel:i.elem=et) {a j z:D} {x y:Value} (ha:dc w F a x) (hj:dc w G j y) (h:ixA e.agg i.alen i.ez a j=some z):∃v,(ah9 t x y).run P w = .ok v w∧bP w F z v:=by
 unfold ixA at h
 split at h
 ·rename_i l k n
  split at h
  ·rename_i hn
   obtain⟨rfl,_⟩:=bI hj
   obtain⟨us,rfl,hr⟩:=ha.rep (by simp)
   simp only [RepC] at hr
   obtain⟨hu,_,_,_,y,hy,hz⟩:=hi.ar hal
   have hen:e.n=i.ez:=by
    obtain⟨x',_,h1,h2,_⟩:=he.info
    rw [hel] at hy
    rw [hy] at h1
    cases h1
    omega
   rw [←hen] at h
   obtain⟨v,hv,hrep⟩:=XJ he hr.1 hr.2 h
   refine⟨v,?_,hrep⟩
   subst hel
   simp only [ah9,asIntOf,ahw,ahB,ahu,run_underlying hu,hn.1,hn.2,and_self,if_true,eU hy,hz]
   rw [←hen]
   exact hv
  ·cases h
 ·cases h
theorem adp {t:Nat} {i:TI} (hi:TOk P t i) (hs:i.str=true) {a j z:D} {x y:Value} (ha:dc w F a x) (hj:dc w G j y) (h:jW a j=some z):∃v,(ah9 t x y).run P w = .ok v w∧z = .v v∧flat v=true:=by
 unfold jW at h
 split at h
 ·rename_i s k n
  split at h
  ·rename_i h0
   obtain⟨b,hb,rfl⟩:=ahA.1 h
   obtain⟨rfl,_⟩:=bI ha
   obtain⟨rfl,_⟩:=bI hj
   refine⟨_,?_,rfl,rfl⟩
   have hb':s[n.toNat]?=some b:=by
    have hlt:n.toNat<s.data.toList.length:=(ahE.1 hb).1
    have hlt':n.toNat<s.size:=by rw [Array.length_toList] at hlt;exact hlt
    rw [getElem?_pos s n.toNat hlt']
    have h2:=(ahE.1 hb).2
    refine congrArg some ?_
    rw [←h2,Array.getElem_toList]
    rfl
   simp only [ah9,asIntOf,ahw,ahB,ahu,run_underlying (hi.str hs).1]
   rw [if_pos h0,hb']
   rfl
  ·cases h
 ·cases h
def LoV (w:World) (F:Nat→Prop) (lo:D) (v:Option Value):Prop:=(∃y,v=some y∧dc w F lo y)∨(v=none∧lo=I 0)
theorem Bd {k:IntKind} {p:Int} {v:Option Value} (h:LoV w F (.v (.int k p)) v):v=some (.int k p)∨(v=none∧p=0):=by
 rcases h with ⟨y,rfl,hy⟩ | ⟨rfl,e⟩
 ·obtain⟨rfl,_⟩:=bI hy
  exact .inl rfl
 ·simp at e
  exact .inr ⟨rfl,e.2⟩
theorem abu {t:Nat} {i:TI} (hi:TOk P t i) (hsl:i.str=false→qR i=true) {a lo hi' z:D} {x yh:Value} {yl:Option Value} (ha:dc w F a x) (hl:LoV w G lo yl) (hh:dc w G hi' yh) (h:dW i.str i.ez a lo hi'=some z) :
  ∃v,(aio t x yl (some yh) none).run P w = .ok v w∧bP w F z v:=by
 unfold dW at h
 split at h
 ·rename_i z' l k p k' q hs
  split at h
  ·rename_i hc
   obtain⟨rfl,h0,h1,h2⟩:=hc
   simp at h;subst h
   have hl:=Bd hl
   obtain⟨rfl,_⟩:=bI hh
   obtain⟨hu,_,hez,_,y,hy,hz,_⟩:=qH hi (hsl hs)
   obtain⟨A,c,us,rfl,g1,g2,g3,g4⟩:=pI (ha.rep (by simp))
   have he:P.elem t=i.elem:=by simp [aip,hu]
   refine⟨sliced A p.toNat q.toNat c i.ez,?_,?_⟩
   ·rcases hl with rfl | ⟨rfl,rfl⟩
    ·rw [run_sliceAt_slice w t _ _ _ _ (by rw [he];exact hu),run_slice_lh w t A _ c (by rw [he];exact hu) k k' p q h0 h1 (by omega),he,eU hy,hz]
     rfl
    ·rw [run_sliceAt_slice w t _ _ _ _ (by rw [he];exact hu),run_slice_h w t A _ c (by rw [he];exact hu) k' q (by omega) (by omega),he,eU hy,hz]
     rfl
   ·simp only [bP,RepC,sliced]
    have hlen:((l.take q.toNat).drop p.toNat).length=q.toNat - p.toNat:=by rw [ah1,ahK];omega
    obtain⟨t1,_⟩:=rg l us g2 g3 q.toNat
    obtain⟨_,t2⟩:=rg (l.take q.toNat) (us.take (q.toNat*i.ez)) t1 (fun d hd=>g3 d (ahG hd)) p.toNat
    refine⟨_,c - p.toNat,_,by rw [hlen],by rw [hlen];omega,t2,fun d hd=>g3 d (ahG (ahU hd)),fun hne=>?_⟩
    have hpos:p.toNat<q.toNat:=by
     rcases aig p.toNat q.toNat with hlt | hge
     ·exact hlt
     ·exact absurd (ahV (by rw [hlen];omega)) hne
    obtain⟨b,o,rfl,hb,hcell⟩:=g4 (by intro e;subst e;simp at h2;omega)
    refine⟨b,o+p.toNat*i.ez,?_,hb,(hcell.take _).drop _⟩
    rw [if_neg (by omega)]
    simp [ahJ]
  ·cases h
 ·rename_i s k p k' q hs
  split at h
  ·rename_i hc
   obtain⟨h0,h1,h2⟩:=hc
   simp at h;subst h
   obtain⟨rfl,_⟩:=bI ha
   have hl:=Bd hl
   obtain⟨rfl,_⟩:=bI hh
   have hu:=(hi.str hs).1
   refine⟨_,?_,cU rfl⟩
   have e1:((q.toNat:Nat):Int)=q:=by omega
   rcases hl with rfl | ⟨rfl,rfl⟩
   case inr=>rw [run_sliceAt_string w t _ _ _ _ hu,run_slice_string_h w t s hu k' q (by omega) (by omega)];rfl
   simp [run_sliceAt_string w t _ _ _ _ hu,Instr.slice,run_underlying hu,Instr.sliceBounds,run_sliceBound w k' q s.size _ (by omega) h2,run_sliceBound w k p q.toNat _ h0 (by omega)]
  ·cases h
 ·cases h
theorem VQ {t:Nat} {i:TI} (hi:TOk P t i) (hsl:i.str=false→qR i=true) {a lo z:D} {x:Value} {yl:Option Value} (ha:dc w F a x) (hl:LoV w G lo yl) (h:cJ i.str i.ez a lo=some z) :
  ∃v,(aio t x yl none none).run P w = .ok v w∧bP w F z v:=by
 unfold cJ at h
 split at h
 ·rename_i z' l k p hs
  split at h
  ·rename_i hc
   obtain⟨rfl,h0,h1⟩:=hc
   simp at h;subst h
   have hl:=Bd hl
   obtain⟨hu,_,hez,_,y,hy,hz,_⟩:=qH hi (hsl hs)
   obtain⟨A,c,us,rfl,g1,g2,g3,g4⟩:=pI (ha.rep (by simp))
   have he:P.elem t=i.elem:=by simp [aip,hu]
   refine⟨sliced A p.toNat l.length c i.ez,?_,?_⟩
   ·rcases hl with rfl | ⟨rfl,rfl⟩
    ·rw [run_sliceAt_slice w t _ _ _ _ (by rw [he];exact hu),run_slice_l w t A _ c (by rw [he];exact hu) k p h0 h1,he,eU hy,hz]
     rfl
    ·rw [run_sliceAt_slice w t _ _ _ _ (by rw [he];exact hu),run_slice_all w t A _ c (by rw [he];exact hu),he,eU hy,hz]
     rfl
   ·simp only [bP,RepC,sliced]
    obtain⟨_,t2⟩:=rg l us g2 g3 p.toNat
    refine⟨_,c - p.toNat,_,by rw [ah1],by rw [ah1];omega,t2,fun d hd=>g3 d (ahU hd),fun hne=>?_⟩
    have hpos:p.toNat<l.length:=by
     rcases aig p.toNat l.length with hlt | hge
     ·exact hlt
     ·exact absurd (ahR hge) hne
    obtain⟨b,o,rfl,hb,hcell⟩:=g4 (by intro e;subst e;simp at hpos)
    refine⟨b,o+p.toNat*i.ez,?_,hb,hcell.drop _⟩
    rw [if_neg (by omega)]
    simp [ahJ]
  ·cases h
 ·rename_i s k p hs
  split at h
  ·rename_i hc
   obtain⟨h0,h1⟩:=hc
   simp at h;subst h
   obtain⟨rfl,_⟩:=bI ha
   have hl:=Bd hl
   have hu:=(hi.str hs).1
   refine⟨_,?_,cU rfl⟩
   rcases hl with rfl | ⟨rfl,rfl⟩
   case inr=>rw [run_sliceAt_string w t _ _ _ _ hu,run_slice_string_all w t s hu];rfl
   simp [run_sliceAt_string w t _ _ _ _ hu,Instr.slice,run_underlying hu,Instr.sliceBounds,run_sliceBound w k p s.size _ h0 h1]
  ·cases h
 ·cases h
theorem aer {a b z:D} {x y:Value} (ha:dc w F a x) (hb:dc w G b y) (h:XE a b=some z):∃v,(aiq x y).run P w = .ok v w∧z = .v v∧flat v=true:=by
 unfold XE at h
 split at h
 ·obtain⟨rfl,_⟩:=bI ha
  obtain⟨rfl,_⟩:=bI hb
  simp at h;subst h
  exact⟨_,by simp [aiq],rfl,rfl⟩
 ·cases h
theorem aeH {a b z:D} {x y:Value} (ha:dc w F a x) (hb:dc w G b y) (h:Uf a b=some z):∃v,(air x y).run P w = .ok v w∧z = .v v∧flat v=true:=by
 unfold Uf at h
 split at h
 ·obtain⟨rfl,_⟩:=bI ha
  obtain⟨rfl,_⟩:=bI hb
  simp at h;subst h
  exact⟨_,by simp [air],rfl,rfl⟩
 ·cases h
def Gg (w:World) (F:Nat→Prop):List D→List Value→Prop
 | [],[]=>True
 | d::ds,y::ys=>dc w F d y∧Gg w F ds ys
 | _,_=>False
theorem VE {f:D→D→Option D} {g:Value→Value→Sem Value} (hf:∀(a b z:D) (x y:Value),dc w F a x→dc w F b y→f a b=some z→∃v,(g x y).run P w = .ok v w∧z = .v v∧flat v=true) :
  ∀(ds:List D) (ys:List Value) (z:D) (x:Value),flat x=true→Gg w F ds ys→OY f (.v x) ds=some z→∃v,(ys.foldlM g x).run P w = .ok v w∧z = .v v∧flat v=true
 | [],[],z,x,ha,_,h=>by
  simp only [OY,ahY] at h
  subst h
  exact⟨x,by simp,rfl,ha⟩
 | d::ds,y::ys,z,x,ha,hb,h=>by
  simp only [OY] at h
  obtain⟨u,hu,h⟩:=ahF.1 h
  obtain⟨v,h1,rfl,h3⟩:=hf (.v x) d u x y (.inr (cU ha)) hb.1 hu
  obtain⟨v',h4,h5⟩:=VE hf ds ys z v h3 hb.2 h
  exact⟨v',by simp [h1,h4],h5⟩
 | [],_::_,_,_,_,hb,_=>hb.elim
 | _::_,[],_,_,_,hb,_=>hb.elim
theorem abw {f:D→D→Option D} {g:Value→Value→Sem Value} (hf:∀(a b z:D) (x y:Value),dc w F a x→dc w F b y→f a b=some z→∃v,(g x y).run P w = .ok v w∧z = .v v∧flat v=true)
  {a b:D} {ds:List D} {x y:Value} {ys:List Value} {z:D} (ha:dc w F a x) (hb:dc w F b y) (hd:Gg w F ds ys) (h:OY f a (b::ds)=some z):∃v,((y::ys).foldlM g x).run P w = .ok v w∧z = .v v∧flat v=true:=by
 simp only [OY] at h
 obtain⟨u,hu,h⟩:=ahF.1 h
 obtain⟨v,h1,rfl,h3⟩:=hf a b u x y ha hb hu
 obtain⟨v',h4,h5⟩:=VE hf ds ys z v h3 hd h
 exact⟨v',by simp [h1,h4],h5⟩
theorem aev {a z:D} {x:Value} (ha:dc w F a x) (h:Bn a=some z) (o:Oper) (q:Operand) (ρ:Operand→Value) (ho:o.op = .nilCheck q) (hq:ρ q=x):(execOp ρ o).run P w = .ok (.value x) w∧bP w F z x:=by
 unfold Bn at h
 split at h
 ·have hr:=ha.rep (by simp)
  obtain⟨b,of,us,rfl,_⟩:=GQ hr
  simp at h;subst h
  exact⟨by simp [execOp,ho,hq],hr⟩
 ·have hr:=ha.rep (by simp)
  simp at h;subst h
  have hr':=hr
  simp only [bP,RepC] at hr'
  obtain⟨us,hx,_⟩:=hr'
  simp at hx;subst hx
  exact⟨by simp [execOp,ho,hq],hr⟩
 ·cases h
theorem ad8 {src dst:Nat} {si di ei:TI} (hs:TOk P src si) (hd:TOk P dst di) (he:TOk P si.elem ei) (hsl:qR si=true) (hb:ei.ik=some .u8) (hds:di.str=true) {a z:D} {x:Value} (ha:bP w F a x) (h:Rh a=some z) :
  ∃v,(convert src dst x).run P w = .ok v w∧z = .v v∧flat v=true:=by
 unfold Rh at h
 split at h
 ·rename_i zz l
  obtain⟨b,hbb,rfl⟩:=ahA.1 h
  obtain⟨A,c,us,rfl,g1,g2,g3,g4⟩:=pI ha
  obtain⟨hu,_⟩:=qH hs hsl
  have hel:=he.ik _ hb
  have hst:=(hd.str hds).1
  refine⟨_,?_,rfl,rfl⟩
  rw [run_convert_bytes_string w src dst si.elem A _ c hu hel hst]
  by_cases hl:l=[]
  ·subst hl
   simp [sS] at hbb
   subst hbb
   cases A with
   | none=>simp [Conv.bytesToString];rfl
   | some A=>simp [Conv.bytesToString,loadCells,loadCellsFrom];rfl
  ·obtain⟨bb,o,rfl,_,hc⟩:=g4 hl
   have key:∀(l:List D) (us:List Value) (b:List UInt8),sS l=some b→bZ w F l us→∃ns:List Int,us=ns.map (ain .u8)∧ns.map (fun n=>ah4 n.toNat)=b∧l.length=ns.length:=by
    intro l
    induction l with
    | nil =>
     intro us b h hr
     simp [sS] at h
     rw [aV] at hr
     exact⟨[],by simp [hr],by simp [h],rfl⟩
    | cons d l ih =>
     intro us b h hr
     unfold sS at h
     split at h
     ·cases ‹_=[]›
     ·rename_i n l' e
      cases e
      obtain⟨b',hb',rfl⟩:=ahA.1 h
      obtain⟨v1,v2,rfl,h1,h2⟩:=aw.1 hr
      simp only [RepC] at h1
      obtain⟨rfl,_⟩:=h1
      obtain⟨ns,rfl,e2,e3⟩:=ih v2 b' hb' h2
      exact⟨n::ns,by simp,by simp [e2],by simp [e3]⟩
     ·cases h
   obtain⟨ns,rfl,e2,e3⟩:=key l us b hbb g2
   have hlc:(loadCells ⟨bb,o,none⟩ l.length).run P w = .ok (ns.map (ain .u8)).toArray w:=by
    have:=run_loadCells_list (P:=P) w ⟨bb,o,none⟩ (ns.map (ain .u8)) (fun j v hj=>by rw [ahJ];exact hc j v hj)
    rwa [List.length_map,←e3] at this
   rw [run_bytesToString w _ _ c ns hlc]
   congr 2
   have:∀(ns:List Int) (acc:ByteArray),ns.foldl (fun r n=>r.push (ah4 n.toNat)) acc=⟨acc.data++(ns.map (fun n=>ah4 n.toNat)).toArray⟩:=by
    intro ns
    induction ns with
    | nil=>intro acc;simp
    | cons n ns ih =>
     intro acc
     rw [aim,ih]
     congr 1
     simp [ByteArray.push]
   rw [this,e2]
   congr 1
   show #[]++b.toArray=b.toArray
   simp
 ·cases h
theorem Gy {l vs:List D} {us ws:List Value} (hl:l.all D.single=true) (hv:vs.all D.single=true) (hr:bZ w F l us) (hw:bZ w F vs ws) (f:Nat) :
  bZ w F (putCells l f vs) (us.take f++ws++us.drop (f+ws.length))∧(putCells l f vs).all D.single=true:=by
 have e:=(dB _ _ hv hw).1
 refine⟨?_,?_⟩
 ·unfold putCells
  rw [e]
  exact(eO _ _ _).2 ⟨_,_,rfl,(eO _ _ _).2 ⟨_,_,rfl,(pB l us hl hr f).1,hw⟩,(pB l us hl hr _).2⟩
 ·unfold putCells
  rw [all_append,all_append,WX hl,vx hl,hv];rfl
theorem Pa:∀(vs:List Value) (off k:Nat) (us:List Value),off+k+vs.length≤us.length →
  ((vs.zipIdx k).foldl (fun(cs:Array Value) (p:Value × Nat)=>cs.setIfInBounds (off+p.2) p.1) us.toArray)=(us.take (off+k)++vs++us.drop (off+k+vs.length)).toArray
 | [],off,k,us,h=>by simp
 | v::vs,off,k,us,h=>by
  simp only [aik] at h
  have ih:=Pa vs off (k+1) (us.set (off+k) v) (by simp;omega)
  simp only [List.zipIdx_cons,aim,List.setIfInBounds_toArray]
  rw [ih]
  congr 1
  have hs:us.set (off+k) v=us.take (off+k)++v::us.drop (off+k+1):=List.set_eq_take_append_cons_drop.trans (by rw [if_pos (by omega)])
  have hl:(us.take (off+k)).length=off+k:=by rw [ahK];omega
  rw [hs,←aid]
  have e3:us.drop (off+k+(v::vs).length)=(us.drop (off+k+1)).drop vs.length:=by rw [List.drop_drop,aik];congr 1;omega
  rw [e3]
  generalize us.take (off+k)=p at hl
  generalize us.drop (off+k+1)=r
  rw [←hl,List.take_length_add_append,show p.length+1+vs.length=p.length+(vs.length+1) from by omega,List.drop_length_add_append]
  simp
theorem WQ (place:Nat→Option (Nat × Nat)):∀(parts:List (Nat × Value)) (ps:List (Nat × Nat)) (xs cs cs':List D) (us:List Value),parts.map (fun p=>place p.1)=ps.map some→Gg w F xs (parts.map (·.2))→cs.all D.single=true→bZ w F cs us →
  HR ps xs cs=some cs'→∃us',Instr.fill place us.toArray parts=some us'.toArray∧bZ w F cs' us'∧cs'.all D.single=true
 | [],ps,xs,cs,cs',us,hp,hx,hs,hr,h=>by
  cases ps<;>simp at hp
  cases xs with
  | cons _ _=>exact hx.elim
  | nil =>
   simp [HR] at h
   subst h
   exact⟨us,rfl,hr,hs⟩
 | (i,v)::parts,ps,xs,cs,cs',us,hp,hx,hs,hr,h=>by
  cases ps with
  | nil=>simp at hp
  | cons p ps =>
  cases xs with
  | nil=>exact hx.elim
  | cons x xs =>
   obtain⟨off,n⟩:=p
   simp only [ahz,ahx] at hp
   simp only [HR] at h
   split at h
   ·rename_i hc
    obtain⟨h1,h2,h3⟩:=hc
    have hxr:bP w F x v:=hx.1.rep (by intro e;subst e;simp [D.cells,D.single] at h3)
    obtain⟨_,g2,g3⟩:=gq hxr (wz h3)
    obtain⟨p1,p2⟩:=Gy hs g2 hr g3 off
    have e1:=(dB _ _ g2 g3).1
    have e2:=(dB _ _ hs hr).1
    obtain⟨us',q1,q2,q3⟩:=WQ place parts ps xs _ cs' _ hp.2 hx.2 p2 p1 h
    refine⟨us',?_,q2,q3⟩
    simp only [Instr.fill,hp.1]
    have e3:v.cells.size=n:=by rw [←h1,←e1];simp
    rw [if_neg (by simp [e3];omega)]
    have hk:=Pa v.cells.toList off 0 us (by rw [e1,h1];omega)
    simp only [Nat.add_zero] at hk
    rw [←hk] at q1
    rw [←q1]
    congr 1
    rw [←Array.foldl_toList]
    simp
   ·cases h
end
end Go.V

namespace Go.V
open Go.RowKit
def aA (δ:List D):List Nat→List D
 | []=>[]
 | s::ss=>nth δ s::aA δ ss
theorem fT {R:Type}:∀(δ:List D) (s:Nat) (k:D→R),iB δ s k=k (nth δ s)
 | [],_,_=>by simp [iB,nth]
 | _::_,0,_=>by simp [iB,nth]
 | _::l,s+1,k=>by simpa [iB,nth] using fT l s k
theorem Vc {R:Type}:∀(δ:List D) (s:Nat) (d:D) (k:List D→R),Yk δ s d k=k (iL δ s d)
 | [],_,_,_=>by simp [Yk,iL]
 | _::_,0,_,_=>by simp [Yk,iL]
 | _::l,s+1,d,k=>by simpa [Yk,iL] using Vc l s d _
theorem cO {R:Type} (δ:List D):∀(ss:List Nat) (k:List D→R),AA δ ss k=k (aA δ ss)
 | [],_=>by simp [AA,aA]
 | s::ss,k=>by simp only [AA,aA,fT];exact cO δ ss _
theorem cT {R:Type}:∀(δ:List D) (ss:List Nat) (ds:List D) (k:List D→R),eN δ ss ds k=k (az δ ss ds)
 | _,[],_,_=>by simp [eN,az]
 | δ,s::ss,[],k=>by simp only [eN,az,Vc];exact cT _ ss [] k
 | δ,s::ss,d::ds,k=>by simp only [eN,az,Vc];exact cT _ ss ds k
theorem ri {α:Type}:∀(a b:List α),app a b=a++b
 | [],_=>rfl
 | _::l,b=>by simp [app,ri l b]
theorem AY {α β:Type} (f:α→β):∀(l:List α),tU f l=l.map f
 | []=>rfl
 | _::l=>by simp [tU,AY f l]
theorem qG {α:Type}:∀(l:List α),oi l=l.length
 | []=>rfl
 | _::l=>by simp [oi,qG l]
theorem HM {α:Type}:∀(n:Nat) (l:List α),xV n l=l.drop n
 | 0,l=>by simp [xV]
 | n+1,[]=>by simp [xV]
 | n+1,_::l=>by simp [xV,HM n l]
theorem jl:∀(n:Nat) (l:List Nat),oc n l=decide (n∈l)
 | _,[]=>by simp [oc]
 | n,m::l=>by
  simp only [oc]
  cases h:aht n m
  ·have:n≠m:=fun e=>by subst e;simp at h
   simp [jl n l,this]
  ·have:n=m:=ahI h
   simp [this]
theorem Gl {α:Type}:∀(l:List α) (n:Nat),Xu l n=l[n]?
 | [],_=>by simp [Xu]
 | _::_,0=>by simp [Xu]
 | _::l,n+1=>by simpa [Xu] using Gl l n
theorem iZ:∀(l:List D) (n:Nat),nth l n=l.getD n .bad
 | [],_=>by simp [nth]
 | _::_,0=>by simp [nth]
 | _::l,n+1=>by simpa [nth] using iZ l n
theorem iR:∀(δ:List D) (s:Nat) (d:D),(iL δ s d).length=δ.length
 | [],_,_=>by simp [iL]
 | _::_,0,_=>by simp [iL]
 | _::l,s+1,d=>by simp [iL,iR l s d]
theorem dI:∀(δ:List D) (ss:List Nat) (ds:List D),(az δ ss ds).length=δ.length
 | _,[],_=>by simp [az]
 | δ,s::ss,[]=>by simp [az,dI _ ss,iR]
 | δ,s::ss,d::ds=>by simp [az,dI _ ss,iR]
theorem fe:∀(δ:List D) (s i:Nat) (d:D),s≠i→nth (iL δ i d) s=nth δ s
 | [],_,_,_,_=>by simp [iL]
 | _::_,0,0,_,h=>absurd rfl h
 | _::_,_+1,0,_,_=>by simp [nth]
 | _::_,0,_+1,_,_=>by simp [nth]
 | _::l,s+1,i+1,d,h=>by simpa [iL,nth] using fe l s i d (by omega)
theorem cI:∀(δ:List D) (s:Nat) (d:D),nth (iL δ s d) s=if s<δ.length then d else .bad
 | [],_,_=>by simp [nth]
 | _::_,0,_=>by simp [nth]
 | _::l,s+1,d=>by simpa [iL,nth] using cI l s d
theorem aE:∀(ss:List Nat) (δ:List D) (ds:List D) (s:Nat),s∉ss→nth (az δ ss ds) s=nth δ s
 | [],_,_,_,_=>by simp [az]
 | i::ss,δ,[],s,h=>by
  simp only [ahN,not_or] at h
  simp only [az]
  rw [aE ss _ _ s h.2,fe _ _ _ _ h.1]
 | i::ss,δ,d::ds,s,h=>by
  simp only [ahN,not_or] at h
  simp only [az]
  rw [aE ss _ _ s h.2,fe _ _ _ _ h.1]
theorem mM:∀(ss:List Nat) (δ:List D) (s:Nat),s∈ss→nth (az δ ss []) s = .bad
 | i::ss,δ,s,h=>by
  simp only [az]
  by_cases hs:s∈ss
  ·exact mM ss _ s hs
  ·rw [aE ss _ _ s hs]
   have:s=i:=by simpa [hs] using h
   subst this
   rw [cI]
   split<;>rfl
theorem zO:∀(ss ts:List Nat) (δ:List D) (ds:List D),ds.length=ss.length→az δ (ss++ts) ds=az (az δ ss ds) ts []
 | [],ts,δ,ds,h=>by
  have:ds=[]:=ahV h
  subst this
  simp [az]
 | s::ss,ts,δ,d::ds,h=>by
  simp only [aij,az]
  exact zO ss ts _ ds (by simpa using h)
theorem ny:∀(ss:List Nat) (δ:List D) (s:Nat),nth (az δ ss []) s=nth δ s∨nth (az δ ss []) s = .bad:=by
 intro ss δ s
 by_cases h:s∈ss
 ·exact .inr (mM ss δ s h)
 ·exact .inl (aE ss δ [] s h)
theorem OE {r:Nat}:∀(K:List Kd) (n s:Nat),(aC K s = .via r∨aC K s = .ref r)→n+s∈hP r K n
 | [],n,s,h=>by simp [aC] at h
 | k::K,n,0,h=>by
  simp only [aC] at h
  rcases h with rfl | rfl<;>simp [hP]
 | k::K,n,s+1,h=>by
  have ih:=OE K (n+1) s (by simpa [aC] using h)
  have e:n+(s+1)=n+1+s:=by omega
  rw [e]
  cases k<;>simp only [hP]<;>first
   | exact ih
   | (split<;>first | exact ih | exact aic _ ih)
theorem mf {K:List Kd} {r s:Nat} (h:aC K s = .via r∨aC K s = .ref r):∀(rs:List Nat),r∈rs→s∈bq K rs
 | q::rs,hr=>by
  simp only [bq,ri,ah3]
  rcases ahN.1 hr with rfl | hr
  ·exact .inl (by have:=OE K 0 s h;simpa using this)
  ·exact .inr (mf h rs hr)
theorem Wm {r:Nat}:∀(K:List Kd) (n s:Nat),s∈hP r K n→n≤s∧(aC K (s - n) = .via r∨aC K (s - n) = .ref r)
 | [],n,s,h=>by simp [hP] at h
 | k::K,n,s,h=>by
  have ih:s∈hP r K (n+1)→n≤s∧(aC (k::K) (s - n) = .via r∨aC (k::K) (s - n) = .ref r):=by
   intro hm
   obtain⟨h1,h2⟩:=Wm K (n+1) s hm
   have e:s - n=(s - (n+1))+1:=by omega
   rw [e]
   exact⟨by omega,by simpa [aC] using h2⟩
  cases k<;>simp only [hP] at h<;>try exact ih h
  all_goals
   split at h
   ·rename_i hb
    have:=ahI hb
    subst this
    rcases ahN.1 h with rfl | h
    ·simp [aC]
    ·exact ih h
   ·exact ih h
theorem AQ {K:List Kd} {r s:Nat} (h:s∈hP r K 0):aC K s = .via r∨aC K s = .ref r:=by simpa using (Wm K 0 s h).2
theorem wy {K:List Kd} {s:Nat}:∀(rs:List Nat),s∈bq K rs→∃r∈rs,aC K s = .via r∨aC K s = .ref r
 | [],h=>by simp [bq] at h
 | r::rs,h=>by
  simp only [bq,ri,ah3] at h
  rcases h with h | h
  ·exact⟨r,by simp,AQ h⟩
  ·obtain⟨q,hq,hk⟩:=wy rs h
   exact⟨q,by simp [hq],hk⟩
def en (K:List Kd) (r:Nat):Prop :=
 match aC K r with
 | .own _ _ _=>True
 | .box _ _ _=>True
 | _=>False
theorem Zm {K:List Kd} {r q:Nat} (h:en K r):r∉hP q K 0:=by
 intro hm
 rcases AQ hm with e | e<;>simp [en,e] at h
theorem tW {K:List Kd} {r:Nat} (h:en K r) (rs:List Nat):r∉bq K rs:=by
 intro hm
 obtain⟨q,_,e⟩:=wy rs hm
 rcases e with e | e<;>simp [en,e] at h
theorem nZ {K:List Kd} {r:Nat} (h:po K r=true):en K r:=by
 unfold po at h
 unfold en
 split at h<;>simp_all
def av (a:Act) (s:Nat):Value:=a.tmps.getD s undef
def FB (F:Nat→Prop) (B:Nat):Nat→Nat→Prop
 | 0,_=>False
 | 1,b=>F b∧B≤b
 | _,b=>F b
def lj (w:World) (F:Nat→Prop) (own:Nat→Prop) (z:Nat) (d:D) (y:Value):Prop :=
 ∃l,d = .arr z l∧(∀e∈l,e.width=z)∧((y = .slice none 0 0∧l=[]) ∨
  ∃g o c us cs e,y = .slice (some ⟨g,o,none⟩) l.length c∧l.length≤c∧w.heap[g]?=some (.cells cs e (0,0))∧o+c*z≤cs.size∧bZ w F l us ∧
   (∀(i:Nat) (u:Value),us[i]?=some u→cs[o+i]?=some u)∧own g)
def Fv (w:World) (F:Nat→Prop) (own:Nat→Prop) (n:Nat) (d:D) (y:Value):Prop :=
 ∃l us g e,d = .agg l∧y = .pointer (some ⟨g,0,none⟩)∧w.heap[g]?=some (.cells (List.toArray us) e (0,0))∧bZ w F l us∧l.all D.single=true∧l.length=n∧own g
def ym (k:Kd) (y:Value) (i f:Nat) (p:Value):Prop :=
 match k with
 | .own z _ _=>∃g o n c,y = .slice (some ⟨g,o,none⟩) n c∧p = .pointer (some ⟨g,o+i*z+f,none⟩)
 | .box _ _ _=>∃g,y = .pointer (some ⟨g,0,none⟩)∧p = .pointer (some ⟨g,f,none⟩)
 | _=>False
theorem md {K:List Kd} {r i f:Nat} {y p:Value} (h:ym (aC K r) y i f p):en K r:=by
 unfold ym at h
 unfold en
 split at h<;>simp_all
def Kf (B:Nat) (F:Nat→Prop) (O:Nat→Option (Nat × Nat)) (w:World) (id:Nat × Nat) (k:Kd) (d:D) (y:Value):Prop :=
 d = .bad∨match k with
  | .dat lv=>bP w (FB F B lv) d y
  | .own z lv io=>lj w (FB F B lv) (fun g=>O g=some id∧(io=false→B≤g)) z d y
  | .box n lv io=>Fv w (FB F B lv) (fun g=>O g=some id∧(io=false→B≤g)) n d y
  | _=>False
def IZ (K:List Kd) (B:Nat) (F:Nat→Prop) (O:Nat→Option (Nat × Nat)) (a:Act) (w:World) (δ:List D) (s:Nat):Prop :=
 nth δ s = .bad∨match aC K s with
  | .via r=>av a s=av a r∧nth δ s = .ref 0 0∧nth δ r ≠ .bad∧po K r=true
  | .ref r=>∃i f,nth δ s = .ref i f∧nth δ r ≠ .bad∧ym (aC K r) (av a r) i f (av a s)
  | .tup ms=>∃l vs,nth δ s = .tup l∧av a s = .tuple vs∧∀i,Kf B F O w (s,i+1) (aC ms i) (nth l i) (vs.getD i undef)
  | .no=>True
  | k=>Kf B F O w (s,0) k (nth δ s) (av a s)
def gOk (G:List (Nat × (Obj→Prop))) (w:World) (F:Nat→Prop):Prop:=∀p∈G,F p.1∧∃o,w.heap[p.1]?=some o∧p.2 o
theorem gT {G:List (Nat × (Obj→Prop))} {w w':World} {F F':Nat→Prop} (hF:∀b,F b→F' b) (hw:∀b,F b→w'.heap[b]?=w.heap[b]?) (h:gOk G w F):gOk G w' F':=fun p hp=>by
 obtain⟨h1,o,h2,h3⟩:=h p hp
 exact⟨hF _ h1,o,(hw _ h1).trans h2,h3⟩
structure Inv (c:Cx) (B:Nat) (X:Nat→Prop) (w0:World) (F0 F:Nat→Prop) (O:Nat→Option (Nat × Nat)) (a:Act) (w:World) (δ:List D):Prop where
 la:a.tmps.size=c.K.length
 ld:δ.length=c.K.length
 df:a.defers=[]
 slot:∀s,IZ c.K B F O a w δ s
 fl:∀b,F b→b<w.heap.size∧O b=none
 ol:∀b p,O b=some p→b<w.heap.size∧(B≤b∨X b)
 f0:∀b,F0 b→F b
 fn:∀b,F b→F0 b∨B≤b
 bb:B≤w.heap.size
 os:w.os=w0.os
 tape:w.tape=w0.tape
 output:w.output=w0.output
 keep:∀b,b<B→¬X b→w.heap[b]?=w0.heap[b]?
 gl:gOk c.G w F
theorem jC {F F':Nat→Prop} {B lv:Nat} (h:∀b,F b→F' b):∀b,FB F B lv b→FB F' B lv b:=by
 intro b hb
 unfold FB at *
 split at hb<;>simp_all
theorem hN {F:Nat→Prop} {B lv:Nat}:∀b,FB F B lv b→F b:=by
 intro b hb
 unfold FB at *
 split at hb<;>simp_all
theorem pc {F:Nat→Prop} {B lv lv':Nat} (h:lv≤lv'):∀b,FB F B lv b→FB F B lv' b:=by
 intro b hb
 match lv,lv',h with
 | 0,_,_=>exact hb.elim
 | 1,1,_=>exact hb
 | 1,n+2,_=>exact hb.1
 | m+2,n+2,_=>exact hb
theorem SP {w w':World} {F F':Nat→Prop} {own own':Nat→Prop} {z:Nat} {d:D} {y:Value} (hF:∀b,F b→F' b) (hw:∀b,F b→w'.heap[b]?=w.heap[b]?)
  (ho:∀g,own g→own' g∧w'.heap[g]?=w.heap[g]?) (h:lj w F own z d y):lj w' F' own' z d y:=by
 obtain⟨l,h1,h2,h3⟩:=h
 refine⟨l,h1,h2,?_⟩
 rcases h3 with h3 | ⟨g,o,c,us,cs,e,a1,a2,a3,a4,a5,a6,a7⟩
 ·exact .inl h3
 ·exact .inr ⟨g,o,c,us,cs,e,a1,a2,(ho g a7).2.trans a3,a4,cB hF hw _ _ a5,a6,(ho g a7).1⟩
theorem Bb {w w':World} {F F':Nat→Prop} {own own':Nat→Prop} {n:Nat} {d:D} {y:Value} (hF:∀b,F b→F' b) (hw:∀b,F b→w'.heap[b]?=w.heap[b]?)
  (ho:∀g,own g→own' g∧w'.heap[g]?=w.heap[g]?) (h:Fv w F own n d y):Fv w' F' own' n d y:=by
 obtain⟨l,us,g,e,a1,a2,a3,a4,a5,a6,a7⟩:=h
 exact⟨l,us,g,e,a1,a2,(ho g a7).2.trans a3,cB hF hw _ _ a4,a5,a6,(ho g a7).1⟩
theorem AN {B:Nat} {w w':World} {F F':Nat→Prop} {O O':Nat→Option (Nat × Nat)} {id id':Nat × Nat} {k:Kd} {d:D} {y:Value} (hF:∀b,F b→F' b) (hw:∀b,F b→w'.heap[b]?=w.heap[b]?)
  (ho:∀g,O g=some id→O' g=some id'∧w'.heap[g]?=w.heap[g]?) (h:Kf B F O w id k d y):Kf B F' O' w' id' k d y:=by
 rcases h with h | h
 ·exact .inl h
 ·refine .inr ?_
  cases k
  case dat lv=>exact ch (jC hF) (fun b hb=>hw b (hN b hb)) h
  case own z lv io=>exact SP (jC hF) (fun b hb=>hw b (hN b hb)) (fun g hg=>⟨⟨(ho g hg.1).1,hg.2⟩,(ho g hg.1).2⟩) h
  case box n lv io=>exact Bb (jC hF) (fun b hb=>hw b (hN b hb)) (fun g hg=>⟨⟨(ho g hg.1).1,hg.2⟩,(ho g hg.1).2⟩) h
  all_goals exact h
theorem Inv.step {c:Cx} {B:Nat} {X:Nat→Prop} {w0:World} {F0 F F':Nat→Prop} {O O':Nat→Option (Nat × Nat)} {a a':Act} {w w':World} {δ δ':List D}
  (h:Inv c B X w0 F0 F O a w δ) (U:Nat→Prop) (la:a'.tmps.size=a.tmps.size) (ld:δ'.length=δ.length) (df:a'.defers=a.defers)
  (hs:∀s,¬U s→av a' s=av a s∧(nth δ' s=nth δ s∨nth δ' s = .bad))
  (hF:∀b,F b→F' b) (hw:∀b,F b→w'.heap[b]?=w.heap[b]?)
  (ho:∀b p,O b=some p→¬U p.1→O' b=some p∧w'.heap[b]?=w.heap[b]?)
  (hd:∀s r,¬U s→(aC c.K s = .via r∨aC c.K s = .ref r)→nth δ' s ≠ .bad→av a' r=av a r∧nth δ' r ≠ .bad)
  (hU:∀s,U s→IZ c.K B F' O' a' w' δ' s)
  (fl:∀b,F' b→b<w'.heap.size∧O' b=none) (ol:∀b p,O' b=some p→b<w'.heap.size∧(B≤b∨X b)) (fn:∀b,F' b→F b∨B≤b) (sz:w.heap.size≤w'.heap.size)
  (os:w'.os=w.os) (tape:w'.tape=w.tape) (output:w'.output=w.output) (keep:∀b,b<B→¬X b→w'.heap[b]?=w.heap[b]?):Inv c B X w0 F0 F' O' a' w' δ':=by
 refine⟨la.trans h.la,ld.trans h.ld,df.trans h.df,fun s=>?_,fl,ol,fun b hb=>hF b (h.f0 b hb),fun b hb=>?_,Nat.le_trans h.bb sz,os.trans h.os,tape.trans h.tape,output.trans h.output,fun b h1 h2=>(keep b h1 h2).trans (h.keep b h1 h2),gT hF hw h.gl⟩
 ·by_cases hu:U s
  ·exact hU s hu
  ·obtain⟨e1,e2⟩:=hs s hu
   rcases e2 with e2 | e2
   case inr=>exact .inl e2
   by_cases hb:nth δ s = .bad
   ·exact .inl (e2.trans hb)
   have hb':nth δ' s ≠ .bad:=by rw [e2];exact hb
   have h0:=(h.slot s).resolve_left hb
   refine .inr ?_
   have lone:∀(k:Kd) (i:Nat) (d:D) (y:Value),Kf B F O w (s,i) k d y→Kf B F' O' w' (s,i) k d y:=fun k i d y hl=>AN hF hw (fun g hg=>ho g _ hg hu) hl
   have hdd:=hd s
   rw [e1,e2]
   generalize hk:aC c.K s=k at h0 hdd
   cases k
   case via r =>
    obtain⟨b1,b2,b3,b4⟩:=h0
    obtain⟨d1,d2⟩:=hdd r hu (.inl rfl) hb'
    exact⟨b1.trans d1.symm,b2,d2,b4⟩
   case ref r =>
    obtain⟨i,f,b1,b2,b3⟩:=h0
    obtain⟨d1,d2⟩:=hdd r hu (.inr rfl) hb'
    exact⟨i,f,b1,d2,by rw [d1];exact b3⟩
   case tup ms =>
    obtain⟨l,vs,b1,b2,b3⟩:=h0
    exact⟨l,vs,b1,b2,fun i=>lone _ _ _ _ (b3 i)⟩
   case no=>trivial
   all_goals exact lone _ _ _ _ h0
 ·rcases fn b hb with hb | hb
  ·exact h.fn b hb
  ·exact .inr hb
theorem acu {a:Act} {d s:Nat} {v:Value}:av (a.put (some d) v) s=if s=d∧d<a.tmps.size then v else av a s:=by
 simp only [av,Act.put,Array.getD_eq_getD_getElem?,Array.getElem?_setIfInBounds]
 by_cases hs:d=s
 ·subst hs
  by_cases hd:d<a.tmps.size
  ·simp [hd]
  ·simp [hd]
 ·simp [hs,Ne.symm hs]
theorem ej {a:Act} {d s:Nat} {v:Value} (h:s≠d):av (a.put (some d) v) s=av a s:=by rw [acu,if_neg (by simp [h])]
theorem ie {a:Act} {d:Nat} {v:Value} (h:d<a.tmps.size):av (a.put (some d) v) d=v:=by rw [acu,if_pos ⟨rfl,h⟩]
theorem mV {a:Act} {d:Nat} {v:Value}:(a.put (some d) v).tmps.size=a.tmps.size:=by simp [Act.put]
theorem Inv.root {c:Cx} {B:Nat} {X:Nat→Prop} {w0:World} {F0 F:Nat→Prop} {O:Nat→Option (Nat × Nat)} {a:Act} {w:World} {δ:List D}
  (h:Inv c B X w0 F0 F O a w δ) {s r:Nat} (hv:aC c.K s = .via r∨aC c.K s = .ref r) (hb:nth δ s ≠ .bad):en c.K r∧nth δ r ≠ .bad:=by
 have h0:=(h.slot s).resolve_left hb
 rcases hv with hv | hv<;>rw [hv] at h0
 ·exact⟨nZ h0.2.2.2,h0.2.2.1⟩
 ·obtain⟨_,_,_,h2,h3⟩:=h0
  exact⟨md h3,h2⟩
def Td (K:List Kd) (B:Nat) (F:Nat→Prop) (a:Act) (w:World) (δ:List D) (d:Nat) (z:D) (y:Value):Prop :=
 z = .bad∨match aC K d with
  | .dat lv=>bP w (FB F B lv) z y
  | .via r=>y=av a r∧z = .ref 0 0∧nth δ r ≠ .bad∧po K r=true
  | .ref r=>∃i f,z = .ref i f∧nth δ r ≠ .bad∧ym (aC K r) (av a r) i f y
  | .no=>True
  | _=>False
theorem Inv.put {c:Cx} {B:Nat} {X:Nat→Prop} {w0:World} {F0 F:Nat→Prop} {O:Nat→Option (Nat × Nat)} {a:Act} {w:World} {δ:List D}
  (h:Inv c B X w0 F0 F O a w δ) {d:Nat} {z:D} {y:Value} (hk:Td c.K B F a w δ d z y) :
  Inv c B X w0 F0 F O (a.put (some d) y) w (az δ (d::hP d c.K 0) [z]):=by
 have e0:az δ (d::hP d c.K 0) [z]=az (iL δ d z) (hP d c.K 0) []:=by simp [az]
 rw [e0]
 have keepr:∀r,en c.K r→r≠d→nth (az (iL δ d z) (hP d c.K 0) []) r=nth δ r:=fun r hr hd=>by
  rw [aE _ _ _ _ (Zm hr),fe _ _ _ _ hd]
 refine h.step (fun s=>s=d) mV (by rw [dI,iR]) rfl (fun s hs=>⟨ej hs,?_⟩) (fun _ hb=>hb) (fun _ _=>rfl) (fun _ _ h _=>⟨h,rfl⟩) (fun s r hs hv hb=>?_) (fun s hs=>?_) h.fl h.ol (fun _ hb=>.inl hb) (ahX _) rfl rfl rfl (fun _ _ _=>rfl)
 ·rcases ny (hP d c.K 0) (iL δ d z) s with e | e
  ·exact .inl (e.trans (fe _ _ _ _ hs))
  ·exact .inr e
 ·by_cases hr:r=d
  ·subst hr
   exact absurd (mM _ _ _ (by have:=OE c.K 0 s hv;simpa using this)) hb
  ·refine⟨ej hr,?_⟩
   have hs':s∉hP d c.K 0:=fun hm=>hb (mM _ _ _ hm)
   rw [aE _ _ _ _ hs',fe _ _ _ _ hs] at hb
   obtain⟨h1,h2⟩:=h.root hv hb
   rw [keepr r h1 hr]
   exact h2
 ·subst hs
  by_cases hdl:s<c.K.length
  case neg =>
   refine .inl ?_
   rcases ny (hP s c.K 0) (iL δ s z) s with e | e
   ·rw [e,cI,if_neg (by rw [h.ld];exact hdl)]
   ·exact e
  have hav:av (a.put (some s) y) s=y:=ie (by rw [h.la];exact hdl)
  rcases ny (hP s c.K 0) (iL δ s z) s with e | e
  case inr=>exact .inl e
  have ez:nth (az (iL δ s z) (hP s c.K 0) []) s=z:=by rw [e,cI,if_pos (by rw [h.ld];exact hdl)]
  rcases hk with hk | hk
  ·exact .inl (ez.trans hk)
  ·refine .inr ?_
   rw [ez,hav]
   generalize hks:aC c.K s=k at hk
   have hne:∀r,en c.K r→(∀z lv io,k ≠ .own z lv io)→(∀n lv io,k ≠ .box n lv io)→r≠s:=by
    intro r hr h1 h2 e
    subst e
    unfold en at hr
    rw [hks] at hr
    cases k
    case own z lv io=>exact h1 _ _ _ rfl
    case box n lv io=>exact h2 _ _ _ rfl
    all_goals exact hr
   cases k
   case dat lv=>exact .inr hk
   case via r =>
    obtain⟨b1,b2,b3,b4⟩:=hk
    have hr:=hne r (nZ b4) (by intros;simp) (by intros;simp)
    exact⟨by rw [ej hr];exact b1,b2,by rw [keepr r (nZ b4) hr];exact b3,b4⟩
   case ref r =>
    obtain⟨i,f,b1,b2,b3⟩:=hk
    have hr:=hne r (md b3) (by intros;simp) (by intros;simp)
    exact⟨i,f,b1,by rw [keepr r (md b3) hr];exact b2,by rw [ej hr];exact b3⟩
   case no=>trivial
   all_goals exact hk.elim
theorem Inv.forget {c:Cx} {B:Nat} {X:Nat→Prop} {w0:World} {F0 F:Nat→Prop} {O:Nat→Option (Nat × Nat)} {a:Act} {w:World} {δ δ':List D}
  (h:Inv c B X w0 F0 F O a w δ) (hl:δ'.length=δ.length) (hs:∀s,nth δ' s=nth δ s∨nth δ' s = .bad) (hr:∀s r,(aC c.K s = .via r∨aC c.K s = .ref r)→nth δ' s ≠ .bad→nth δ' r ≠ .bad):Inv c B X w0 F0 F O a w δ' :=
 h.step (fun _=>False) rfl hl rfl (fun s _=>⟨rfl,hs s⟩) (fun _ hb=>hb) (fun _ _=>rfl) (fun _ _ h _=>⟨h,rfl⟩) (fun s r _ hv hb=>⟨rfl,hr s r hv hb⟩) (fun _ h=>h.elim) h.fl h.ol (fun _ hb=>.inl hb) (ahX _) rfl rfl rfl (fun _ _ _=>rfl)
theorem Inv.dat {c:Cx} {B:Nat} {X:Nat→Prop} {w0:World} {F0 F:Nat→Prop} {O:Nat→Option (Nat × Nat)} {a:Act} {w:World} {δ:List D}
  (h:Inv c B X w0 F0 F O a w δ) {s lv:Nat} (hk:aC c.K s = .dat lv):dc w (FB F B lv) (nth δ s) (av a s):=by
 rcases h.slot s with hb | h0
 ·exact .inl hb
 ·rw [hk] at h0
  exact h0
end Go.V

namespace Go.V
open Go.RowKit
def fI (c:Cx) (A:Ac) (δ:List D) (k:List D→Option Out):Option Out :=
 match A with
 | .one rd d h=>(h (aA δ rd)).bind fun z=>k (az δ (d::hP d c.K 0) [z])
 | .many rd hw cw fn=>fn (aA δ rd) fun outs=>k (az δ (hw++(cw++bq c.K hw)) outs)
def Next (c:Cx) (B:Nat) (X:Nat→Prop) (w0:World) (F0:Nat→Prop) (k:List D→Option Out) (r:Out) (a:Act) (w:World):Prop :=
 ∃F O δ,Inv c B X w0 F0 F O a w δ∧k δ=some r
section
variable {P:Program} {c:Cx} {B:Nat} {X:Nat→Prop} {w0:World} {F0 F:Nat→Prop} {O:Nat→Option (Nat × Nat)} {a:Act} {w:World} {δ:List D}
theorem dH:∀(xs:List Operand),fE xs (aA δ (vm xs))=xs.map (opD δ)
 | []=>rfl
 | .tmp t::xs=>by simp [fE,aA,opD,dH xs]
 | .const v::xs=>by simp [fE,vm,opD,dH xs]
 | .func f::xs=>by simp [fE,vm,opD,dH xs]
 | .global g::xs=>by simp [fE,vm,opD,dH xs]
theorem AM (a b:Nat):Ry a b=max a b:=by
 unfold Ry
 cases h:ahy a b
 ·have:¬a≤b:=fun hl=>by rw [Nat.ble_eq_true_of_le hl] at h;cases h
  simp only
  omega
 ·have:=Nat.le_of_ble_eq_true h
  simp only
  omega
theorem cM {a b:Nat}:ahy a b=true↔a≤b:=⟨Nat.le_of_ble_eq_true,Nat.ble_eq_true_of_le⟩
theorem ba {a b:Nat}:aht a b=true↔a=b:=⟨ahI,fun h=>by subst h;simp⟩
theorem qV {K:List Kd} {n:Nat}:∀{xs:List Operand},qh K xs≤n→∀x∈xs,fU K x≤n
 | [],_,x,hx=>by simp at hx
 | y::ys,h,x,hx=>by
  simp only [qh,AM] at h
  rcases ahN.1 hx with rfl | hx
  ·omega
  ·exact qV (by omega) x hx
theorem dU (a:Act) (t:Nat):a.eval (.tmp t)=av a t:=rfl
theorem Inv.opd (h:Inv c B X w0 F0 F O a w δ) {x:Operand} (hx:fU c.K x≤2):dc w (FB F B (fU c.K x)) (opD δ x) (a.eval x):=by
 cases x with
 | tmp t =>
  simp only [fU] at hx ⊢
  split at hx
  ·rename_i lv hk
   exact h.dat hk
  ·omega
 | const v =>
  simp only [fU] at hx ⊢
  split at hx
  case h_2=>omega
  rename_i hv
  refine .inr ?_
  simp only [opD,Act.eval]
  unfold okC at hv
  split at hv<;>first
   | (cases hv;done)
   | exact kO
   | exact cU rfl
 | func f =>
  refine .inr ?_
  simp only [Act.eval,bP,RepC]
  exact⟨[],rfl,aV.2 rfl⟩
 | global g=>simp only [fU] at hx;omega
theorem Ya {o:Oper} {y:Value} {K:Act→World→Prop} {Q:Exit→Act→World→Prop} {w':World} (hr:(execOp a.eval o).run P w = .ok (.value y) w') (hK:K (a.put o.dst y) w'):o.wp P a w K Q:=by
 unfold Oper.wp
 rw [hr]
 exact hK
theorem abS {o:Oper} {K:Act→World→Prop} {Q:Exit→Act→World→Prop} {w':World} (hr:(execOp a.eval o).run P w = .ok .skip w') (hK:K (a.put o.dst undef) w'):o.wp P a w K Q:=by
 unfold Oper.wp
 rw [hr]
 exact hK
theorem dl {o:Oper} {rd:List Nat} {d:Nat} {h:List D→Option D} (hI:Inv c B X w0 F0 F O a w δ) (hd:o.dst=some d) {k:List D→Option Out} {r:Out} (hg:fI c (.one rd d h) δ k=some r)
  (hrun:∀z,h (aA δ rd)=some z→∃y,(execOp a.eval o).run P w = .ok (.value y) w∧Td c.K B F a w δ d z y) (Q:Exit→Act→World→Prop):o.wp P a w (Next c B X w0 F0 k r) Q:=by
 simp only [fI] at hg
 obtain⟨z,hz,hk⟩:=ahF.1 hg
 obtain⟨y,hy,hp⟩:=hrun z hz
 exact Ya hy ⟨F,O,_,by rw [hd];exact hI.put hp,hk⟩
theorem ku {lv lv':Nat} (hl:lv≤lv') {z:D} {y:Value} (h:dc w (FB F B lv) z y):dc w (FB F B lv') z y:=h.imp id fun h=>ch (pc hl) (fun _ _=>rfl) h
theorem bL {o:Oper} {xs:List Operand} {lv:Nat} {h:List D→Option D} {A:Ac} (hA:cF c o.dst xs lv h=some A) (hI:Inv c B X w0 F0 F O a w δ) {k:List D→Option Out} {r:Out} (hg:fI c A δ k=some r)
  (hrun:(∀x∈xs,fU c.K x≤2∧dc w (FB F B (fU c.K x)) (opD δ x) (a.eval x))→∀z,h (xs.map (opD δ))=some z→∃y,(execOp a.eval o).run P w = .ok (.value y) w∧dc w (FB F B lv) z y) (Q:Exit→Act→World→Prop):o.wp P a w (Next c B X w0 F0 k r) Q:=by
 unfold cF at hA
 split at hA
 ·cases hA
 rename_i d hd
 split at hA
 case h_2=>cases hA
 rename_i l hk
 split at hA
 ·cases hA
 rename_i hlv
 rw [cM] at hlv
 have hops:∀x∈xs,fU c.K x≤2∧dc w (FB F B (fU c.K x)) (opD δ x) (a.eval x):=fun x hx=>⟨qV hlv x hx,hI.opd (qV hlv x hx)⟩
 have putOk:∀z y,dc w (FB F B l) z y→Td c.K B F a w δ d z y:=fun z y hz=>hz.imp id fun hz=>by rw [hk];exact hz
 split at hA
 ·rename_i hle
  rw [cM] at hle
  cases hA
  refine dl hI hd hg (fun z hz=>?_) Q
  rw [dH] at hz
  obtain⟨y,h1,h2⟩:=hrun hops z hz
  exact⟨y,h1,putOk z y (ku hle h2)⟩
 ·split at hA
  case h_2=>cases hA
  cases hA
  refine dl hI hd hg (fun z hz=>?_) Q
  rw [dH] at hz
  obtain⟨z',hz',hc⟩:=ahF.1 hz
  obtain⟨y,h1,h2⟩:=hrun hops z' hz'
  unfold aL at hc
  split at hc
  case isFalse=>cases hc
  rename_i hv
  cases hc
  refine⟨y,h1,putOk z y (.inr (vC hv (h2.rep ?_)))⟩
  intro e
  subst e
  simp [D.isV] at hv
theorem fk {o:Oper} {s:Sem Value} {y:Value} {w':World} (he:execOp a.eval o=(do pure (.value (←s)))) (hs:s.run P w = .ok y w'):(execOp a.eval o).run P w = .ok (.value y) w':=by
 rw [he]
 simp [hs]
theorem oO {v:Value} (h:flat v=true) {G:Nat→Prop} {z:D} (hz:z = .v v):dc w G z v:=.inr (hz ▸ cU h)
theorem cC {h:D→Option D} {l:List D} {z:D} (e:jD h l=some z):∃a,l=[a]∧h a=some z:=by
 unfold jD at e
 split at e
 ·exact⟨_,rfl,e⟩
 ·cases e
theorem ma {h:D→D→Option D} {l:List D} {z:D} (e:Lr h l=some z):∃a b,l=[a,b]∧h a b=some z:=by
 unfold Lr at e
 split at e
 ·exact⟨_,_,rfl,e⟩
 ·cases e
theorem Sf {h:D→D→D→Option D} {l:List D} {z:D} (e:ad0 h l=some z):∃a b x,l=[a,b,x]∧h a b x=some z:=by
 unfold ad0 at e
 split at e
 ·exact⟨_,_,_,rfl,e⟩
 ·cases e
def nk (P:Program) (c:Cx) (o:Oper):Prop :=
 ∀(A:Ac),du c o=some A→∀(B:Nat) (X:Nat→Prop) (w0:World) (F0 F:Nat→Prop) (O:Nat→Option (Nat × Nat)) (a:Act) (w:World) (δ:List D),Inv c B X w0 F0 F O a w δ →
  ∀(k:List D→Option Out) (r:Out),fI c A δ k=some r→∀Q,o.wp P a w (Next c B X w0 F0 k r) Q
theorem aO {t:Nat} {f:TI→Option Ac} {A:Ac} (h:iq c t f=some A):∃i,eX c.T t=some i∧f i=some A:=by
 unfold iq at h
 split at h
 ·exact⟨_,‹_›,h⟩
 ·cases h
theorem tok (hT:okT P c.T=true) {t:Nat} {i:TI} (h:eX c.T t=some i):TOk P t i:=abV (adR hT h)
theorem YR {o:Oper} {q x y:Operand} (ho:o.op = .pick q x y):nk P c o:=by
 intro A hA B X w0 F0 F O a w δ hI k r hg Q
 simp only [du,ho] at hA
 refine bL hA hI hg (fun hx z hz=>?_) Q
 obtain⟨d1,d2,d3,e,hz⟩:=Sf hz
 simp only [ahz,ahD,ahx,and_true] at e
 obtain⟨rfl,rfl,rfl⟩:=e
 have h1:=(hx q (by simp)).2
 have h2:=(hx x (by simp)).2
 have h3:=(hx y (by simp)).2
 rw [AM]
 obtain⟨v,hv,hr⟩:=aci (P:=P) h1 (ku (Nat.le_max_left _ (fU c.K y)) h2) (ku (Nat.le_max_right (fU c.K x) _) h3) hz
 refine⟨v,?_,hr⟩
 simp only [execOp,ho]
 simp only [ahw,ahB] at hv ⊢
 cases hb:(asBool (a.eval q)).run P w with
 | halt s t=>rw [hb] at hv;simp at hv
 | ok b w' =>
  rw [hb] at hv
  simp only [ahu,Result.ok.injEq] at hv ⊢
  exact⟨by rw [hv.1],hv.2⟩
theorem Xe (hT:okT P c.T=true) {o:Oper} {op:BinOp} {t t':Nat} {x y:Operand} (ho:o.op = .binOp op t x y t'):nk P c o:=by
 intro A hA B X w0 F0 F O a w δ hI k r hg Q
 simp only [du,ho] at hA
 obtain⟨i,hi,hA⟩:=aO hA
 split at hA
 ·rename_i hif
  refine bL hA hI hg (fun hx z hz=>?_) Q
  obtain⟨d1,d2,e,hz⟩:=ma hz
  simp only [ahz,ahD,ahx,and_true] at e
  obtain⟨rfl,rfl⟩:=e
  obtain⟨v,hv,hr,hf⟩:=adX (P:=P) (tok hT hi) hif x y (fun hn=>by
   unfold ac0 at hn
   split at hn
   ·exact⟨_,rfl⟩
   ·cases hn) (hx x (by simp)).2 (hx y (by simp)).2 hz
  exact⟨v,fk (by simp only [execOp,ho]) hv,oO hf hr⟩
 split at hA
 ·rename_i hsl hny
  refine bL hA hI hg (fun hx z hz=>?_) Q
  obtain⟨d1,d2,e,hz⟩:=ma hz
  simp only [ahz,ahD,ahx,and_true] at e
  obtain⟨rfl,rfl⟩:=e
  have ey:y = .const (.slice none 0 0):=by
   unfold abE at hny
   split at hny
   ·rfl
   ·cases hny
  have ev:a.eval y = .slice none 0 0:=by rw [ey];rfl
  obtain⟨v,hv,hr,hf⟩:=acm (P:=P) (tok hT hi) hsl x y (hx x (by simp)).2 hz
  rw [←ev] at hv
  exact⟨v,fk (by simp only [execOp,ho]) hv,oO hf hr⟩
 refine bL hA hI hg (fun hx z hz=>?_) Q
 obtain⟨d1,d2,e,hz⟩:=ma hz
 simp only [ahz,ahD,ahx,and_true] at e
 obtain⟨rfl,rfl⟩:=e
 obtain⟨v,hv,hr,hf⟩:=aeI (P:=P) (tok hT hi) x y (hx x (by simp)).2 (hx y (by simp)).2 hz
 exact⟨v,fk (by simp only [execOp,ho]) hv,oO hf hr⟩
theorem Ze {o:Oper} {op:UnOp} {t:Nat} {x:Operand} (ho:o.op = .unOp op t x):nk P c o:=by
 intro A hA B X w0 F0 F O a w δ hI k r hg Q
 simp only [du,ho] at hA
 refine bL hA hI hg (fun hx z hz=>?_) Q
 obtain⟨d1,e,hz⟩:=cC hz
 simp only [ahz,ahD,ahx,and_true] at e
 subst e
 obtain⟨v,hv,hr,hf⟩:=afS (P:=P) (hx x (by simp)).2 hz
 exact⟨v,fk (by simp only [execOp,ho]) hv,oO hf hr⟩
theorem wE {i ti:TI} {f off:Nat} (h:HC c i f=some (off,ti)):∃ty,i.fs[f]?=some (off,ty)∧eX c.T ty=some ti:=by
 unfold HC at h
 split at h
 ·rename_i o ty hf
  split at h
  ·rename_i j hj
   simp at h
   obtain⟨rfl,rfl⟩:=h
   rw [Gl] at hf
   exact⟨ty,hf,hj⟩
  ·cases h
 ·cases h
theorem XG (hT:okT P c.T=true) {o:Oper} {t f:Nat} {x:Operand} (ho:o.op = .field t x f):nk P c o:=by
 intro A hA B X w0 F0 F O a w δ hI k r hg Q
 simp only [du,ho] at hA
 obtain⟨i,hi,hA⟩:=aO hA
 split at hA
 case h_2=>cases hA
 rename_i off ti hf
 obtain⟨ty,hf,hti⟩:=wE hf
 refine bL hA hI hg (fun hx z hz=>?_) Q
 obtain⟨d1,e,hz⟩:=cC hz
 simp only [ahz,ahD,ahx,and_true] at e
 subst e
 obtain⟨y,hy,hr⟩:=aeG (tok hT hi) (tok hT hti) hf (hx x (by simp)).2 hz
 exact⟨y,fk (by simp only [execOp,ho]) hy,.inr hr⟩
theorem WL (hT:okT P c.T=true) {o:Oper} {t:Nat} {x y:Operand} (ho:o.op = .index t x y):nk P c o:=by
 intro A hA B X w0 F0 F O a w δ hI k r hg Q
 simp only [du,ho] at hA
 obtain⟨i,hi,hA⟩:=aO hA
 unfold aex at hA
 split at hA
 ·rename_i hs
  refine bL hA hI hg (fun hx z hz=>?_) Q
  obtain⟨d1,d2,e,hz⟩:=ma hz
  simp only [ahz,ahD,ahx,and_true] at e
  obtain⟨rfl,rfl⟩:=e
  obtain⟨v,hv,hr,hf⟩:=adp (P:=P) (tok hT hi) hs (hx x (by simp)).2 (hx y (by simp)).2 hz
  exact⟨v,fk (by simp only [execOp,ho]) hv,oO hf hr⟩
 ·split at hA
  ·cases hA
  ·rename_i n hn
   obtain⟨e',he,hA⟩:=aO hA
   refine bL hA hI hg (fun hx z hz=>?_) Q
   obtain⟨d1,d2,e,hz⟩:=ma hz
   simp only [ahz,ahD,ahx,and_true] at e
   obtain⟨rfl,rfl⟩:=e
   obtain⟨v,hv,hr⟩:=ad6 (P:=P) (tok hT hi) (tok hT he) (by intro h0;exact hn h0) rfl (hx x (by simp)).2 (hx y (by simp)).2 hz
   exact⟨v,fk (by simp only [execOp,ho]) hv,.inr hr⟩
theorem MY {o:Oper} {f:Nat} {u v:Array Operand} (ho:o.op = .makeFunc (.func f) u v):nk P c o:=by
 intro A hA B X w0 F0 F O a w δ hI k r hg Q
 simp only [du,ho] at hA
 split at hA
 case h_3=>cases hA
 case h_2 =>
  rename_i x0 xs h1 h2
  refine bL hA hI hg (fun hx z hz=>?_) Q
  have e1:u=#[]:=by simpa using h1
  subst e1
  unfold ag1 at hz
  split at hz
  case isFalse=>cases hz
  rename_i hall
  cases hz
  refine⟨.func (.func f) #[] (v.map a.eval),fk (s:=Instr.makeFunc (.func f) #[] (v.map a.eval)) (by simp [execOp,ho]) rfl,.inr ?_⟩
  simp only [bP,RepC]
  refine⟨(x0::xs).map a.eval,?_,?_⟩
  ·have:v=(x0::xs).toArray:=by rw [←h2]
   rw [this]
   simp
  ·have key:∀ys:List Operand,(∀y∈ys,y∈x0::xs)→(ys.map (opD δ)).all D.single=true→bZ w (FB F B (qh c.K (x0::xs))) (ys.map (opD δ)) (ys.map a.eval):=by
    intro ys
    induction ys with
    | nil=>intro _ _;exact aV.2 rfl
    | cons y ys ih =>
     intro hm hs
     simp only [ahz,ahT,ahv] at hs
     have h3:=(hx y (hm y (by simp))).2
     have hne:opD δ y ≠ .bad:=fun e=>by rw [e] at hs;simp [D.single] at hs
     have h4:=h3.rep hne
     rw [mc hs.1] at h4
     exact aw.2 ⟨[a.eval y],ys.map a.eval,rfl,RepC_mono (pc (qV (ahX _) y (hm y (by simp)))) (fun _ _=>rfl) _ _ h4,ih (fun z hz=>hm z (by simp [hz])) hs.2⟩
   exact key (x0::xs) (fun _ h=>h) hall
 rename_i h1 h2
 refine bL hA hI hg (fun hx z hz=>?_) Q
 simp at hz
 subst hz
 have e1:u=#[]:=by simpa using h1
 have e2:v=#[]:=by simpa using h2
 subst e1 e2
 refine⟨.func (.func f) #[] #[],fk (s:=Instr.makeFunc (.func f) #[] #[]) (by simp [execOp,ho]) rfl,.inr ?_⟩
 simp only [bP,RepC]
 exact⟨[],rfl,aV.2 rfl⟩
theorem JV {K:List Kd} {t:Nat} {rd:List Nat} {lv:Nat} {r:Option Nat} (h:rW K (.tmp t)=some (rd,lv,r)) :
  (aC K t = .dat lv∧rd=[t]∧r=none)∨(∃z io,aC K t = .own z lv io∧rd=[t]∧r=some t)∨(∃q z io,aC K t = .via q∧aC K q = .own z lv io∧rd=[t,q]∧r=some q):=by
 simp only [rW] at h
 split at h
 ·rename_i l hk
  simp at h
  obtain⟨rfl,rfl,rfl⟩:=h
  exact .inl ⟨hk,rfl,rfl⟩
 ·rename_i z l io hk
  simp at h
  obtain⟨rfl,rfl,rfl⟩:=h
  exact .inr (.inl ⟨z,io,hk,rfl,rfl⟩)
 ·rename_i q hk
  split at h
  ·rename_i z l io hq
   simp at h
   obtain⟨rfl,rfl,rfl⟩:=h
   exact .inr (.inr ⟨q,z,io,hk,hq,rfl,rfl⟩)
  ·cases h
 ·cases h
theorem mL {w:World} {F:Nat→Prop} {own:Nat→Prop} {z:Nat} {d:D} {y:Value} (h:lj w F own z d y):bP w (fun b=>F b∨own b) d y:=by
 obtain⟨l,rfl,h2,h3⟩:=h
 simp only [bP,RepC]
 rcases h3 with ⟨rfl,rfl⟩ | ⟨g,o,c,us,cs,e,rfl,a2,a3,a4,a5,a6,a7⟩
 ·exact⟨none,0,[],rfl,ahX _,aV.2 rfl,h2,fun h=>absurd rfl h⟩
 ·refine⟨_,c,us,rfl,a2,cB (fun b hb=>.inl hb) (fun _ _=>rfl) _ _ a5,h2,fun _=>⟨g,o,rfl,.inr a7,fun i u hu=>?_⟩⟩
  simp [World.cell?,a3,a6 i u hu]
theorem Inv.own (h:Inv c B X w0 F0 F O a w δ) {s z lv:Nat} {io:Bool} (hk:aC c.K s = .own z lv io) (hb:nth δ s ≠ .bad):lj w (FB F B lv) (fun g=>O g=some (s,0)∧(io=false→B≤g)) z (nth δ s) (av a s):=by
 have h0:=(h.slot s).resolve_left hb
 rw [hk] at h0
 exact h0.resolve_left hb
theorem Inv.box (h:Inv c B X w0 F0 F O a w δ) {s n lv:Nat} {io:Bool} (hk:aC c.K s = .box n lv io) (hb:nth δ s ≠ .bad):Fv w (FB F B lv) (fun g=>O g=some (s,0)∧(io=false→B≤g)) n (nth δ s) (av a s):=by
 have h0:=(h.slot s).resolve_left hb
 rw [hk] at h0
 exact h0.resolve_left hb
theorem Inv.via (h:Inv c B X w0 F0 F O a w δ) {s q:Nat} (hk:aC c.K s = .via q) (hb:nth δ s ≠ .bad):av a s=av a q∧nth δ s = .ref 0 0∧nth δ q ≠ .bad∧po c.K q=true:=by
 have h0:=(h.slot s).resolve_left hb
 rw [hk] at h0
 exact h0
theorem Inv.ref (h:Inv c B X w0 F0 F O a w δ) {s q:Nat} (hk:aC c.K s = .ref q) (hb:nth δ s ≠ .bad):∃i f,nth δ s = .ref i f∧nth δ q ≠ .bad∧ym (aC c.K q) (av a q) i f (av a s):=by
 have h0:=(h.slot s).resolve_left hb
 rw [hk] at h0
 exact h0
theorem cD {p x y:D} (h:aa p x=some y):p ≠ .bad∧x=y:=by
 unfold aa at h
 split at h
 ·cases h
 ·rename_i hp
  simp at h
  exact⟨hp,h⟩
theorem acI {k:Kd} {y p:Value} {i f:Nat} (h:ym k y i f p):∃g o,p = .pointer (some ⟨g,o,none⟩):=by
 unfold ym at h
 split at h
 ·obtain⟨g,o,n,cc,_,e⟩:=h;exact⟨g,_,e⟩
 ·obtain⟨g,_,e⟩:=h;exact⟨g,_,e⟩
 ·exact h.elim
theorem OZ {o:Oper} {x:Operand} (ho:o.op = .nilCheck x):nk P c o:=by
 intro A hA B X w0 F0 F O a w δ hI k r hg Q
 simp only [du,ho] at hA
 have dat:cF c o.dst [x] (fU c.K x) (jD Bn)=some A→o.wp P a w (Next c B X w0 F0 k r) Q:=by
  intro hA
  refine bL hA hI hg (fun hx z hz=>?_) Q
  obtain⟨d1,e,hz⟩:=cC hz
  simp only [ahz,ahD,ahx,and_true] at e
  subst e
  obtain⟨h1,h2⟩:=aev (P:=P) (hx x (by simp)).2 hz o x a.eval ho rfl
  exact⟨_,h1,.inr h2⟩
 have run:∀t g o',x = .tmp t→av a t = .pointer (some ⟨g,o',none⟩)→(execOp a.eval o).run P w = .ok (.value (av a t)) w:=by
  intro t g o' hx hv
  subst hx
  simp [execOp,ho,dU,hv]
 unfold aeE at hA
 split at hA
 ·rename_i t
  split at hA
  ·rename_i n lv io hk
   split at hA
   ·cases hA
   rename_i d hd
   split at hA
   case h_2=>cases hA
   rename_i rr hkd
   split at hA
   case h_2=>cases hA
   rename_i hrt
   rw [ba] at hrt
   subst hrt
   cases hA
   refine dl hI hd hg (fun z hz=>?_) Q
   obtain⟨d1,e,hz⟩:=cC hz
   simp only [aA,ahx,and_true] at e
   subst e
   obtain⟨h1,rfl⟩:=cD hz
   obtain⟨m,us,g,e,_,a1,_⟩:=hI.box hk h1
   refine⟨_,run _ g 0 rfl a1,.inr ?_⟩
   rw [hkd]
   refine⟨0,0,rfl,h1,?_⟩
   rw [hk]
   exact⟨g,a1,a1⟩
  ·rename_i rr hk
   split at hA
   ·cases hA
   rename_i d hd
   split at hA
   case h_2=>cases hA
   rename_i r' hkd
   split at hA
   case h_2=>cases hA
   rename_i hrt
   rw [ba] at hrt
   subst hrt
   cases hA
   refine dl hI hd hg (fun z hz=>?_) Q
   obtain⟨d1,e,hz⟩:=cC hz
   simp only [aA,ahx,and_true] at e
   subst e
   obtain⟨h1,rfl⟩:=cD hz
   obtain⟨ii,ff,g1,g2,g3⟩:=hI.ref hk h1
   obtain⟨g,o',e⟩:=acI g3
   refine⟨_,run _ g o' rfl e,.inr ?_⟩
   rw [hkd]
   exact⟨ii,ff,g1,g2,g3⟩
  ·exact dat hA
 ·exact dat hA
theorem Bc (hI:Inv c B X w0 F0 F O a w δ) {t:Nat} {rd:List Nat} {lv:Nat} {q:Option Nat} (h:rW c.K (.tmp t)=some (rd,lv,q)) {d:D}
  (hd:(match rd with
   | [_]=>some (nth (aA δ rd) 0)
   | _=>aa (nth (aA δ rd) 0) (nth (aA δ rd) 1))=some d):∃G,dc w G d (av a t):=by
 rcases JV h with ⟨hk,rfl,rfl⟩ | ⟨z,io,hk,rfl,rfl⟩ | ⟨s,z,io,hk,hs,rfl,rfl⟩
 ·simp [aA,nth] at hd
  subst hd
  exact⟨_,hI.dat hk⟩
 ·simp [aA,nth] at hd
  subst hd
  by_cases hb:nth δ t = .bad
  ·exact⟨fun _=>True,.inl hb⟩
  ·exact⟨_,.inr (mL (hI.own hk hb))⟩
 ·simp only [aA,nth] at hd
  obtain⟨h1,rfl⟩:=cD hd
  obtain⟨g1,g2,g3,g4⟩:=hI.via hk h1
  rw [g1]
  exact⟨_,.inr (mL (hI.own hs g3))⟩
theorem NE (hT:okT P c.T=true) {o:Oper} {x:Operand} {t:Nat} {str:Bool} (ho:o.op = .call {callee:=.builtin .len,args:=#[x],argTypes:=#[t]}) {i:TI} (hi:eX c.T t=some i)
  (hs:str=false→qR i=true) (hs':str=true→i.str=true) {A:Ac} (hA:abq c o.dst str x=some A) (hI:Inv c B X w0 F0 F O a w δ) {k:List D→Option Out} {r:Out} (hg:fI c A δ k=some r) (Q:Exit→Act→World→Prop):o.wp P a w (Next c B X w0 F0 k r) Q:=by
 have run:∀(G:Nat→Prop) (d z:D),dc w G d (a.eval x)→lenD str d=some z→∃v,(execOp a.eval o).run P w = .ok (.value v) w∧z = .v v∧flat v=true:=by
  intro G d z hd hz
  obtain⟨v,h1,h2,h3⟩:=aeb (P:=P) (t:=t) (ty:=o.type) hd (fun h=>⟨_,(qH (tok hT hi) (hs h)).1⟩) (fun h=>((tok hT hi).str (hs' h)).1) hz
  refine⟨v,?_,h2,h3⟩
  simp only [execOp,ho,resolve,invoke,builtin,ahw,ahB,ahu,List.map_toArray,ahz,ahD,h1]
 have dat:∀A',cF c o.dst [x] 0 (jD (lenD str))=some A'→fI c A' δ k=some r→o.wp P a w (Next c B X w0 F0 k r) Q:=by
  intro A' hA' hg'
  refine bL hA' hI hg' (fun hx z hz=>?_) Q
  obtain⟨d1,e,hz⟩:=cC hz
  simp only [ahz,ahD,ahx,and_true] at e
  subst e
  obtain⟨v,h1,h2,h3⟩:=run _ _ z (hx x (by simp)).2 hz
  exact⟨v,h1,oO h3 h2⟩
 unfold abq at hA
 split at hA
 ·rename_i t'
  split at hA
  ·exact dat A hA hg
  ·split at hA
   case h_2=>cases hA
   rename_i d rd lv q hd hsrc
   split at hA
   case h_2=>cases hA
   rename_i lv' hk
   cases hA
   refine dl hI hd hg (fun z hz=>?_) Q
   have key:∃G dd,dc w G dd (av a t')∧lenD str dd=some z:=by
    have hsrc':=hsrc
    rcases JV hsrc' with ⟨h1,rfl,rfl⟩ | ⟨_,_,h1,rfl,rfl⟩ | ⟨s,_,_,h1,h2,rfl,rfl⟩
    ·obtain⟨G,hG⟩:=Bc hI hsrc (d:=nth δ t') (by simp [aA,nth])
     exact⟨G,_,hG,by simpa [aA,nth] using hz⟩
    ·obtain⟨G,hG⟩:=Bc hI hsrc (d:=nth δ t') (by simp [aA,nth])
     exact⟨G,_,hG,by simpa [aA,nth] using hz⟩
    ·simp only [aA,nth] at hz
     obtain⟨dd,e1,e2⟩:=ahF.1 hz
     obtain⟨G,hG⟩:=Bc hI hsrc (d:=dd) (by simpa [aA,nth] using e1)
     exact⟨G,dd,hG,e2⟩
   obtain⟨G,dd,h1,h2⟩:=key
   obtain⟨v,e1,e2,e3⟩:=run G dd z h1 h2
   exact⟨v,e1,(oO (G:=FB F B lv') e3 e2).imp id fun h=>by rw [hk];exact h⟩
 ·exact dat A hA hg
end
end Go.V

end
