/-
  A part of the proof: contracts and plain forms of functions beneath the statement, made small by a program (names shortened, what is not needed left out).
-/
import Derived.Test.YtkcojipciiakdaaRows
import Derived.WalkKit
open Nat renaming beq → Ji, ble → Jn, eq_of_beq_eq_true → Jx, succ → JE, le_refl → JM, add_assoc → Kc, lt_or_ge → Kg, min_eq_left → Kl
open Go.Result renaming andThen_ok → Jj
open Bool renaming and_eq_true → Jk, not_eq_true' → Jr, false_eq_true → JF
open Go.Sem renaming run_bind → Jl, run_pure → Jq
open List.cons renaming injEq → Jm
open List renaming map_cons → Jo, map_nil → Js, getElem?_eq_some_iff → Jt, mem_of_mem_take → Jv, length_take → Jz, all_eq_true → JA, mem_cons → JC, drop_eq_nil_of_le → JG, all_cons → JI, mem_of_mem_drop → JJ, eq_nil_of_length_eq_zero → JK, length_drop → JQ, nil_append → JR, mem_append → JS, take_of_length_le → JV, take_append_drop → JZ, mem_cons_of_mem → Kb, getElem?_drop → Kf, cons_append → Kj, length_cons → Kk, foldl_cons → Km
open Option renaming map_eq_some_iff → Jp, bind_eq_some_iff → Ju
open Go.Op renaming equalIn → Jw, equal → JB, maxDepth → JH, bytesLess → JO, eqFields → JW, intArith → JX, stringOp → Ki
open Go.Addr renaming add_lit → Jy
open Go.Instr renaming indexAt → JD, sureAddr → JL, loadAt → JP, index → JY, fieldAt → Ke, sliceAt → Ko
open Option.some renaming injEq → JN
open UInt8 renaming ofNat → JT
open Go.Value renaming cells → JU, int → Kn
open Go.World renaming cell?_of_block → Ka
open Go.Builtin renaming len_ → Kh, min2 → Kq, max2 → Kr
open Go.Program renaming elem → Kp
set_option maxRecDepth 100000
set_option linter.unusedSimpArgs false
set_option linter.unusedVariables false
noncomputable section
namespace Go.V
inductive D where
 | v (x:Value)
 | arr (z:Nat) (l:List D)
 | agg (l:List D)
 | ptr (l:List D)
 | clo (f:Nat) (l:List D)
 | ifc
 | raw (x:Value)
 | tup (l:List D)
 | ref (i f:Nat)
 | bad
 deriving Inhabited
abbrev B (b:Bool):D:=.v (.bool b)
abbrev I (n:Int):D:=.v (.int .i64 n)
abbrev U (n:Int):D:=.v (.int .u8 n)
abbrev T (s:ByteArray):D:=.v (.string s)
inductive Out where
 | nrm (δ:List D)
 | ext (id:Nat) (δ:List D)
 | ret (rs us:List D)
structure TI where
 agg:Bool:=false
 n:Nat:=1
 zero:List D:=[]
 elem:Nat:=0
 ez:Nat:=0
 eb:Nat:=0
 fs:List (Nat × Nat):=[]
 alen:Nat:=0
 eq:List Nat:=[]
 ik:Option IntKind:=none
 str:Bool:=false
 bl:Bool:=false
 ifc:Bool:=false
inductive Kd where
 | dat (lv:Nat)
 | own (z lv:Nat) (io:Bool)
 | box (n lv:Nat) (io:Bool)
 | via (r:Nat)
 | ref (r:Nat)
 | tup (l:List Kd)
 | no
structure FS where
 pm:List Kd
 rm:List Kd
 f:List D→Option Out
structure Cx where
 K:List Kd
 T:List (Nat × TI)
 S:List (Nat × FS)
 H:List (Nat × (List Nat × List Nat)):=[]
 res:List ResultVar
 ios:List Nat:=[]
 G:List (Nat × (Obj→Prop)):=[]
 N:List Nat:=[]
 C:List (Nat × Nat):=[]
section small
@[reducible] def AB {α:Type}:List α→Nat→Option α
 | [],_=>none
 | a::_,0=>some a
 | _::l,n+1=>AB l n
@[reducible] def nth:List D→Nat→D
 | [],_=>.bad
 | a::_,0=>a
 | _::l,n+1=>nth l n
@[reducible] def ao:List Kd→Nat→Kd
 | [],_=>.no
 | a::_,0=>a
 | _::l,n+1=>ao l n
@[reducible] def fd:List D→Nat→D→List D
 | [],_,_=>[]
 | _::l,0,b=>b::l
 | a::l,n+1,b=>a::fd l n b
@[reducible] def dj {α:Type}:List (Nat × α)→Nat→Option α
 | [],_=>none
 | (k,a)::l,n=>match Ji k n with
  | true=>some a
  | false=>dj l n
@[reducible] def app {α:Type}:List α→List α→List α
 | [],b=>b
 | a::l,b=>a::app l b
@[reducible] def lH {α β:Type} (f:α→β):List α→List β
 | []=>[]
 | a::l=>f a::lH f l
@[reducible] def al:List D→List Nat→List D→List D
 | δ,[],_=>δ
 | δ,s::ss,[]=>al (fd δ s .bad) ss []
 | δ,s::ss,d::ds=>al (fd δ s d) ss ds
@[reducible] def fr {R:Type}:List D→Nat→(D→R)→R
 | [],_,k=>k .bad
 | a::_,0,k=>k a
 | _::l,n+1,k=>fr l n k
@[reducible] def Bh {R:Type}:List D→Nat→D→(List D→R)→R
 | [],_,_,k=>k []
 | _::l,0,b,k=>k (b::l)
 | a::l,n+1,b,k=>Bh l n b fun l'=>k (a::l')
@[reducible] def nk {R:Type} (δ:List D):List Nat→(List D→R)→R
 | [],k=>k []
 | s::ss,k=>fr δ s fun a=>nk δ ss fun l=>k (a::l)
@[reducible] def dP {R:Type}:List D→List Nat→List D→(List D→R)→R
 | δ,[],_,k=>k δ
 | δ,s::ss,[],k=>Bh δ s .bad fun δ=>dP δ ss [] k
 | δ,s::ss,d::ds,k=>Bh δ s d fun δ=>dP δ ss ds k
@[reducible] def lM:Nat→List Nat→Bool
 | _,[]=>false
 | n,m::l=>match Ji n m with
  | true=>true
  | false=>lM n l
end small
def D.cells:D→List D
 | .agg l=>l
 | d=>[d]
def D.single:D→Bool
 | .v _ | .arr .. | .ptr _ | .clo .. | .ifc | .raw _=>true
 | _=>false
def D.width (d:D):Nat:=d.cells.length
def D.isV:D→Bool
 | .v _=>true
 | .agg l=>l.all fun | .v _=>true | _=>false
 | _=>false
def flat:Value→Bool
 | .bool _ | .int .. | .string _ | .nilFunc | .nilIface | .pointer none=>true
 | .slice none 0 0=>true
 | _=>false
def gA (op:BinOp) (k:IntKind) (a b:Int):Option D :=
 match op with
 | .add=>some (.v (.int k (k.wrap (a+b))))
 | .sub=>some (.v (.int k (k.wrap (a - b))))
 | .mul=>some (.v (.int k (k.wrap (a*b))))
 | .quo=>if b=0 then none else some (.v (.int k (k.wrap (a.tdiv b))))
 | .rem=>if b=0 then none else some (.v (.int k (a.tmod b)))
 | .and | .or | .xor | .andNot=>some (.v (.int k (bits op k a b)))
 | .eql=>some (B (a==b))
 | .neq=>some (B (a != b))
 | .lss=>some (B (a<b))
 | .leq=>some (B (a≤b))
 | .gtr=>some (B (a>b))
 | .geq=>some (B (a≥b))
 | .shl | .shr=>none
def qG (op:BinOp) (a b:ByteArray):Option D :=
 match op with
 | .add=>if a.size+b.size≤1152921504606846976 then some (T (a++b)) else none
 | .eql=>some (B (a.toList==b.toList))
 | .neq=>some (B !(a.toList==b.toList))
 | .lss=>some (B (JO a.toList b.toList))
 | .leq=>some (B (JO a.toList b.toList||a.toList==b.toList))
 | .gtr=>some (B !(JO a.toList b.toList||a.toList==b.toList))
 | .geq=>some (B !(JO a.toList b.toList))
 | _=>none
def pK:List Nat→List D→List D→Option Bool
 | [],[],[]=>some true
 | 1::c,.v (.int k a)::l,.v (.int k' b)::m=>if k=k' then(pK c l m).map (a==b&&·) else none
 | 2::c,.v (.bool a)::l,.v (.bool b)::m=>(pK c l m).map (a==b&&·)
 | 3::c,.v (.string a)::l,.v (.string b)::m=>(pK c l m).map (a.toList==b.toList&&·)
 | _,_,_=>none
def bin (op:BinOp) (bl:Bool) (eq:List Nat) (x y:D):Option D :=
 match op,x,y with
 | .shl,.v (.int k a),.v (.int _ b)=>if 0≤b then some (.v (.int k (k.wrap (a*2 ^ min b.toNat k.bits)))) else none
 | .shr,.v (.int k a),.v (.int _ b)=>if 0≤b then some (.v (.int k (a.fdiv (2 ^ min b.toNat k.bits)))) else none
 | op,.v (.int k a),.v (.int k' b)=>if k=k' then gA op k a b else none
 | op,.v (.string a),.v (.string b)=>qG op a b
 | .eql,.v (.bool a),.v (.bool b)=>if bl then some (B (a==b)) else none
 | .neq,.v (.bool a),.v (.bool b)=>if bl then some (B !(a==b)) else none
 | .eql,.agg a,.agg b=>if eq=[] then none else(pK eq a b).map B
 | .neq,.agg a,.agg b=>if eq=[] then none else(pK eq a b).map fun q=>B !q
 | _,_,_=>none
def HC (nc:Bool) (op:BinOp) (x y:D):Option D :=
 match op,x,y with
 | .eql,.ifc,.v .nilIface=>some (B false)
 | .neq,.ifc,.v .nilIface=>some (B true)
 | .eql,.v .nilIface,.v .nilIface=>if nc then some (B true) else none
 | .neq,.v .nilIface,.v .nilIface=>if nc then some (B false) else none
 | _,_,_=>none
def HD (op:BinOp) (x:D):Option D :=
 match op,x with
 | .eql,.v (.slice none 0 0)=>some (B true)
 | .neq,.v (.slice none 0 0)=>some (B false)
 | .eql,.arr _ (_::_)=>some (B false)
 | .neq,.arr _ (_::_)=>some (B true)
 | _,_=>none
def un (op:UnOp) (x:D):Option D :=
 match op,x with
 | .neg,.v (.int k n)=>some (.v (.int k (k.wrap (0 - n))))
 | .not,.v (.bool b)=>some (B !b)
 | _,_=>none
def aR (c a b:D):Option D :=
 match c with
 | .v (.bool true)=>some a
 | .v (.bool false)=>some b
 | _=>none
def lenD (str:Bool) (x:D):Option D :=
 match str,x with
 | false,.arr _ l=>some (I l.length)
 | true,.v (.string s)=>some (I s.size)
 | _,_=>none
def bO (z:Nat) (x i:D):Option (List D) :=
 match x,i with
 | .arr z' l,.v (.int _ n)=>if z'=z∧0≤n then(l[n.toNat]?).map D.cells else none
 | _,_=>none
def an (ag:Bool) (n:Nat) (l:List D):Option D :=
 if ag then(if n≤l.length then some (.agg (l.take n)) else none) else l.head?
def rH (x i:D):Option D :=
 match x,i with
 | .v (.string s),.v (.int _ n)=>if 0≤n then(s.data.toList[n.toNat]?).map fun b=>U b.toNat else none
 | _,_=>none
def ga (str:Bool) (z:Nat) (x lo hi:D):Option D :=
 match str,x,lo,hi with
 | false,.arr z' l,.v (.int _ a),.v (.int _ b)=>if z'=z∧0≤a∧a≤b∧b≤l.length then some (.arr z ((l.take b.toNat).drop a.toNat)) else none
 | true,.v (.string s),.v (.int _ a),.v (.int _ b)=>if 0≤a∧a≤b∧b≤s.size then some (T (s.extract a.toNat b.toNat)) else none
 | _,_,_,_=>none
def bw (d:D):Option D:=if d.isV then some d else none
def gx (z eb:Nat) (x y:D):Option D :=
 match x,y with
 | .arr a l,.arr b m=>if (a=z∨l=[])∧(b=z∨m=[])∧(l.length+m.length)*eb≤140737488355328∧l.length+m.length≤1152921504606846976 then some (.arr z (l++m)) else none
 | _,_=>none
abbrev Y:Kd:=.dat 0
abbrev Yb:Kd:=.dat 1
abbrev Yc:Kd:=.dat 2
abbrev Yo (z l:Nat):Kd:=.own z l false
abbrev Yr (r:Nat):Kd:=.ref r
end Go.V

namespace Go.V
inductive Ac where
 | one (rd:List Nat) (d:Nat) (h:List D→Option D)
 | many (rd hw cw:List Nat) (fn:List D→(List D→Option Out)→Option Out)
def ifD (c:D) (t e:Option Out):Option Out :=
 match c with
 | .v (.bool true)=>t
 | .v (.bool false)=>e
 | _=>none
def af (v:D) (g:D) (pol:Bool) (r:Option D):Option D :=
 match g with
 | .v (.bool b)=>if b=pol then r else some v
 | .tup _=>some v
 | _=>none
def dD (g:D) (pol:Bool) (r:Option Out) (alt:List D) (k:List D→Option Out):Option Out :=
 match g with
 | .v (.bool b)=>if b=pol then(match r with
  | some (.nrm l)=>k l
  | _=>none) else k alt
 | .tup _=>k alt
 | _=>none
def aq (r:Option Out) (k:List D→List D→Option Out):Option Out :=
 match r with
 | some (.ret rs us)=>k rs us
 | _=>none
def bM (ag:Bool) (n off:Nat) (d:D):Option D :=
 match d with
 | .agg l=>an ag n (l.drop off)
 | _=>none
def ldD (ag:Bool) (n:Nat) (d:D):Option D :=
 match d with
 | .ptr l=>an ag n l
 | _=>none
def td (off:Nat) (d:D):Option D :=
 match d with
 | .ptr l=>some (.ptr (l.drop off))
 | _=>none
def atD (o r:D):Option (List D) :=
 match o,r with
 | .arr _ l,.ref i f=>(l[i]?).map fun d=>d.cells.drop f
 | .agg l,.ref _ f=>some (l.drop f)
 | _,_=>none
def D.ofCells (old:D) (cs:List D):D :=
 match old,cs with
 | .agg _,cs=>.agg cs
 | _,c::_=>c
 | d,[]=>d
def cd (l:List D) (f:Nat) (vs:List D):List D:=l.take f++vs++l.drop (f+vs.length)
def stD (n:Nat) (o r x:D):Option D :=
 match o,r with
 | .arr z l,.ref i f=>match l[i]? with
  | some d=>if x.cells.length=n∧f+n≤d.width∧x.cells.all D.single then some (.arr z (l.set i (d.ofCells (cd d.cells f x.cells)))) else none
  | none=>none
 | .agg l,.ref _ f=>if x.cells.length=n∧f+n≤l.length∧x.cells.all D.single then some (.agg (cd l f x.cells)) else none
 | _,_=>none
def tp (z:Nat) (o i:D):Option D :=
 match o,i with
 | .arr z' l,.v (.int _ n)=>if z'=z∧0≤n∧n<l.length then some (.ref n.toNat 0) else none
 | _,_=>none
def ab (d:D) (x:D):Option D :=
 match d with
 | .bad=>none
 | _=>some x
def ia (z n:Nat) (l:List D):Bool:=l.all fun d=>d.width==z&&(d.single||(match d with | .agg c=>c.all D.single | _=>false))&&decide (l.length=n)
def bC (z:Nat) (l:List D):Option D:=if ia z l.length l then some (.arr z l) else none
def FQ (z eb:Nat) (x:D) (n c:D):Option D :=
 match n,c with
 | .v (.int _ a),.v (.int _ b)=>if 0≤a∧a≤b∧b*(eb:Int)≤140737488355328∧b≤140737488355328 then some (.arr z (List.replicate a.toNat x)) else none
 | _,_=>none
def gT (n:Nat) (x:D):Option D:=if x.cells.length=n∧x.cells.all D.single then some (.agg x.cells) else none
def In (y:D):Option D :=
 match y with
 | .agg l=>some (.ptr l)
 | _=>none
def Iw (f:Nat) (ds:List D):Option D:=if ds.all D.single then some (.clo f ds) else none
def Hc (f n:Nat) (cl:D):Option (List D) :=
 match cl with
 | .clo g l=>if g=f∧l.length=n∧l.all D.single then some l else none
 | _=>none
def bz (t:D) (i:Nat):Option D :=
 match t with
 | .tup l=>match l[i]? with
  | some .bad=>none
  | some (.tup _)=>none
  | r=>r
 | _=>none
def lB (t:D) (i:Nat):D :=
 match t with
 | .tup l=>.tup (l.set i .bad)
 | d=>d
@[reducible] def qT:Value→D
 | .slice _ _ _=>.arr 0 []
 | v=>.v v
@[reducible] def okC:Value→Bool
 | .slice none 0 0=>true
 | .bool _=>true
 | .int _ _=>true
 | .string _=>true
 | .nilFunc=>true
 | .nilIface=>true
 | .pointer none=>true
 | _=>false
@[reducible] def mf:List Operand→List Nat
 | []=>[]
 | .tmp t::xs=>t::mf xs
 | _::xs=>mf xs
@[reducible] def dG:List Operand→List D→List D
 | [],_=>[]
 | .tmp _::xs,i::is=>i::dG xs is
 | .tmp _::xs,[]=>.bad::dG xs []
 | .const c::xs,is=>qT c::dG xs is
 | .func f::xs,is=>.clo f []::dG xs is
 | .global _::xs,is=>.bad::dG xs is
@[reducible] def opD (δ:List D):Operand→D
 | .tmp t=>nth δ t
 | .const c=>qT c
 | .func f=>.clo f []
 | .global _=>.bad
@[reducible] def DI (a b:Nat):Nat:=match Jn a b with
 | true=>b
 | false=>a
@[reducible] def dL (K:List Kd):Operand→Nat
 | .tmp t=>match ao K t with
  | .dat lv=>lv
  | _=>9
 | .const v=>match okC v with
  | true=>0
  | false=>9
 | .func _=>0
 | .global _=>9
@[reducible] def jO (K:List Kd):List Operand→Nat
 | []=>0
 | x::xs=>DI (dL K x) (jO K xs)
@[reducible] def bT (c:Cx) (dst:Option Nat) (xs:List Operand) (lv:Nat) (h:List D→Option D):Option Ac :=
 match dst with
 | none=>none
 | some d=>match ao c.K d with
  | .dat l=>match Jn (jO c.K xs) 2 with
   | false=>none
   | true=>match Jn lv l with
    | true=>some (.one (mf xs) d fun is=>h (dG xs is))
    | false=>match Ji l 0 with
     | true=>some (.one (mf xs) d fun is=>(h (dG xs is)).bind bw)
     | false=>none
  | _=>none
@[reducible] def eF (c:Cx) (t:Nat) (f:TI→Option Ac):Option Ac:=match dj c.T t with
 | some i=>f i
 | none=>none
@[reducible] def rO (c:Cx) (i:TI) (f:Nat):Option (Nat × TI):=match AB i.fs f with
 | some (off,ty)=>match dj c.T ty with
  | some j=>some (off,j)
  | none=>none
 | none=>none
@[reducible] def fy (h:D→Option D):List D→Option D
 | [a]=>h a
 | _=>none
@[reducible] def ui (h:D→D→Option D):List D→Option D
 | [a,b]=>h a b
 | _=>none
@[reducible] def FY (h:D→D→D→Option D):List D→Option D
 | [a,b,x]=>h a b x
 | _=>none
@[reducible] def eB (r:Nat):List Kd→Nat→List Nat
 | [],_=>[]
 | .via q::K,s=>match Ji q r with
  | true=>s::eB r K (JE s)
  | false=>eB r K (JE s)
 | .ref q::K,s=>match Ji q r with
  | true=>s::eB r K (JE s)
  | false=>eB r K (JE s)
 | _::K,s=>eB r K (JE s)
@[reducible] def bE (K:List Kd):List Nat→List Nat
 | []=>[]
 | r::rs=>app (eB r K 0) (bE K rs)
def pU (ik:Option IntKind) (str:Bool) (x:D):Option D :=
 match ik,str,x with
 | some k,_,.v (.int _ n)=>some (.v (.int k (k.wrap n)))
 | none,true,.v (.string s)=>some (T s)
 | _,_,_=>none
def oV:List D→Option (List UInt8)
 | []=>some []
 | .v (.int .u8 n)::l=>(oV l).map (JT n.toNat::·)
 | _=>none
def CV (x:D):Option D :=
 match x with
 | .arr _ l=>(oV l).map fun b=>T ⟨b.toArray⟩
 | _=>none
def CG (x y:D):Option D :=
 match x,y with
 | .v (.int k a),.v (.int _ b)=>some (.v (.int k (if b<a then b else a)))
 | _,_=>none
def Dg (x y:D):Option D :=
 match x,y with
 | .v (.int k a),.v (.int _ b)=>some (.v (.int k (if a<b then b else a)))
 | _,_=>none
def EB (x:D):Option D :=
 match x with
 | .ptr l=>some (.ptr l)
 | .clo f l=>some (.clo f l)
 | _=>none
def cU (off:Nat) (r:D):Option D :=
 match r with
 | .ref i f=>some (.ref i (f+off))
 | _=>none
def cQ (r x:D):Option D :=
 match r with
 | .ref 0 0=>some x
 | _=>none
def ixD (len z:Nat) (x i:D):Option D :=
 match x,i with
 | .ptr l,.v (.int _ n)=>if 0≤n∧n<len then some (.ptr (l.drop (n.toNat*z))) else none
 | _,_=>none
def ixA (ag:Bool) (len z:Nat) (x i:D):Option D :=
 match x,i with
 | .agg l,.v (.int _ n)=>if 0≤n∧n<len then an ag z (l.drop (n.toNat*z)) else none
 | _,_=>none
def Ai (len z:Nat) (r i:D):Option D :=
 match r,i with
 | .ref j f,.v (.int _ n)=>if 0≤n∧n<len then some (.ref j (f+n.toNat*z)) else none
 | _,_=>none
def oI:List (Nat × Nat)→List D→List D→Option (List D)
 | (off,n)::ps,x::xs,cs=>if x.cells.length=n∧off+n≤cs.length∧x.cells.all D.single then oI ps xs (cd cs off x.cells) else none
 | [],[],cs=>some cs
 | _,_,_=>none
def jx (ps:List (Nat × Nat)) (z:List D) (xs:List D):Option D:=(oI ps xs z).map .agg
def kM (str:Bool) (z:Nat) (x lo:D):Option D :=
 match str,x,lo with
 | false,.arr z' l,.v (.int _ a)=>if z'=z∧0≤a∧a≤l.length then some (.arr z (l.drop a.toNat)) else none
 | true,.v (.string s),.v (.int _ a)=>if 0≤a∧a≤s.size then some (T (s.extract a.toNat s.size)) else none
 | _,_,_=>none
@[reducible] def tH (e:TI):D :=
 match e.agg with
 | true=>.agg e.zero
 | false=>match e.zero with
  | v::_=>v
  | []=>.bad
@[reducible] def fk:List Kd→List Kd→Bool
 | [],[]=>true
 | .dat a::l,.dat b::m=>match Ji a b with
  | true=>fk l m
  | false=>false
 | .own z a false::l,.own y b false::m=>match Ji a b,Ji z y with
  | true,true=>fk l m
  | _,_=>false
 | _,_=>false
@[reducible] def zB (c:Cx) (dst:Option Nat) (x:Operand) (ty:Nat):Option Ac :=
 match x with
 | .tmp t=>match ao c.K t with
  | .own z lv io=>match dst with
   | none=>none
   | some d=>match ao c.K d with
    | .via r=>match Ji r t with
     | true=>some (.one [t] d fun is=>(fy fun x=>ab x (.ref 0 0)) is)
     | false=>none
    | .own z' lv' false=>match io,Ji z z',Jn lv lv' with
     | false,true,true=>some (.many [t] [d,t] [] fun is k=>fr is 0 fun x=>k [x,.bad])
     | _,_,_=>none
    | .dat lv'=>match io,Jn 1 lv',Jn lv lv' with
     | false,true,true=>some (.many [t] [d,t] [] fun is k=>fr is 0 fun x=>k [x,.bad])
     | _,_,_=>none
    | _=>none
  | .via r=>match dst with
   | none=>none
   | some d=>match ao c.K r with
    | .own z lv io=>match ao c.K d with
     | .via r'=>match Ji r r' with
      | true=>some (.one [t] d fun is=>(fy fun x=>ab x (.ref 0 0)) is)
      | false=>none
     | .own z' lv' false=>match io,Ji z z',Jn lv lv' with
      | false,true,true=>some (.many [t,r] [d,r] [] fun is k=>fr is 0 fun p=>fr is 1 fun x=>(ab p x).bind fun y=>k [y,.bad])
      | _,_,_=>none
     | .dat lv'=>match io,Jn 1 lv',Jn lv lv' with
      | false,true,true=>some (.many [t,r] [d,r] [] fun is k=>fr is 0 fun p=>fr is 1 fun x=>(ab p x).bind fun y=>k [y,.bad])
      | _,_,_=>none
     | _=>none
    | _=>none
  | .box _ _ _=>match dst with
   | none=>none
   | some d=>match ao c.K d with
    | .ref r=>match Ji r t with
     | true=>some (.one [t] d fun is=>(fy fun x=>ab x (.ref 0 0)) is)
     | false=>none
    | _=>none
  | .ref r=>match dst with
   | none=>none
   | some d=>match ao c.K d with
    | .ref r'=>match Ji r r' with
     | true=>some (.one [t] d fun is=>(fy fun x=>ab x x) is)
     | false=>none
    | _=>none
  | .dat lv=>bT c dst [x] lv (fy some)
  | .tup ms=>match dst with
   | none=>none
   | some d=>match ao c.K d with
    | .tup ns=>match fk ms ns,Ji d t with
     | true,false=>some (.many [t] [d,t] [] fun is k=>fr is 0 fun x=>k [x,.bad])
     | _,_=>none
    | _=>none
  | _=>none
 | .const (.slice none 0 0)=>match dst with
  | none=>none
  | some d=>match ao c.K d with
   | .own z _ false=>some (.many [] [d] [] fun _ k=>k [.arr z []])
   | .dat _=>match lM d c.N with
    | true=>bT c dst [x] 0 (fun _=>some (.v (.slice none 0 0)))
    | false=>eF c ty fun i=>bT c dst [x] 0 (fun _=>some (.arr i.ez []))
   | _=>none
 | x=>bT c dst [x] (dL c.K x) (fy some)
@[reducible] def Gy {α β:Type} (f:α→β):Option α→Option β
 | none=>none
 | some a=>some (f a)
@[reducible] def xR (lv l:Nat) (h:List D→Option D):Option (List D→Option D) :=
 match Jn lv l with
 | true=>some h
 | false=>match Ji l 0 with
  | true=>some fun is=>(h is).bind bw
  | false=>none
@[reducible] def fi (K:List Kd) (r:Nat):Nat :=
 match ao K r with
 | .own _ lv _=>lv
 | .box _ lv _=>lv
 | _=>9
@[reducible] def kN (K:List Kd) (r:Nat):Bool :=
 match ao K r with
 | .own _ _ _=>true
 | _=>false
@[reducible] def Ii (K:List Kd) (r:Nat):Nat :=
 match ao K r with
 | .own z _ _=>z
 | _=>0
@[reducible] def uq (K:List Kd) (r:Nat):Bool :=
 match ao K r with
 | .own _ _ false=>true
 | _=>false
@[reducible] def Gf (c:Cx) (dst:Option Nat) (i:TI) (p:Operand):Option Ac :=
 match p with
 | .tmp q=>match ao c.K q with
  | .dat lv=>bT c dst [p] lv (fy (ldD i.agg i.n))
  | .box _ lv _=>match dst with
   | none=>none
   | some d=>match ao c.K d with
    | .dat l=>Gy (fun h=>.one [q] d h) (xR lv l (fun is=>bM i.agg i.n 0 (nth is 0)))
    | _=>none
  | .ref r=>match dst with
   | none=>none
   | some d=>match ao c.K d with
    | .dat l=>Gy (fun h=>.one [q,r] d h) (xR (fi c.K r) l (fun is=>(atD (nth is 1) (nth is 0)).bind (an i.agg i.n)))
    | _=>none
  | _=>none
 | _=>none
@[reducible] def rdP (q r:Nat):List Nat :=
 match Ji q r with
 | true=>[r]
 | false=>[q,r]
@[reducible] def goP (q r:Nat) (is:List D) (k:D→D→List D→Option Out):Option Out :=
 match Ji q r with
 | true=>match is with
  | b::is=>k b (.ref 0 0) is
  | []=>none
 | false=>match is with
  | p::b::is=>k b p is
  | _=>none
@[reducible] def stK (chk:Bool) (n:Nat) (b p y:D) (k:D→Option Out):Option Out :=
 match chk with
 | true=>(bw y).bind fun y=>(stD n b p y).bind k
 | false=>(stD n b p y).bind k
@[reducible] def zZ (c:Cx) (i:TI) (q r lv:Nat) (x:Operand):Option Ac :=
 match x with
 | .tmp s=>match ao c.K s with
  | .dat l=>match Jn l lv,Ji lv 0 with
   | true,_=>some (.many (app (rdP q r) [s]) [] [r] fun is k=>goP q r is fun b p is=>fr is 0 fun y=>stK false i.n b p y fun b=>k [b])
   | false,true=>some (.many (app (rdP q r) [s]) [] [r] fun is k=>goP q r is fun b p is=>fr is 0 fun y=>stK true i.n b p y fun b=>k [b])
   | false,false=>none
  | .own _ l false=>match Jn 1 lv,Jn l lv,Ji s r with
   | true,true,false=>some (.many (app (rdP q r) [s]) [s] [r] fun is k=>goP q r is fun b p is=>fr is 0 fun y=>stK false i.n b p y fun b=>k [.bad,b])
   | _,_,_=>none
  | _=>none
 | .global _=>none
 | .const v=>match okC v with
  | true=>some (.many (app (rdP q r) []) [] [r] fun is k=>goP q r is fun b p _=>stK false i.n b p (qT v) fun b=>k [b])
  | false=>none
 | .func f=>some (.many (app (rdP q r) []) [] [r] fun is k=>goP q r is fun b p _=>stK false i.n b p (.clo f []) fun b=>k [b])
@[reducible] def Ej (c:Cx) (i:TI) (p x:Operand):Option Ac :=
 match p with
 | .tmp q=>match ao c.K q with
  | .box _ lv _=>zZ c i q q lv x
  | .ref r=>zZ c i q r (fi c.K r) x
  | _=>none
 | _=>none
@[reducible] def Gr (c:Cx) (dst:Option Nat) (i:TI) (f:Nat) (p:Operand):Option Ac :=
 match p,rO c i f with
 | .tmp q,some (off,_)=>match ao c.K q with
  | .dat lv=>bT c dst [p] lv (fy (td off))
  | .box _ _ _=>match dst with
   | none=>none
   | some d=>match ao c.K d with
    | .ref r=>match Ji r q with
     | true=>some (.one [q] d (fy fun b=>ab b (.ref 0 off)))
     | false=>none
    | _=>none
  | .ref r=>match dst with
   | none=>none
   | some d=>match ao c.K d with
    | .ref r'=>match Ji r r' with
     | true=>some (.one [q] d (fy (cU off)))
     | false=>none
    | _=>none
  | _=>none
 | _,_=>none
@[reducible] def vu (K:List Kd) (x:Operand):Bool:=Jn (dL K x) 2
@[reducible] def jT (i:TI):Bool :=
 match i.alen,i.ez with
 | 0,0=>false
 | 0,_=>true
 | _,_=>false
@[reducible] def GQ (c:Cx) (dst:Option Nat) (i:TI) (x ix:Operand):Option Ac :=
  match x,vu c.K ix with
  | .tmp q,true=>match jT i with
    | true=>match ao c.K q with
      | .dat lv=>bT c dst [x,ix] lv (ui fun x j=>(bO i.ez x j).map .ptr)
      | .own _ _ _=>match dst with
        | none=>none
        | some d=>match ao c.K d with
          | .ref r=>match Ji r q with
            | true=>some (.one (q::mf [ix]) d fun is=>match is with
              | b::is=>fy (tp i.ez b) (dG [ix] is)
              | []=>none)
            | false=>none
          | _=>none
      | .via r=>match dst with
        | none=>none
        | some d=>match ao c.K d with
          | .ref r'=>match Ji r r',kN c.K r with
            | true,true=>some (.one (q::r::mf [ix]) d fun is=>match is with
              | p::b::is=>(ab p b).bind fun b=>fy (tp i.ez b) (dG [ix] is)
              | _=>none)
            | _,_=>none
          | _=>none
      | _=>none
    | false=>match i.alen with
     | 0=>none
     | len=>match ao c.K q with
      | .dat lv=>bT c dst [x,ix] lv (ui (ixD len i.ez))
      | .box _ _ _=>match dst with
        | none=>none
        | some d=>match ao c.K d with
          | .ref r=>match Ji r q with
            | true=>some (.one (q::mf [ix]) d fun is=>match is with
              | b::is=>(ab b (.ref 0 0)).bind fun p=>fy (Ai len i.ez p) (dG [ix] is)
              | []=>none)
            | false=>none
          | _=>none
      | .ref r=>match dst with
        | none=>none
        | some d=>match ao c.K d with
          | .ref r'=>match Ji r r' with
            | true=>some (.one (q::mf [ix]) d fun is=>match is with
              | p::is=>fy (Ai len i.ez p) (dG [ix] is)
              | []=>none)
            | false=>none
          | _=>none
      | _=>none
  | _,_=>none
@[reducible] def fX (K:List Kd) (d z lv:Nat):Bool :=
 match ao K d with
 | .own z' l false=>match Ji z z' with
  | true=>Jn lv l
  | false=>false
 | .dat l=>match Jn 1 l with
  | true=>Jn lv l
  | false=>false
 | _=>false
@[reducible] def AZ:Nat→List (Nat × Operand)→Nat→Bool
 | k,[],n=>Ji k n
 | k,(i,_)::ps,n=>match Ji i k with
  | true=>AZ (JE k) ps n
  | false=>false
@[reducible] def FZ (c:Cx) (dst:Option Nat) (i:TI) (n:Nat) (parts:List (Nat × Operand)):Option Ac :=
 let xs:=lH (fun p=>p.2) parts
 match dst with
 | none=>none
 | some d =>
  match AZ 0 parts n,Jn (n*i.ez) 16777216,fX c.K d i.ez (jO c.K xs),Jn (jO c.K xs) 2 with
  | true,true,true,true=>some (.many (mf xs) [d] [] fun is k=>(bC i.ez (dG xs is)).bind fun a=>k [a])
  | _,_,_,_=>none
@[reducible] def kv (K:List Kd) (x:Operand):Option (List Nat × Nat × Option Nat) :=
 match x with
 | .tmp t=>match ao K t with
  | .dat lv=>some ([t],lv,none)
  | .own _ lv _=>some ([t],lv,some t)
  | .via r=>match ao K r with
   | .own _ lv _=>some ([t,r],lv,some r)
   | _=>none
  | _=>none
 | .const (.slice none 0 0)=>some ([],0,none)
 | _=>none
@[reducible] def il (rd:List Nat) (is:List D) (k:D→Option Out):Option Out :=
 match rd with
 | []=>k (.arr 0 [])
 | [_]=>fr is 0 k
 | _=>fr is 0 fun p=>fr is 1 fun x=>(ab p x).bind k
@[reducible] def mW {α:Type}:Nat→List α→List α
 | 0,l=>l
 | _+1,[]=>[]
 | n+1,_::l=>mW n l
@[reducible] def iQ {α:Type}:List α→Nat
 | []=>0
 | _::l=>JE (iQ l)
@[reducible] def neO:Option Nat→Option Nat→Bool
 | some a,some b=>match Ji a b with
  | true=>false
  | false=>true
 | _,_=>true
def iE (d:D):Option D :=
 match d with
 | .arr z l=>if l.all D.isV then some (.arr z l) else none
 | _=>none
@[reducible] def BS (chk:Bool) (b:D) (k:D→Option Out):Option Out :=
 match chk with
 | true=>(iE b).bind k
 | false=>k b
@[reducible] def Ds (c:Cx) (d:Nat) (i:TI) (chk:Bool) (rs rx:List Nat) (os:Option Nat):Option Ac :=
 match os with
 | some r=>match uq c.K r,Ji (Ii c.K r) i.ez with
  | true,true=>some (.many (app rs rx) [d,r] [] fun is k=>il rs is fun a=>il rx (mW (iQ rs) is) fun b=>BS chk b fun b=>(gx i.ez i.eb a b).bind fun y=>k [y,.bad])
  | _,_=>none
 | none=>match rs with
  | []=>some (.many rx [d] [] fun is k=>il rx is fun b=>BS chk b fun b=>(gx i.ez i.eb (.arr 0 []) b).bind fun y=>k [y])
  | _=>none
@[reducible] def Fk (c:Cx) (dst:Option Nat) (i:TI) (s x:Operand):Option Ac :=
 match dst,kv c.K s,kv c.K x with
 | some d,some (rs,ls,os),some (rx,lx,ox) =>
  match neO os ox,fX c.K d i.ez (DI ls lx),fX c.K d i.ez ls with
  | true,true,_=>Ds c d i false rs rx os
  | true,false,true=>Ds c d i true rs rx os
  | _,_,_=>none
 | _,_,_=>none
@[reducible] def CU (c:Cx) (dst:Option Nat) (str:Bool) (x:Operand):Option Ac :=
 match x with
 | .tmp t=>match ao c.K t with
  | .dat _=>bT c dst [x] 0 (fy (lenD str))
  | _=>match dst,kv c.K x with
   | some d,some (rd,_,_)=>match ao c.K d with
    | .dat _=>some (.one rd d fun is=>match rd with
     | [_]=>lenD str (nth is 0)
     | _=>(ab (nth is 0) (nth is 1)).bind (lenD str))
    | _=>none
   | _,_=>none
 | _=>bT c dst [x] 0 (fy (lenD str))
@[reducible] def qK:Option Operand→Operand
 | some l=>l
 | none=>.const (.int .i64 0)
@[reducible] def xE (c:Cx) (dst:Option Nat) (i:TI) (x:Operand) (lo hi:Option Operand):Option Ac :=
 match dst,kv c.K x with
 | some d,some (rd,lv,some r)=>match uq c.K r,fX c.K d i.ez lv,vu c.K (qK lo),i.str with
  | true,true,true,false=>match hi with
   | some h=>match vu c.K h with
    | true=>some (.many (app rd (mf [qK lo,h])) [d,r] [] fun is k=>il rd is fun b =>
      (ui (ga false i.ez b) (dG [qK lo,h] (mW (iQ rd) is))).bind fun y=>k [y,.bad])
    | false=>none
   | none=>some (.many (app rd (mf [qK lo])) [d,r] [] fun is k=>il rd is fun b =>
      (fy (kM false i.ez b) (dG [qK lo] (mW (iQ rd) is))).bind fun y=>k [y,.bad])
  | _,_,_,_=>none
 | _,_=>none
@[reducible] def AO (c:Cx) (dst:Option Nat) (i:TI) (x:Operand) (lo hi:Option Operand):Option Ac :=
 match x with
 | .tmp q=>match ao c.K q with
  | .dat lv=>match hi with
   | some h=>bT c dst [x,qK lo,h] lv (FY (ga i.str i.ez))
   | none=>bT c dst [x,qK lo] lv (ui (kM i.str i.ez))
  | .own _ _ _=>xE c dst i x lo hi
  | .via _=>xE c dst i x lo hi
  | _=>none
 | _=>none
@[reducible] def Gu (c:Cx) (dst:Option Nat) (i e:TI) (n m:Operand):Option Ac :=
 match dst,vu c.K n,vu c.K m with
 | some d,true,true=>match fX c.K d i.ez 0 with
  | true=>some (.many (mf [n,m]) [d] [] fun is k=>(match dG [n,m] is with
    | [a,b]=>FQ i.ez i.eb (tH e) a b
    | _=>none).bind fun y=>k [y])
  | false=>none
 | _,_,_=>none
@[reducible] def GI (c:Cx) (dst:Option Nat) (i:TI) (x:Operand):Option Ac :=
 match dst with
 | none=>none
 | some d=>match ao c.K d with
  | .box n l false=>match Ji n i.n,vu c.K x with
   | true,true=>match Jn (dL c.K x) l with
    | true=>some (.many (mf [x]) [d] [] fun is k=>(fy (gT n) (dG [x] is)).bind fun y=>k [y])
    | false=>match Ji l 0 with
     | true=>some (.many (mf [x]) [d] [] fun is k=>(fy (fun x=>(bw x).bind (gT n)) (dG [x] is)).bind fun y=>k [y])
     | false=>none
   | _,_=>none
  | .dat l=>match vu c.K x,Jn 1 l,Jn (dL c.K x) l with
   | true,true,true=>some (.many (mf [x]) [d] [] fun is k=>(fy (gT i.n) (dG [x] is)).bind fun y=>(In y).bind fun y=>k [y])
   | _,_,_=>none
  | _=>none
@[reducible] def Ge (c:Cx) (dst:Option Nat) (i:TI):Option Ac :=
 match dst with
 | none=>none
 | some d=>match ao c.K d with
  | .box n _ false=>match Ji n i.n with
   | true=>some (.many [] [d] [] fun _ k=>k [.agg i.zero])
   | false=>none
  | _=>none
@[reducible] def GS (c:Cx) (dst:Option Nat) (x:Operand) (i:Nat):Option Ac :=
 match dst,x with
 | some d,.tmp t=>match ao c.K t with
  | .tup ms=>match ao ms i with
   | .dat lv=>match ao c.K d with
    | .dat l=>match Jn lv l with
     | true=>some (.one [t] d fun is=>bz (nth is 0) i)
     | false=>none
    | _=>none
   | .own z lv false=>match fX c.K d z lv with
    | true=>some (.many [t] [d,t] [] fun is k=>fr is 0 fun t=>(bz t i).bind fun y=>k [y,lB t i])
    | false=>none
   | _=>none
  | _=>none
 | _,_=>none
inductive Ag where
 | d (x:Operand) (chk:Bool)
 | bor (t r:Nat)
 | io (t r:Nat)
@[reducible] def og (K:List Kd) (x:Operand) (m:Kd):Option Ag :=
 match m with
 | .dat l=>match x with
  | .tmp t=>match ao K t with
   | .dat lv=>match Jn lv l with
    | true=>some (.d x false)
    | false=>match Ji l 0 with
     | true=>some (.d x true)
     | false=>none
   | .own _ _ _=>match Ji l 2 with
    | true=>some (.bor t t)
    | false=>none
   | .via r=>match Ji l 2,kN K r with
    | true,true=>some (.bor t r)
    | _,_=>none
   | _=>none
  | .global _=>none
  | .func _=>some (.d x false)
  | .const v=>match okC v with
   | true=>some (.d x false)
   | false=>none
 | .own z l true=>match x with
  | .tmp t=>match ao K t with
   | .own z' lv _=>match Ji z z',Ji l lv with
    | true,true=>some (.io t t)
    | _,_=>none
   | .via r=>match ao K r with
    | .own z' lv _=>match Ji z z',Ji l lv with
     | true,true=>some (.io t r)
     | _,_=>none
    | _=>none
   | _=>none
  | _=>none
 | .box n l true=>match x with
  | .tmp t=>match ao K t with
   | .box n' lv _=>match Ji n n',Ji l lv with
    | true,true=>some (.io t t)
    | _,_=>none
   | .ref r=>match ao K r with
    | .box n' lv _=>match Ji n n',Ji l lv with
     | true,true=>some (.io t r)
     | _,_=>none
    | _=>none
   | _=>none
  | _=>none
 | _=>none
@[reducible] def gW (K:List Kd):List Operand→List Kd→Option (List Ag)
 | [],[]=>some []
 | x::xs,m::ms=>match og K x m,gW K xs ms with
  | some a,some l=>some (a::l)
  | _,_=>none
 | _,_=>none
@[reducible] def dZ:List Ag→List Nat
 | []=>[]
 | .d x _::l=>app (mf [x]) (dZ l)
 | .bor t r::l=>match Ji t r with
  | true=>t::dZ l
  | false=>t::r::dZ l
 | .io t r::l=>match Ji t r with
  | true=>t::dZ l
  | false=>t::r::dZ l
@[reducible] def dz:List Ag→List Nat
 | []=>[]
 | .io _ r::l=>r::dz l
 | _::l=>dz l
@[reducible] def fg:List Ag→List Nat
 | []=>[]
 | .bor _ r::l=>r::fg l
 | _::l=>fg l
@[reducible] def iN:List Nat→Bool
 | []=>true
 | a::l=>match lM a l with
  | true=>false
  | false=>iN l
@[reducible] def vh:List Nat→List Nat→Bool
 | [],_=>true
 | a::l,m=>match lM a m with
  | true=>false
  | false=>vh l m
@[reducible] def fU (acc:List D):List Ag→List D→(List D→Option Out)→Option Out
 | [],_,k=>k acc
 | .d x chk::l,is,k=>match x with
  | .tmp _=>match is with
   | i::is=>match chk with
    | false=>fU (app acc [i]) l is k
    | true=>(bw i).bind fun i=>fU (app acc [i]) l is k
   | []=>none
  | .const v=>fU (app acc [qT v]) l is k
  | .func f=>fU (app acc [.clo f []]) l is k
  | .global _=>none
 | .bor t r::l,is,k=>match Ji t r with
  | true=>match is with
   | i::is=>fU (app acc [i]) l is k
   | _=>none
  | false=>match is with
   | p::i::is=>(ab p i).bind fun i=>fU (app acc [i]) l is k
   | _=>none
 | .io t r::l,is,k=>match Ji t r with
  | true=>match is with
   | i::is=>(ab i i).bind fun i=>fU (app acc [i]) l is k
   | _=>none
  | false=>match is with
   | p::i::is=>(cQ p i).bind fun i=>(ab i i).bind fun i=>fU (app acc [i]) l is k
   | _=>none
@[reducible] def AJ (K:List Kd) (d:Nat):List Kd→Bool
 | [.dat lv]=>match ao K d with
  | .dat l=>Jn lv l
  | _=>false
 | [.own z lv false]=>fX K d z lv
 | []=>true
 | ms=>match ao K d with
  | .tup ns=>fk ms ns
  | _=>false
@[reducible] def oe:List Kd→Bool
 | []=>true
 | .dat lv::l=>match Jn lv 1 with
  | true=>oe l
  | false=>false
 | .own _ lv _::l=>match Jn lv 1 with
  | true=>oe l
  | false=>false
 | _=>false
@[reducible] def ir:List Kd→Bool
 | []=>true
 | .dat lv::l=>match Ji lv 1,Jn lv 2 with
  | false,true=>ir l
  | _,_=>false
 | .own _ lv true::l=>match Ji lv 1,Jn lv 2 with
  | false,true=>ir l
  | _,_=>false
 | .box _ lv true::l=>match Ji lv 1,Jn lv 2 with
  | false,true=>ir l
  | _,_=>false
 | _=>false
@[reducible] def io0:List Kd→Bool
 | []=>true
 | .own _ lv _::l=>match Ji lv 0 with
  | true=>io0 l
  | false=>false
 | .box _ lv _::l=>match Ji lv 0 with
  | true=>io0 l
  | false=>false
 | _::l=>io0 l
@[reducible] def qH (c:Cx) (dst:Option Nat) (S:FS) (xs:List Operand):Option Ac :=
 match gW c.K xs S.pm with
 | none=>none
 | some ags =>
  let ios:=dz ags
  let bor:=fg ags
  let okB:=match bor with
   | []=>true
   | _=>match oe S.rm,io0 S.pm with
    | true,true=>vh bor ios
    | _,_=>false
  match okB,iN ios,ir S.pm with
  | true,true,true=>match dst with
   | none=>match S.rm with
    | []=>some (.many (dZ ags) [] ios fun is k=>fU [] ags is fun ds=>aq (S.f ds) fun _ us=>k (outs us ios))
    | _=>none
   | some d=>match AJ c.K d S.rm,lM d ios,S.rm with
    | true,false,[]=>some (.many (dZ ags) [d] ios fun is k=>fU [] ags is fun ds=>aq (S.f ds) fun _ us=>k (.bad::outs us ios))
    | true,false,[_]=>some (.many (dZ ags) [d] ios fun is k=>fU [] ags is fun ds=>aq (S.f ds) fun rs us=>k (nth rs 0::outs us ios))
    | true,false,_=>some (.many (dZ ags) [d] ios fun is k=>fU [] ags is fun ds=>aq (S.f ds) fun rs us=>k (.tup rs::outs us ios))
    | _,_,_=>none
  | _,_,_=>none
where
 @[reducible] outs (us:List D) (ios:List Nat):List D:=go us 0 ios
 @[reducible] go (us:List D):Nat→List Nat→List D
  | _,[]=>[]
  | j,_::l=>nth us j::go us (JE j) l
@[reducible] def vk {α:Type}:Nat→List α→List α
 | 0,_=>[]
 | _+1,[]=>[]
 | n+1,a::l=>a::vk n l
@[reducible] def jP:List Kd→Bool
 | []=>true
 | .dat lv::l=>match Ji lv 2 with
  | true=>jP l
  | false=>false
 | _=>false
@[reducible] def zT (c:Cx) (dst:Option Nat) (t f:Nat) (S:FS) (xs:List Operand):Option Ac :=
 match dst,ao c.K t,S.rm with
 | some d,.dat lt,[.dat lr]=>match gW c.K xs (vk (iQ xs) S.pm),ao c.K d with
  | some ags,.dat l=>match Jn lr l,Jn lt 2,ir (vk (iQ xs) S.pm),jP (mW (iQ xs) S.pm),dz ags,fg ags with
   | true,true,true,true,[],[]=>some (.many (t::dZ ags) [d] [] fun is k=>match is with
    | cl::is=>(Hc f (iQ (mW (iQ xs) S.pm)) cl).bind fun caps=>fU [] ags is fun ds=>aq (S.f (ds++caps)) fun rs _=>k [nth rs 0]
    | []=>none)
   | _,_,_,_,_,_=>none
  | _,_=>none
 | _,_,_=>none
@[reducible] def ry (c:Cx) (t:TI):List (Nat × Operand)→Option (List (Nat × Nat))
 | []=>some []
 | (i,_)::ps=>match rO c t i,ry c t ps with
  | some (off,ti),some l=>some ((off,ti.n)::l)
  | _,_=>none
@[reducible] def uk (z:Nat):List (Nat × Operand)→List (Nat × Nat)
 | []=>[]
 | (i,_)::ps=>(i*z,z)::uk z ps
@[reducible] def uH (f:D→D→Option D):D→List D→Option D
 | x,[]=>some x
 | x,y::ys=>(f x y).bind fun z=>uH f z ys
@[reducible] def vj (f:D→D→Option D):List D→Option D
 | x::y::xs=>uH f x (y::xs)
 | _=>none
@[reducible] def GW (c:Cx) (i:TI):Bool :=
 match jT i with
 | true=>match dj c.T i.elem with
  | some e=>match e.ik with
   | some .u8=>true
   | _=>false
  | none=>false
 | false=>false
@[reducible] def Gv (c:Cx) (dst:Option Nat) (si di:TI) (x:Operand):Option Ac :=
 match di.str,si.str,si.ez with
 | true,false,1=>match dst,kv c.K x with
  | some d,some (rd,_,_)=>match ao c.K d,GW c si with
   | .dat _,true=>some (.one rd d fun is=>match rd with
    | []=>none
    | [_]=>CV (nth is 0)
    | _=>(ab (nth is 0) (nth is 1)).bind CV)
   | _,_=>none
  | _,_=>none
 | _,_,_=>bT c dst [x] 0 (fy (pU di.ik (match di.str with
  | true=>si.str
  | false=>false)))
@[reducible] def FW (c:Cx) (dst:Option Nat) (t:TI) (x i:Operand):Option Ac :=
 match t.str with
 | true=>bT c dst [x,i] 0 (ui rH)
 | false=>match t.alen with
  | 0=>none
  | n=>eF c t.elem fun e=>bT c dst [x,i] (dL c.K x) (ui (ixA e.agg n t.ez))
@[reducible] def CI (c:Cx) (dst:Option Nat) (q:Call):Option Ac :=
 match q.callee,q.args.toList,q.argTypes.toList with
 | .builtin .len,[x],[t]=>eF c t fun i=>match jT i,i.str with
  | true,false=>CU c dst false x
  | false,true=>CU c dst true x
  | _,_=>none
 | .builtin .append,[s,x],[t,u]=>match Ji t u with
  | true=>eF c t fun i=>eF c i.elem fun _=>match jT i with
   | true=>Fk c dst i s x
   | false=>none
  | false=>none
 | .builtin .min,xs,_=>bT c dst xs 0 (vj CG)
 | .builtin .max,xs,_=>bT c dst xs 0 (vj Dg)
 | .value (.func f),xs,_=>match dj c.S f with
  | some S=>qH c dst S xs
  | none=>none
 | .value (.tmp t),xs,_=>match dj c.C t with
  | some f=>match dj c.S f with
   | some S=>zT c dst t f S xs
   | none=>none
  | none=>none
 | _,_,_=>none
@[reducible] def Gt (c:Cx) (dst:Option Nat) (i:TI) (parts:List (Nat × Operand)):Option Ac :=
 let xs:=lH (fun p=>p.2) parts
 match i.alen,i.agg with
 | 0,true=>match ry c i parts with
  | some ps=>bT c dst xs (jO c.K xs) (jx ps i.zero)
  | none=>none
 | 0,false=>none
 | _,_=>bT c dst xs (jO c.K xs) (jx (uk i.ez parts) i.zero)
@[reducible] def Gl (c:Cx) (dst:Option Nat) (x:Operand):Option Ac :=
 match x with
 | .tmp t=>match ao c.K t with
  | .box _ _ _=>match dst with
   | none=>none
   | some d=>match ao c.K d with
    | .ref r=>match Ji r t with
     | true=>some (.one [t] d fun is=>(fy fun x=>ab x (.ref 0 0)) is)
     | false=>none
    | _=>none
  | .ref r=>match dst with
   | none=>none
   | some d=>match ao c.K d with
    | .ref r'=>match Ji r r' with
     | true=>some (.one [t] d fun is=>(fy fun x=>ab x x) is)
     | false=>none
    | _=>none
  | _=>bT c dst [x] (dL c.K x) (fy EB)
 | x=>bT c dst [x] (dL c.K x) (fy EB)
@[reducible] def DJ:Operand→Bool
 | .const .nilIface=>true
 | _=>false
@[reducible] def FF:Operand→Bool
 | .const (.slice none 0 0)=>true
 | _=>false
@[reducible] def cC (c:Cx) (o:Oper):Option Ac :=
 match o.op with
 | .move x=>zB c o.dst x o.type
 | .assign x=>zB c o.dst x o.type
 | .pick q a b=>bT c o.dst [q,a,b] (DI (dL c.K a) (dL c.K b)) (FY aR)
 | .alloc t=>eF c t fun i=>Ge c o.dst i
 | .box t x=>eF c t fun i=>GI c o.dst i x
 | .build t parts=>eF c t fun i=>Gt c o.dst i parts.toList
 | .buildSlice t n parts=>eF c t fun i=>eF c i.elem fun _=>match jT i with
  | true=>FZ c o.dst i n parts.toList
  | false=>none
 | .load t p=>eF c t fun i=>Gf c o.dst i p
 | .store t p x=>match o.dst with
  | none=>eF c t fun i=>Ej c i p x
  | some _=>none
 | .nilCheck x=>Gl c o.dst x
 | .binOp op t x y _=>eF c t fun i=>match i.ifc with
  | true=>bT c o.dst [x,y] 0 (ui (HC (DJ y) op))
  | false=>match jT i,FF y with
   | true,true=>bT c o.dst [x,y] 0 (ui fun x _=>HD op x)
   | _,_=>bT c o.dst [x,y] 0 (ui (bin op i.bl i.eq))
 | .unOp op _ x=>bT c o.dst [x] 0 (fy (un op))
 | .convert src dt x=>eF c src fun si=>eF c dt fun di=>Gv c o.dst si di x
 | .makeFunc (.func f) first cap=>match first.toList,cap.toList with
  | [],[]=>bT c o.dst [] 0 (fun _=>some (.clo f []))
  | [],x::xs=>bT c o.dst (x::xs) (jO c.K (x::xs)) (Iw f)
  | _,_=>none
 | .makeSlice t n m=>eF c t fun i=>eF c i.elem fun e=>match jT i with
  | true=>Gu c o.dst i e n m
  | false=>none
 | .slice t x lo hi none=>eF c t fun i=>match jT i,i.str with
  | true,false=>AO c o.dst i x lo hi
  | false,true=>AO c o.dst i x lo hi
  | _,_=>none
 | .fieldAddr t x f=>eF c t fun i=>Gr c o.dst i f x
 | .field t x f=>eF c t fun i=>match rO c i f with
  | some (off,ti)=>bT c o.dst [x] (dL c.K x) (fy (bM ti.agg ti.n off))
  | none=>none
 | .indexAddr t x i=>eF c t fun ti=>GQ c o.dst ti x i
 | .index t x i=>eF c t fun ti=>FW c o.dst ti x i
 | .extract x i=>GS c o.dst x i
 | .call q=>CI c o.dst q
 | _=>none
@[reducible] def Hh:Ac→List Nat
 | .one rd _ _=>rd
 | .many rd _ _ _=>rd
@[reducible] def vP (ops:List Oper) (j:Nat):Option Nat :=
 match AB ops j with
 | some o=>o.dst
 | none=>none
@[reducible] def sn:Kd→D
 | .dat _=>.tup []
 | _=>.bad
@[reducible] def AK (K:List Kd) (δ:List D) (dst:Option Nat):List Nat→(List D→Option Out)→Option Out
 | [],k=>k []
 | s::ss,k=>match dst with
  | some d=>match lM s (d::eB d K 0) with
   | true=>AK K δ dst ss fun l=>k (sn (ao K s)::l)
   | false=>fr δ s fun a=>AK K δ dst ss fun l=>k (a::l)
  | none=>fr δ s fun a=>AK K δ dst ss fun l=>k (a::l)
@[reducible] def fit (l:List D):Nat→List Nat→List D
 | _,[]=>[]
 | j,_::ss=>nth l j::fit l (JE j) ss
@[reducible] def cX (c:Cx) (ops:List Oper) (o:Oper) (δ:List D) (k:List D→Option Out):Option Out :=
 match cC c o with
 | none=>none
 | some A=>match o.guard with
  | none=>match A with
   | .one rd d h=>nk δ rd fun is=>(h is).bind fun z=>dP δ (d::eB d c.K 0) [z] k
   | .many rd hw cw fn=>nk δ rd fun is=>fn is fun outs=>dP δ (app hw (app cw (bE c.K hw))) outs k
  | some (j,pol)=>match vP ops j with
   | none=>none
   | some g=>fr δ g fun gv=>match A with
    | .one rd d h=>nk δ rd fun is=>(af (sn (ao c.K d)) gv pol (h is)).bind fun z=>dP δ (d::eB d c.K 0) [z] k
    | .many rd hw cw fn=>nk δ rd fun is=>AK c.K δ o.dst (app hw cw) fun alt =>
     dD gv pol (fn is fun outs=>some (.nrm (fit outs 0 (app hw cw)))) alt fun outs =>
      dP δ (app hw (app cw (bE c.K hw))) (fit outs 0 (app hw cw)) k
@[reducible] def iR (c:Cx) (ops:List Oper):List Oper→List D→(List D→Option Out)→Option Out
 | [],δ,k=>k δ
 | o::os,δ,k=>cX c ops o δ fun δ'=>iR c ops os δ' k
@[reducible] def vZ:Nat→List D
 | 0=>[]
 | n+1=>.bad::vZ n
@[reducible] def oa:Nat→List D→List D
 | 0,_=>[]
 | n+1,[]=>.bad::oa n []
 | n+1,a::l=>a::oa n l
@[reducible] def ic (n:Nat) (hl:List Nat) (s:List D) (k:List D→Option Out):Option Out :=
 dP (vZ n) hl (fit s 0 hl) k
def iter (body:List D→Option Out):Nat→List D→Option Out
 | 0,_=>none
 | n+1,s=>match body s with
  | some (.nrm s')=>iter body n s'
  | r=>r
open Classical in
def bD (body:List D→Option Out) (s:List D):Option Out :=
 if h:∃n,(iter body n s).isSome=true then iter body (Classical.choose h) s else none
@[reducible] def cG (hl xl:List Nat) (o:Out):Option Out :=
 match o with
 | .nrm δ=>nk δ hl fun l=>some (.nrm l)
 | .ext i δ=>nk δ xl fun l=>some (.ext i l)
 | .ret a b=>some (.ret a b)
@[reducible] def ll (c:Cx) (δ:List D):List ResultVar→(List D→Option Out)→Option Out
 | [],k=>k []
 | .tmp t::l,k=>fr δ t fun a=>ll c δ l fun as'=>k (a::as')
 | .cell a t::l,k=>match dj c.T t with
  | some i=>fr δ a fun b=>(bM i.agg i.n 0 b).bind fun y=>ll c δ l fun as'=>k (y::as')
  | none=>none
@[reducible] def usK:List D→Option Out→Option Out
 | [],o=>o
 | u::us,o=>(ab u u).bind fun _=>usK us o
@[reducible] def opC (δ:List D) (x:Operand) (k:D→Option Out):Option Out :=
 match x with
 | .tmp t=>fr δ t k
 | .const c=>k (qT c)
 | .func f=>k (.clo f [])
 | .global _=>none
@[reducible] def Gg (o:Out) (f:List D→Option Out) (k:Out→Option Out):Option Out :=
 match o with
 | .nrm δ=>f δ
 | .ext i δ=>k (.ext i δ)
 | .ret a b=>k (.ret a b)
@[reducible] def At (id:Nat) (o:Out) (k:Out→Option Out):Option Out :=
 match o with
 | .nrm δ=>k (.nrm δ)
 | .ext i δ=>match Ji i id with
  | true=>k (.nrm δ)
  | false=>k (.ext i δ)
 | .ret a b=>k (.ret a b)
def dH (o:Out) (x:Nat→List D→Option Out) (r:List D→List D→Option Out):Option Out :=
 match o with
 | .nrm _=>none
 | .ext i s=>x i s
 | .ret a b=>r a b
@[reducible] def den (c:Cx):Nat→Code→List D→(Out→Option Out)→Option Out
 | _,.skip,δ,k=>k (.nrm δ)
 | _,.region _ ops _,δ,k=>iR c ops.toList ops.toList δ fun δ'=>k (.nrm δ')
 | bid,.seq a b,δ,k=>den c bid a δ fun o=>Gg o (fun δ'=>den c bid b δ' k) k
 | bid,.cond x t e,δ,k=>opC δ x fun q=>ifD q (den c bid t δ k) (den c bid e δ k)
 | _,.block id b,δ,k=>den c id b δ fun o=>At id o k
 | bid,.loop b,δ,k=>match dj c.H bid with
  | none=>none
  | some (hl,xl) =>
   nk δ hl fun s=>(bD (fun s=>ic (iQ c.K) hl s fun δ=>den c bid b δ (cG hl xl)) s).bind fun o =>
    dH o (fun i s=>ic (iQ c.K) xl s fun δ=>k (.ext i δ)) (fun a b=>k (.ret a b))
 | _,.exit id,δ,k=>k (.ext id δ)
 | _,.ret,δ,k=>ll c δ c.res fun rs=>nk δ c.ios fun us=>usK us (k (.ret rs us))
 | _,_,_,_=>none
@[reducible] def cj (c:Cx) (fn:Func) (ds:List D):Option Out :=
 match fn.body with
 | none=>none
 | some b=>den c 0 b (oa fn.ntmps ds) fun o=>match o with
  | .nrm δ=>ll c δ c.res fun rs=>nk δ c.ios fun us=>usK us (some (.ret rs us))
  | .ext _ _=>none
  | .ret rs us=>some (.ret rs us)
open Go.RowKit
def cP (w:World) (b o:Nat) (us:List Value):Prop:=∀i u,us[i]?=some u→w.cell? ⟨b,o+i,none⟩=some u
mutual
def RepC (w:World) (F:Nat→Prop):D→List Value→Prop
 | .v x,vs=>vs=[x]∧flat x=true
 | .agg l,vs=>bF w F l vs∧l.all D.single=true
 | .arr z l,vs=>∃A c us,vs=[.slice A l.length c]∧l.length≤c∧bF w F l us∧(∀d∈l,d.width=z) ∧
   (l≠[]→∃b o,A=some ⟨b,o,none⟩∧F b∧cP w b o us)
 | .ptr l,vs=>∃b o us,vs=[.pointer (some ⟨b,o,none⟩)]∧bF w F l us∧l.all D.single=true∧F b∧cP w b o us
 | .clo f l,vs=>∃us:List Value,vs=[.func (.func f) #[] us.toArray]∧bF w F l us
 | .ifc,vs=>∃t x,vs=[.iface t x]
 | .raw x,vs=>vs=[x]∧∃A n c,x = .slice A n c
 | .tup _,_=>False
 | .ref _ _,_=>False
 | .bad,_=>False
def bF (w:World) (F:Nat→Prop):List D→List Value→Prop
 | [],vs=>vs=[]
 | d::ds,vs=>∃v1 v2,vs=v1++v2∧RepC w F d v1∧bF w F ds v2
end
def aU (w:World) (F:Nat→Prop) (d:D) (y:Value):Prop :=
 match d with
 | .agg l=>∃vs:List Value,y = .agg vs.toArray∧RepC w F (.agg l) vs
 | .tup l=>l=[]∧y = .tuple #[]
 | d=>RepC w F d [y]
theorem all_append {α:Type} (p:α→Bool) (a b:List α):(a++b).all p=(a.all p&&b.all p):=by simp
mutual
theorem RepC_mono {w w':World} {F F':Nat→Prop} (hF:∀b,F b→F' b) (hw:∀b,F b→w'.heap[b]?=w.heap[b]?) :
  ∀(d:D) (vs:List Value),RepC w F d vs→RepC w' F' d vs
 | .v _,_,h=>by simpa only [RepC] using h
 | .agg l,vs,h=>by
  simp only [RepC] at h ⊢;exact⟨bm hF hw l vs h.1,h.2⟩
 | .arr z l,vs,h=>by
  simp only [RepC] at h ⊢;obtain⟨A,c,us,h1,h2,h3,h4,h5⟩:=h;refine⟨A,c,us,h1,h2,bm hF hw l us h3,h4,fun hl=>?_⟩
  obtain⟨b,o,e,hb,hc⟩:=h5 hl;exact⟨b,o,e,hF b hb,fun i u hu=>(Ka (w:=w) (hw b hb)).trans (hc i u hu)⟩
 | .ptr l,vs,h=>by
  simp only [RepC] at h ⊢;obtain⟨b,o,us,h1,h2,h3,h4,h5⟩:=h;exact⟨b,o,us,h1,bm hF hw l us h2,h3,hF b h4,fun i u hu=>(Ka (w:=w) (hw b h4)).trans (h5 i u hu)⟩
 | .clo f l,vs,h=>by
  simp only [RepC] at h ⊢;obtain⟨us,h1,h2⟩:=h;exact⟨us,h1,bm hF hw l us h2⟩
 | .ifc,_,h=>by simpa only [RepC] using h
 | .raw _,_,h=>by simpa only [RepC] using h
 | .tup _,_,h=>by simp only [RepC] at h
 | .ref _ _,_,h=>by simp only [RepC] at h
 | .bad,_,h=>by simp only [RepC] at h
theorem bm {w w':World} {F F':Nat→Prop} (hF:∀b,F b→F' b) (hw:∀b,F b→w'.heap[b]?=w.heap[b]?) :
  ∀(l:List D) (vs:List Value),bF w F l vs→bF w' F' l vs
 | [],vs,h=>by simpa only [bF] using h
 | d::ds,vs,h=>by
  simp only [bF] at h ⊢;obtain⟨v1,v2,h1,h2,h3⟩:=h;exact⟨v1,v2,h1,RepC_mono hF hw d v1 h2,bm hF hw ds v2 h3⟩
end
theorem aS {w w':World} {F F':Nat→Prop} (hF:∀b,F b→F' b) (hw:∀b,F b→w'.heap[b]?=w.heap[b]?) {d:D} {y:Value} (h:aU w F d y):aU w' F' d y:=by
 cases d<;>simp only [aU] at h ⊢<;>first
  | exact h
  | exact RepC_mono hF hw _ _ h
  | (obtain⟨vs,h1,h2⟩:=h;exact⟨vs,h1,RepC_mono hF hw _ _ h2⟩)
theorem ju {w:World} {F:Nat→Prop}:∀(d:D) (vs:List Value),d.single=true→RepC w F d vs→∃y,vs=[y]∧y.cells=#[y]∧y.oneCell'=true:=by
 intro d vs hs h;cases d<;>simp only [RepC] at h<;>simp only [D.single] at hs
 case v x =>
  obtain⟨rfl,hf⟩:=h;cases x<;>simp_all [flat,JU,Value.oneCell']
 case arr z l=>obtain⟨A,c,us,rfl,_⟩:=h;exact⟨_,rfl,rfl,rfl⟩
 case ptr l=>obtain⟨b,o,us,rfl,_⟩:=h;exact⟨_,rfl,rfl,rfl⟩
 case clo f l=>obtain⟨us,rfl,_⟩:=h;exact⟨_,rfl,rfl,rfl⟩
 case ifc=>obtain⟨t,x,rfl⟩:=h;exact⟨_,rfl,rfl,rfl⟩
 case raw x=>obtain⟨rfl,A,n,c,rfl⟩:=h;exact⟨_,rfl,rfl,rfl⟩
 all_goals exact absurd hs (by simp)
theorem dN {d:D} (h:d.single=true):d.width=1∧d.cells=[d]:=by cases d<;>simp_all [D.single,D.width,D.cells]
theorem aA {w:World} {F:Nat→Prop} {d:D} {ds:List D} {vs:List Value}:bF w F (d::ds) vs↔∃v1 v2,vs=v1++v2∧RepC w F d v1∧bF w F ds v2:=by rw [bF]
theorem aP {w:World} {F:Nat→Prop} {vs:List Value}:bF w F [] vs↔vs=[]:=by rw [bF]
theorem cM {w:World} {F:Nat→Prop}:∀(l m:List D) (vs:List Value),bF w F (l++m) vs↔∃v1 v2,vs=v1++v2∧bF w F l v1∧bF w F m v2
 | [],m,vs=>by
  rw [JR];exact⟨fun h=>⟨[],vs,rfl,aP.2 rfl,h⟩,fun⟨v1,v2,e,h1,h2⟩=>by rw [aP.1 h1] at e;rw [e];exact h2⟩
 | d::l,m,vs=>by
  rw [Kj,aA];constructor
  ·rintro⟨v1,v2,rfl,h1,h2⟩
   obtain⟨u1,u2,rfl,h3,h4⟩:=(cM l m v2).1 h2;exact⟨v1++u1,u2,by simp,aA.2 ⟨v1,u1,rfl,h1,h3⟩,h4⟩
  ·rintro⟨v1,v2,rfl,h1,h2⟩
   obtain⟨u1,u2,rfl,h3,h4⟩:=aA.1 h1;exact⟨u1,u2++v2,by simp,h3,(cM l m _).2 ⟨u2,v2,rfl,h4,h2⟩⟩
theorem cz {w:World} {F:Nat→Prop}:∀(l:List D) (vs:List Value),l.all D.single=true→bF w F l vs→vs.length=l.length∧(∀u∈vs,u.oneCell'=true∧u.cells=#[u])∧∀(i:Nat) (d:D),l[i]?=some d→∃u,vs[i]?=some u∧RepC w F d [u]
 | [],vs,_,h=>by rw [aP] at h;subst h;simp
 | d::l,vs,hs,h=>by
  obtain⟨v1,v2,rfl,h1,h2⟩:=aA.1 h;simp only [JI,Jk] at hs;obtain⟨y,rfl,hy,hy'⟩:=ju d v1 hs.1 h1;obtain⟨g1,g2,g3⟩:=cz l v2 hs.2 h2;refine⟨by simp [g1],?_,?_⟩
  ·intro u hu
   rcases JS.1 hu with hu | hu
   ·simp at hu;subst hu;exact⟨hy',hy⟩
   ·exact g2 u hu
  ·intro i e he
   cases i with
   | zero=>simp at he;subst he;exact⟨y,rfl,h1⟩
   | succ i=>simpa using g3 i e (by simpa using he)
theorem kg {w:World} {F:Nat→Prop} {d:D} {vs:List Value} (h:RepC w F d vs):(∃l,d = .agg l)∨d.single=true:=by
 cases d
 case agg l=>exact .inl ⟨l,rfl⟩
 case tup l=>simp only [RepC] at h
 case ref i f=>simp only [RepC] at h
 case bad=>simp only [RepC] at h
 all_goals exact .inr rfl
theorem mF {w:World} {F:Nat→Prop} {d:D} {vs:List Value} (h:RepC w F d vs):vs.length=d.width:=by
 rcases kg h with ⟨l,rfl⟩ | hs
 ·simp only [RepC] at h
  simpa [D.width,D.cells] using (cz l vs h.2 h.1).1
 ·obtain⟨y,rfl,_⟩:=ju _ _ hs h
  rw [(dN hs).1];rfl
theorem dg {w:World} {F:Nat→Prop} {z:Nat}:∀(l:List D) (vs:List Value),bF w F l vs→(∀d∈l,d.width=z)→vs.length=l.length*z
 | [],vs,h,_=>by rw [aP] at h;subst h;simp
 | d::l,vs,h,hw=>by
  obtain⟨v1,v2,rfl,h1,h2⟩:=aA.1 h;rw [List.length_append,mF h1,dg l v2 h2 (fun d hd=>hw d (by simp [hd])),hw d (by simp)];simp [Nat.succ_mul,Nat.add_comm]
theorem mi {w:World} {F:Nat→Prop} {z:Nat} (l:List D) (vs:List Value) (h:bF w F l vs) (hw:∀d∈l,d.width=z) (i:Nat) (d:D) (hd:l[i]?=some d) :
  ∃p m q,vs=p++m++q∧p.length=i*z∧m.length=z∧RepC w F d m∧bF w F (l.take i) p∧bF w F (l.drop (i+1)) q:=by
 have hi:i<l.length:=(Jt.1 hd).1;have e:l=l.take i++(d::l.drop (i+1)):=by
  have h1:l[i]=d:=(Jt.1 hd).2
  conv=>lhs;rw [←JZ i l,List.drop_eq_getElem_cons hi,h1]
 rw [e] at h;obtain⟨p,r,rfl,hp,hr⟩:=(cM _ _ _).1 h;obtain⟨m,q,rfl,hm,hq⟩:=aA.1 hr;refine⟨p,m,q,by simp,?_,?_,hm,hp,hq⟩
 ·rw [dg _ _ hp (fun d hd=>hw d (Jv hd)),Jz]
  rw [Kl (by omega)]
 ·rw [mF hm];exact hw d (List.mem_of_getElem? hd)
theorem iK {w:World} {F:Nat→Prop} {z:Nat} (l:List D) (vs:List Value) (h:bF w F l vs) (hw:∀d∈l,d.width=z) (i:Nat):bF w F (l.take i) (vs.take (i*z))∧bF w F (l.drop i) (vs.drop (i*z)):=by
 by_cases hi:i≤l.length
 ·rw [←JZ i l] at h
  obtain⟨p,q,rfl,hp,hq⟩:=(cM _ _ _).1 h;have hl:p.length=i*z:=by
   rw [dg _ _ hp (fun d hd=>hw d (Jv hd)),Jz,Kl hi]
  exact⟨by rw [←hl];simpa using hp,by rw [←hl];simpa using hq⟩
 ·have hl:=dg l vs h hw
  have h2:vs.length≤i*z:=by rw [hl];exact Nat.mul_le_mul_right _ (by omega)
  rw [JV h2,JG h2,JV (by omega),JG (by omega)];exact⟨h,aP.2 rfl⟩
theorem jr {w:World} {F:Nat→Prop} (l:List D) (vs:List Value) (hs:l.all D.single=true) (h:bF w F l vs) (i:Nat):bF w F (l.take i) (vs.take i)∧bF w F (l.drop i) (vs.drop i):=by
 have:=iK (z:=1) l vs h (fun d hd=>(dN (JA.1 hs d hd)).1) i;simpa using this
theorem AD {α:Type} {p:α→Bool} {l:List α} (h:l.all p=true) (i:Nat):(l.take i).all p=true:=JA.2 fun x hx=>JA.1 h x (Jv hx)
theorem lQ {α:Type} {p:α→Bool} {l:List α} (h:l.all p=true) (i:Nat):(l.drop i).all p=true:=JA.2 fun x hx=>JA.1 h x (JJ hx)
theorem cP.take {w:World} {b o:Nat} {us:List Value} (h:cP w b o us) (n:Nat):cP w b o (us.take n):=fun i u hu=>h i u (by
 rw [List.getElem?_take] at hu;split at hu
 ·exact hu
 ·cases hu)
theorem cP.drop {w:World} {b o:Nat} {us:List Value} (h:cP w b o us) (n:Nat):cP w b (o+n) (us.drop n):=fun i u hu=>by
 rw [Kf] at hu;rw [Kc];exact h _ u hu
theorem cP.part {w:World} {b o:Nat} {p m q:List Value} (h:cP w b o (p++m++q)):cP w b (o+p.length) m:=fun i u hu=>by
 rw [Kc];refine h _ u ?_
 have hi:i<m.length:=by
  rcases Kg i m.length with hi | hi
  ·exact hi
  ·rw [List.getElem?_eq_none hi] at hu;cases hu
 rw [List.append_assoc,List.getElem?_append_right (by omega),Nat.add_sub_cancel_left,List.getElem?_append_left hi];exact hu
theorem gL {w:World} {F:Nat→Prop} {d:D} {y:Value} (hs:d.single=true):aU w F d y↔RepC w F d [y]:=by
 cases d<;>simp_all [D.single,aU]
theorem CK {w:World} {F:Nat→Prop} {d:D} {y:Value} (h:aU w F d y) (hn:∀l,d ≠ .tup l):(∃l,d = .agg l)∨d.single=true:=by
 cases d
 case agg l=>exact .inl ⟨l,rfl⟩
 case tup l=>exact absurd rfl (hn l)
 all_goals exact(kg (vs:=[y]) h).elim (fun⟨_,e⟩=>by cases e) .inr
theorem mu {d:D} (h:d.cells.all D.single=true) (l:List D):d ≠ .tup l:=by
 rintro rfl;simp [D.cells,D.single] at h
theorem dV {w:World} {F:Nat→Prop} {d:D} {y:Value} (h:aU w F d y) (hn:∀l,d ≠ .tup l):RepC w F d y.cells.toList∧d.cells.all D.single=true∧bF w F d.cells y.cells.toList:=by
 rcases CK h hn with ⟨l,rfl⟩ | hs
 ·obtain⟨vs,rfl,hr⟩:=h
  have hr':=hr;simp only [RepC] at hr';exact⟨by simpa [JU] using hr,hr'.2,by simpa [JU,D.cells] using hr'.1⟩
 ·rw [gL hs] at h
  obtain⟨u,hu,hc,_⟩:=ju _ _ hs h;simp at hu;subst hu;rw [(dN hs).2,hc];exact⟨h,by simp [hs],aA.2 ⟨_,[],by simp,h,aP.2 rfl⟩⟩
theorem eG {w:World} {F:Nat→Prop} {x y:Value}:aU w F (.v x) y↔y=x∧flat x=true:=by simp [aU,RepC]
theorem DN {w:World} {F:Nat→Prop} {y:Value}:¬aU w F .bad y:=by simp [aU,RepC]
theorem Gk {w:World} {F:Nat→Prop} {d:D} {y:Value} (h:aU w F d y):d ≠ .bad:=fun e=>DN (e ▸ h)
theorem rj {w w':World} {F F':Nat→Prop}:∀(l:List D) (vs:List Value),(l.all fun | .v _=>true | _=>false)=true→bF w F l vs→bF w' F' l vs
 | [],vs,_,h=>by simpa only [bF] using h
 | d::l,vs,hv,h=>by
  obtain⟨v1,v2,rfl,h1,h2⟩:=aA.1 h;simp only [JI,Jk] at hv;refine aA.2 ⟨v1,v2,rfl,?_,rj l v2 hv.2 h2⟩
  cases d<;>simp at hv;simpa only [RepC] using h1
theorem ml {w w':World} {F F':Nat→Prop} {d:D} {y:Value} (hv:d.isV=true) (h:aU w F d y):aU w' F' d y:=by
 cases d
 case v x=>exact eG.2 (eG.1 h)
 case agg l =>
  obtain⟨vs,rfl,hr⟩:=h;refine⟨vs,rfl,?_⟩
  simp only [RepC] at hr ⊢;exact⟨rj l vs hv hr.1,hr.2⟩
 all_goals exact absurd hv (by simp [D.isV])
def fj:List D→List Value→Bool
 | [],[]=>true
 | .v (.int k a)::l,.int k' b::m=>k==k'&&a==b&&fj l m
 | .v (.bool a)::l,.bool b::m=>a==b&&fj l m
 | .v (.string a)::l,.string b::m=>a.data.toList==b.data.toList&&fj l m
 | .v .nilFunc::l,.nilFunc::m=>fj l m
 | .v .nilIface::l,.nilIface::m=>fj l m
 | .v (.pointer none)::l,.pointer none::m=>fj l m
 | .arr _ []::l,.slice none 0 0::m=>fj l m
 | _,_=>false
def wG (P:Program):List Field→List (Nat × Nat)→Bool
 | [],[]=>true
 | f::fs,(o,t)::l=>f.offset==o&&f.type==t&&(match P.info? t with
  | some x=>x.size != 0
  | none=>false)&&wG P fs l
 | _,_=>false
def Gn (P:Program) (t c:Nat):Bool :=
 match P.underlying t with
 | some (.int _)=>c==1
 | some .bool=>c==2
 | some .string=>c==3
 | _=>false
def Bm (P:Program):Nat→List Field→List Nat→Bool
 | _,[],[]=>true
 | n,f::fs,c::cs=>f.name != "_"&&f.offset==n&&Gn P f.type c&&Bm P (n+1) fs cs
 | _,_,_=>false
def rM:Value→Bool
 | .agg _=>true
 | _=>false
def Ck (P:Program) (t:Nat) (i:TI):Bool :=
 match P.info? t,P.underlying t with
 | some x,some u =>
  (!i.ifc||(match u with
   | .interface _=>true
   | _=>false))&&x.size==i.n&&(match x.zero with
   | some z=>fj i.zero z.cells.toList&&rM z==i.agg&&i.zero.length==i.n
   | none=>false) &&
  (match u with
   | .struct fs=>i.agg&&i.alen==0&&i.ez==0&&i.ik==none && !i.str && !i.bl&&wG P fs.toList i.fs &&
     (i.eq==[]||(Bm P 0 fs.toList i.eq&&fs.size==i.n && !P.eqGuardType P.depth t && !P.stoodInHeld t))
   | .array n e=>i.agg&&i.alen==n&&n != 0&&i.elem==e&&i.fs==[]&&i.ik==none && !i.str && !i.bl&&i.eq==[]&&(match P.info? e with
    | some y=>y.size==i.ez&&y.size != 0
    | none=>false)&&i.n==n*i.ez
   | .slice e=>!i.agg&&i.alen==0&&i.elem==e&&i.fs==[]&&i.ik==none && !i.str && !i.bl&&i.eq==[]&&(match P.info? e with
    | some y=>y.size==i.ez&&y.size != 0&&y.bytes==i.eb&&y.bytes != 0
    | none=>false)
   | .int k=>!i.agg&&i.alen==0&&i.ez==0&&i.fs==[]&&i.ik==some k && !i.str && !i.bl&&i.eq==[]
   | .string=>!i.agg&&i.alen==0&&i.ez==0&&i.fs==[]&&i.ik==none&&i.str && !i.bl&&i.eq==[]
   | .bool=>!i.agg&&i.alen==0&&i.ez==0&&i.fs==[]&&i.ik==none && !i.str&&i.bl&&i.eq==[]
   | _=>!i.agg&&i.alen==0&&i.ez==0&&i.fs==[]&&i.ik==none && !i.str && !i.bl&&i.eq==[])
 | _,_=>false
def okT (P:Program):List (Nat × TI)→Bool
 | []=>true
 | (t,i)::l=>Ck P t i&&okT P l
theorem As {α:Type}:∀(l:List (Nat × α)) (n:Nat) (a:α),dj l n=some a→(n,a)∈l
 | [],_,_,h=>by simp [dj] at h
 | (k,b)::l,n,a,h=>by
  simp only [dj] at h;split at h
  ·rename_i hb
   have:k=n:=Jx hb;subst this;cases h;simp
  ·exact Kb _ (As l n a h)
theorem ER {P:Program} {T:List (Nat × TI)} (h:okT P T=true) {t:Nat} {i:TI} (hl:dj T t=some i):Ck P t i=true:=by
 have:=As T t i hl;clear hl;induction T with
 | nil=>cases this
 | cons p T ih =>
  obtain⟨t',i'⟩:=p;simp only [okT,Jk] at h;rcases JC.1 this with e | e
  ·cases e;exact h.1
  ·exact ih h.2 e
structure TOk (P:Program) (t:Nat) (i:TI):Prop where
 info:∃x z,P.info? t=some x∧x.size=i.n∧x.zero=some z∧fj i.zero z.cells.toList=true∧rM z=i.agg
 zl:i.zero.length=i.n
 und:(P.underlying t).isSome=true
 agg:∀w:World,(isAgg t).run P w = .ok i.agg w
 sl:i.ez≠0→i.alen=0→P.underlying t=some (.slice i.elem)∧i.agg=false∧0<i.ez∧0<i.eb∧∃y,P.info? i.elem=some y∧y.size=i.ez∧y.bytes=i.eb
 ar:i.alen≠0→P.underlying t=some (.array i.alen i.elem)∧i.agg=true∧0<i.ez∧i.n=i.alen*i.ez∧∃y,P.info? i.elem=some y∧y.size=i.ez
 fs:∀(f:Nat) (o ty:Nat),i.fs[f]?=some (o,ty)→∃fs fl,P.underlying t=some (.struct fs)∧fs[f]?=some fl∧fl.offset=o∧fl.type=ty∧i.agg=true∧∃y,P.info? ty=some y∧y.size≠0
 st:i.agg=true→i.alen=0→∃fs,P.underlying t=some (.struct fs)∧wG P fs.toList i.fs=true
 eq:i.eq≠[]→∃fs,P.underlying t=some (.struct fs)∧Bm P 0 fs.toList i.eq=true∧fs.size=i.n∧P.eqGuardType P.depth t=false∧P.stoodInHeld t=false
 ik:∀k,i.ik=some k→P.underlying t=some (.int k)
 str:i.str=true→P.underlying t=some .string∧i.ez=0∧i.alen=0
 bl:i.bl=true→P.underlying t=some .bool
 ifc:i.ifc=true→∃ms,P.underlying t=some (.interface ms)
theorem zK {P:Program}:∀(fs:List Field) (l:List (Nat × Nat)),wG P fs l=true→∀(f o ty:Nat),l[f]?=some (o,ty)→∃fl,fs[f]?=some fl∧fl.offset=o∧fl.type=ty∧∃y,P.info? ty=some y∧y.size≠0
 | [],[],_,f,o,ty,h=>by simp at h
 | g::fs,(o',t')::l,hk,f,o,ty,h=>by
  simp only [wG,Jk,beq_iff_eq] at hk;obtain⟨⟨⟨h1,h2⟩,h3⟩,h4⟩:=hk;cases f with
  | zero =>
   simp at h;obtain⟨rfl,rfl⟩:=h;refine⟨g,rfl,h1,h2,?_⟩
   split at h3
   ·rename_i x hx;exact⟨x,hx,by simpa using h3⟩
   ·cases h3
  | succ f=>exact zK fs l h4 f o ty (by simpa using h)
 | [],_::_,hk,_,_,_,_=>by simp [wG] at hk
 | _::_,[],hk,_,_,_,_=>by simp [wG] at hk
def DV:TypeDesc→Bool
 | .struct _=>true
 | .array _ _=>true
 | _=>false
theorem uD {P:Program} {t:Nat} {i:TI} (h:Ck P t i=true):TOk P t i:=by
 unfold Ck at h;split at h
 case h_2=>cases h
 case h_1 x u hx hu =>
  simp only [Jk] at h;obtain⟨⟨⟨hif,hn⟩,hz⟩,hk⟩:=h;have hifc:i.ifc=true→∃ms,P.underlying t=some (.interface ms):=by
   intro e;rw [e] at hif;simp only [Bool.not_true,Bool.false_or] at hif;split at hif
   ·rename_i ms;exact⟨ms,hu⟩
   ·cases hif
  clear hif;have hinfo:∃x z,P.info? t=some x∧x.size=i.n∧x.zero=some z∧fj i.zero z.cells.toList=true∧rM z=i.agg:=by
   split at hz
   ·rename_i z hzz
    simp only [Jk,beq_iff_eq] at hz;exact⟨x,z,hx,by simpa using hn,hzz,hz.1.1,hz.1.2⟩
   ·cases hz
  have hzl:i.zero.length=i.n:=by
   split at hz
   ·simp only [Jk,beq_iff_eq] at hz
    exact hz.2
   ·cases hz
  have hund:(P.underlying t).isSome=true:=by rw [hu];rfl
  have hagg:∀(w:World) (b:Bool),DV u=b→(isAgg t).run P w = .ok b w:=by
   intro w b hb;subst hb;simp only [isAgg,Jl,run_underlying hu,Jj];cases u<;>rfl
  have mk:∀(b:Bool),DV u=false→i.agg=false→i.alen=0→i.ez=0→i.fs=[]→i.eq=[] →
    (∀k,i.ik=some k→P.underlying t=some (.int k))→(i.str=true→P.underlying t=some .string)→(i.bl=true→P.underlying t=some .bool)→TOk P t i:=by
   intro _ hb a1 a2 a3 a4 a5 a6 a7 a8;exact⟨hinfo,hzl,hund,fun w=>hagg w _ (hb.trans a1.symm),fun h=>absurd a3 h,fun h=>absurd a2 h,fun f o ty hf=>by(rw [a4] at hf;simp at hf),fun h=>by(rw [a1] at h;cases h),fun h=>absurd a5 h,a6,fun h=>⟨a7 h,a3,a2⟩,a8,hifc⟩
  have other:(!i.agg&&i.alen==0&&i.ez==0&&i.fs==[]&&i.ik==none && !i.str && !i.bl&&i.eq==[])=true →
    (i.agg=false→i.alen=0→i.ez=0→i.fs=[]→i.eq=[]→(∀k,i.ik=some k→P.underlying t=some (.int k))→(i.str=true→P.underlying t=some .string)→(i.bl=true→P.underlying t=some .bool)→TOk P t i)→TOk P t i:=by
   intro hk mk;simp only [Jk,Jr,beq_iff_eq] at hk;obtain⟨⟨⟨⟨⟨⟨⟨a1,a2⟩,a3⟩,a4⟩,a5⟩,a6⟩,a7⟩,a8⟩:=hk;exact mk a1 a2 a3 a4 a8 (fun k' hk=>by(rw [a5] at hk;cases hk)) (fun h=>by(rw [a6] at h;cases h)) (fun h=>by(rw [a7] at h;cases h))
  clear hz hn
  match u,hu,hk,hagg,mk with
  | .struct fs,hu,hk,hagg,_ =>
   simp only [Jk,Jr,beq_iff_eq] at hk;obtain⟨⟨⟨⟨⟨⟨⟨a1,a2⟩,a3⟩,a4⟩,a5⟩,a6⟩,a7⟩,a8⟩:=hk;refine⟨hinfo,hzl,hund,fun w=>hagg w _ a1.symm,fun h=>absurd a3 h,fun h=>absurd a2 h,fun f o ty hf=>?_,fun _ _=>⟨fs,hu,a7⟩,fun he=>?_,fun k hk=>by(rw [a4] at hk;cases hk),fun h=>by(rw [a5] at h;cases h),fun h=>by(rw [a6] at h;cases h),hifc⟩
   ·obtain⟨fl,h1,h2,h3,h4⟩:=zK _ _ a7 f o ty hf
    exact⟨fs,fl,hu,by simpa using h1,h2,h3,a1,h4⟩
   ·simp only [Bool.or_eq_true,beq_iff_eq,Jk,Jr] at a8
    rcases a8 with a8 | a8
    ·exact absurd a8 he
    ·exact⟨fs,hu,a8.1.1.1,a8.1.1.2,a8.1.2,a8.2⟩
  | .array n e,hu,hk,hagg,_ =>
   simp only [Jk,Jr,beq_iff_eq,bne_iff_ne,ne_eq] at hk;obtain⟨⟨⟨⟨⟨⟨⟨⟨⟨⟨a1,a2⟩,a3⟩,a4⟩,a5⟩,a6⟩,a7⟩,a8⟩,a9⟩,a10⟩,a11⟩:=hk;refine⟨hinfo,hzl,hund,fun w=>hagg w _ a1.symm,fun _ h=>absurd (a2 ▸ h) a3,fun _=>?_,fun f o ty hf=>by(rw [a5] at hf;simp at hf),fun _ h=>absurd (a2 ▸ h) a3,fun h=>absurd a9 h,fun k hk=>by(rw [a6] at hk;cases hk),fun h=>by(rw [a7] at h;cases h),fun h=>by(rw [a8] at h;cases h),hifc⟩
   split at a10
   ·rename_i y hy
    simp only [Jk,beq_iff_eq,bne_iff_ne,ne_eq] at a10;refine⟨by rw [hu,a2,a4],a1,by omega,by rw [a2];exact a11,y,by rw [a4];exact hy,a10.1⟩
   ·cases a10
  | .slice e,hu,hk,hagg,_ =>
   simp only [Jk,Jr,beq_iff_eq] at hk;obtain⟨⟨⟨⟨⟨⟨⟨⟨a1,a2⟩,a3⟩,a4⟩,a5⟩,a6⟩,a7⟩,a8⟩,a9⟩:=hk;refine⟨hinfo,hzl,hund,fun w=>hagg w _ a1.symm,fun _ _=>?_,fun h=>absurd a2 h,fun f o ty hf=>by(rw [a4] at hf;simp at hf),fun h=>by(rw [a1] at h;cases h),fun h=>absurd a8 h,fun k hk=>by(rw [a5] at hk;cases hk),fun h=>by(rw [a6] at h;cases h),fun h=>by(rw [a7] at h;cases h),hifc⟩
   split at a9
   ·rename_i y hy
    simp only [Jk,beq_iff_eq,bne_iff_ne,ne_eq] at a9;obtain⟨⟨⟨b1,b2⟩,b3⟩,b4⟩:=a9;exact⟨by rw [hu,a3],a1,by omega,by omega,y,by rw [a3];exact hy,b1,b3⟩
   ·cases a9
  | .int k,hu,hk,_,mk =>
   simp only [Jk,Jr,beq_iff_eq] at hk;obtain⟨⟨⟨⟨⟨⟨⟨a1,a2⟩,a3⟩,a4⟩,a5⟩,a6⟩,a7⟩,a8⟩:=hk;exact mk true rfl a1 a2 a3 a4 a8 (fun k' hk=>by rw [a5] at hk;cases hk;exact hu) (fun h=>by rw [a6] at h;cases h) (fun h=>by rw [a7] at h;cases h)
  | .string,hu,hk,_,mk =>
   simp only [Jk,Jr,beq_iff_eq] at hk;obtain⟨⟨⟨⟨⟨⟨⟨a1,a2⟩,a3⟩,a4⟩,a5⟩,a6⟩,a7⟩,a8⟩:=hk;exact mk true rfl a1 a2 a3 a4 a8 (fun k' hk=>by rw [a5] at hk;cases hk) (fun _=>hu) (fun h=>by rw [a7] at h;cases h)
  | .bool,hu,hk,_,mk =>
   simp only [Jk,Jr,beq_iff_eq] at hk;obtain⟨⟨⟨⟨⟨⟨⟨a1,a2⟩,a3⟩,a4⟩,a5⟩,a6⟩,a7⟩,a8⟩:=hk;exact mk true rfl a1 a2 a3 a4 a8 (fun k' hk=>by rw [a5] at hk;cases hk) (fun h=>by rw [a6] at h;cases h) (fun _=>hu)
  | .invalid,_,hk,_,mk=>exact other hk (mk true rfl)
  | .float _,_,hk,_,mk=>exact other hk (mk true rfl)
  | .complex _,_,hk,_,mk=>exact other hk (mk true rfl)
  | .unsafePointer,_,hk,_,mk=>exact other hk (mk true rfl)
  | .pointer _,_,hk,_,mk=>exact other hk (mk true rfl)
  | .map _ _,_,hk,_,mk=>exact other hk (mk true rfl)
  | .chan _ _,_,hk,_,mk=>exact other hk (mk true rfl)
  | .func _ _ _,_,hk,_,mk=>exact other hk (mk true rfl)
  | .interface _,_,hk,_,mk=>exact other hk (mk true rfl)
  | .tuple _,_,hk,_,mk=>exact other hk (mk true rfl)
  | .named _ _,_,hk,_,mk=>exact other hk (mk true rfl)
theorem TOk.size {P:Program} {t:Nat} {i:TI} (h:TOk P t i) (w:World):(sizeOf t).run P w = .ok i.n w:=by
 obtain⟨x,z,hx,hn,_⟩:=h.info;simp [sizeOf,typeInfo,hx,hn]
theorem dn {P:Program} {e:Nat} {y:TypeInfo} (h:P.info? e=some y) (w:World):(sizeOf e).run P w = .ok y.size w:=by simp [sizeOf,typeInfo,h]
theorem sZ {w:World} {F:Nat→Prop} {x:Value} (h:flat x=true):RepC w F (.v x) [x]:=by simp only [RepC];exact⟨trivial,h⟩
theorem uO {w:World} {F:Nat→Prop} {z:Nat}:RepC w F (.arr z []) [.slice none 0 0]:=by
 simp only [RepC];exact⟨none,0,[],rfl,JM _,aP.2 rfl,fun d hd=>(List.not_mem_nil hd).elim,fun h=>absurd rfl h⟩
theorem dC {w:World} {F:Nat→Prop}:∀(l:List D) (vs:List Value),fj l vs=true→bF w F l vs∧l.all D.single=true
 | [],[],_=>⟨aP.2 rfl,rfl⟩
 | .v (.int k a)::l,.int k' b::m,h=>by
  simp only [fj,Jk,beq_iff_eq] at h;obtain⟨⟨rfl,rfl⟩,h⟩:=h;obtain⟨g1,g2⟩:=dC (w:=w) (F:=F) l m h;exact⟨aA.2 ⟨_,_,rfl,sZ rfl,g1⟩,by simp [D.single,g2]⟩
 | .v (.bool a)::l,.bool b::m,h=>by
  simp only [fj,Jk,beq_iff_eq] at h;obtain⟨rfl,h⟩:=h;obtain⟨g1,g2⟩:=dC (w:=w) (F:=F) l m h;exact⟨aA.2 ⟨_,_,rfl,sZ rfl,g1⟩,by simp [D.single,g2]⟩
 | .v (.string a)::l,.string b::m,h=>by
  simp only [fj,Jk,beq_iff_eq] at h;obtain⟨h1,h⟩:=h;have e:a=b:=by
   obtain⟨⟨a⟩⟩:=a;obtain⟨⟨b⟩⟩:=b;simpa using h1
  subst e;obtain⟨g1,g2⟩:=dC (w:=w) (F:=F) l m h;exact⟨aA.2 ⟨_,_,rfl,sZ rfl,g1⟩,by simp [D.single,g2]⟩
 | .v .nilFunc::l,.nilFunc::m,h=>by
  obtain⟨g1,g2⟩:=dC (w:=w) (F:=F) l m (by simpa [fj] using h);exact⟨aA.2 ⟨_,_,rfl,sZ rfl,g1⟩,by simp [D.single,g2]⟩
 | .v .nilIface::l,.nilIface::m,h=>by
  obtain⟨g1,g2⟩:=dC (w:=w) (F:=F) l m (by simpa [fj] using h);exact⟨aA.2 ⟨_,_,rfl,sZ rfl,g1⟩,by simp [D.single,g2]⟩
 | .v (.pointer none)::l,.pointer none::m,h=>by
  obtain⟨g1,g2⟩:=dC (w:=w) (F:=F) l m (by simpa [fj] using h);exact⟨aA.2 ⟨_,_,rfl,sZ rfl,g1⟩,by simp [D.single,g2]⟩
 | .arr z []::l,.slice none 0 0::m,h=>by
  obtain⟨g1,g2⟩:=dC (w:=w) (F:=F) l m (by simpa [fj] using h);exact⟨aA.2 ⟨_,_,rfl,uO,g1⟩,by simp [D.single,g2]⟩
theorem CY {e:TI} (h:e.zero.all D.single=true) {m:List D} (hm:tH e = .tup m):False:=by
 unfold tH at hm;cases hg:e.agg<;>rw [hg] at hm<;>simp only at hm
 ·cases hz:e.zero with
  | nil=>rw [hz] at hm;cases hm
  | cons d l =>
   rw [hz] at h hm;simp only at hm;subst hm;simp [D.single] at h
 ·cases hm
theorem TOk.zero {P:Program} {t:Nat} {i:TI} (h:TOk P t i):∃z,(∀w:World,(zeroValue t).run P w = .ok z w)∧(∀(w:World) (F:Nat→Prop),aU w F (tH i) z∧bF w F i.zero z.cells.toList)∧i.zero.all D.single=true∧z.cells.size=i.zero.length:=by
 obtain⟨x,z,hx,hn,hz,h0,ha⟩:=h.info;obtain⟨_,hs⟩:=dC (w:=default) (F:=fun _=>True) _ _ h0;refine⟨z,fun w=>by simp [zeroValue,typeInfo,hx,hz],fun w F=>?_,hs,?_⟩
 ·obtain⟨g,_⟩:=dC (w:=w) (F:=F) _ _ h0
  refine⟨?_,g⟩
  unfold tH;cases hb:i.agg
  ·cases z<;>first
    | (simp only [rM] at ha;rw [hb] at ha;cases ha)
    | skip
   all_goals
    simp only [JU] at g;generalize i.zero=l at g hs;cases l with
    | nil=>rw [aP] at g;cases g
    | cons d l =>
     obtain⟨v1,v2,e,h1,h2⟩:=aA.1 g;simp only [JI,Jk] at hs;obtain⟨y,rfl,_⟩:=ju d v1 hs.1 h1;simp at e;rw [gL hs.1,e.1];exact h1
  ·cases z<;>first
    | (simp only [rM] at ha;rw [hb] at ha;cases ha)
    | skip
   exact⟨_,rfl,by simp only [RepC];exact⟨g,hs⟩⟩
 ·obtain⟨g,_⟩:=dC (w:=default) (F:=fun _=>True) _ _ h0
  simpa using (cz _ _ hs g).1
def cr (w:World) (F:Nat→Prop) (d:D) (y:Value):Prop:=d = .bad∨aU w F d y
section
variable {P:Program} {w:World} {F G:Nat→Prop}
theorem cr.rep {d:D} {y:Value} (h:cr w F d y) (hd:d ≠ .bad):aU w F d y:=h.resolve_left hd
theorem br {x y:Value} (h:cr w F (.v x) y):y=x∧flat x=true:=eG.1 (h.rep (by simp))
theorem jt {x:Value} (hx:flat x=true):aU w F (.v x) x:=eG.2 ⟨rfl,hx⟩
theorem tm:∀(fs:List Field) (n:Nat) (c:List Nat) (l m:List D) (us vs xs ys:List Value) (q:Bool),Bm P n fs c=true→pK c l m=some q→xs.length=n→ys.length=n→bF w F l us→bF w G m vs →
  (JW 9999 (xs++us).toArray (ys++vs).toArray fs).run P w = .ok q w
 | [],n,[],l,m,us,vs,xs,ys,q,_,he,_,_,_,_=>by
  cases l<;>cases m<;>simp [pK] at he;subst he;simp [JW]
 | f::fs,n,c::cs,l,m,us,vs,xs,ys,q,hk,he,hx,hy,hu,hv=>by
  simp only [Bm,Jk,bne_iff_ne,ne_eq,beq_iff_eq] at hk;obtain⟨⟨⟨h1,h2⟩,h3⟩,h4⟩:=hk;have fin:∀(a b:Value) (l' m':List D) (us' vs':List Value) (r:Bool),us=a::us'→vs=b::vs'→bF w F l' us'→bF w G m' vs'→(pK cs l' m').map (r&&·)=some q →
    (isAgg f.type).run P w = .ok false w→(Jw 9999 f.type a b).run P w = .ok r w→(JW 9999 (xs++us).toArray (ys++vs).toArray (f::fs)).run P w = .ok q w:=by
   intro a b l' m' us' vs' r e1 e2 g1 g2 g4 p0 p3;subst e1 e2;have p1:(part f.type (xs++a::us').toArray f.offset).run P w = .ok a w:=by simp [part,p0,h2,hx]
   have p2:(part f.type (ys++b::vs').toArray f.offset).run P w = .ok b w:=by simp [part,p0,h2,hy]
   obtain⟨q',g3,g5⟩:=Jp.1 g4;simp only [JW,h1,not_false_eq_true,if_true,ne_eq,Jl,p1,p2,p3,Jj,Sem.run_ite];cases r
   ·simp at g5;simp [g5]
   ·simp only [Bool.not_true,JF,if_false,Bool.true_and] at g5 ⊢
    subst g5;have ih:=tm fs (n+1) cs l' m' us' vs' (xs++[a]) (ys++[b]) q' h4 g3 (by simp [hx]) (by simp [hy]) g1 g2;simpa using ih
  unfold pK at he;split at he
  ·cases ‹_::_=[]›
  ·rename_i c' k a l' k' b m' _
   split at he
   ·rename_i hkk
    subst hkk;obtain⟨v1,v2,rfl,r1,r2⟩:=aA.1 hu;obtain⟨u1,u2,rfl,s1,s2⟩:=aA.1 hv;simp only [RepC] at r1 s1;obtain⟨rfl,_⟩:=r1;obtain⟨rfl,_⟩:=s1;cases ‹c::cs=_›;unfold Gn at h3;split at h3<;>simp at h3
    rename_i kk hu;exact fin _ _ _ _ _ _ _ rfl rfl r2 s2 he (by simp [isAgg,run_underlying hu]) (run_equalIn_int w _ _ _ _ _ _ hu)
   ·cases he
  ·rename_i c' a l' b m' _
   obtain⟨v1,v2,rfl,r1,r2⟩:=aA.1 hu;obtain⟨u1,u2,rfl,s1,s2⟩:=aA.1 hv;simp only [RepC] at r1 s1;obtain⟨rfl,_⟩:=r1;obtain⟨rfl,_⟩:=s1;cases ‹c::cs=_›;unfold Gn at h3;split at h3<;>simp at h3
   rename_i hu;exact fin _ _ _ _ _ _ _ rfl rfl r2 s2 he (by simp [isAgg,run_underlying hu]) (run_equalIn_bool' w _ _ _ _ hu)
  ·rename_i c' a l' b m' _
   obtain⟨v1,v2,rfl,r1,r2⟩:=aA.1 hu;obtain⟨u1,u2,rfl,s1,s2⟩:=aA.1 hv;simp only [RepC] at r1 s1;obtain⟨rfl,_⟩:=r1;obtain⟨rfl,_⟩:=s1;cases ‹c::cs=_›;unfold Gn at h3;split at h3<;>simp at h3
   rename_i hu;exact fin _ _ _ _ _ _ _ rfl rfl r2 s2 he (by simp [isAgg,run_underlying hu]) (run_equalIn_string w _ _ _ _ hu)
  ·cases he
 | [],n,_::_,_,_,_,_,_,_,_,hk,_,_,_,_,_=>by simp [Bm] at hk
 | _::_,n,[],_,_,_,_,_,_,_,hk,_,_,_,_,_=>by simp [Bm] at hk
theorem GD {op:BinOp} {t:Nat} {k:IntKind} {a b:Int} {z:D} (h:gA op k a b=some z):∃v,(binOp op t (.int k a) (.int k b)).run P w = .ok v w∧z = .v v∧flat v=true:=by
 cases op<;>simp only [gA,JN] at h
 case quo =>
  split at h<;>simp at h
  rename_i hb;exact⟨_,by simp [binOp_quo,Op.intDiv,hb],h.symm,rfl⟩
 case rem =>
  split at h<;>simp at h
  rename_i hb;exact⟨_,by simp [binOp_rem,Op.intDiv,hb],h.symm,rfl⟩
 case shl=>cases h
 case shr=>cases h
 all_goals
  subst h;refine⟨_,?_,rfl,rfl⟩
  first
  | simp [binOp_add,JX];done
  | simp [binOp_sub,JX];done
  | simp [binOp_mul,JX];done
  | simp [binOp_and,intBits_and];done
  | simp [binOp_or,intBits_or];done
  | simp [binOp_xor,intBits_xor];done
  | simp [binOp_andNot,intBits_andNot];done
  | simp [binOp_eql];done
  | simp [binOp_neq];done
  | simp [binOp_lss];done
  | simp [binOp_leq];done
  | simp [binOp_gtr];done
  | simp [binOp_geq];done
theorem Gj {op:BinOp} {t:Nat} {a b:ByteArray} {z:D} (h:qG op a b=some z):∃v,(binOp op t (.string a) (.string b)).run P w = .ok v w∧z = .v v∧flat v=true:=by
 have e:binOp op t (.string a) (.string b)=Ki op a b:=by cases op<;>rfl
 rw [e];cases op<;>simp only [qG,JN] at h<;>try (cases h;done)
 case add =>
  split at h<;>simp at h
  rename_i hb;subst h;refine⟨_,?_,rfl,rfl⟩
  have:¬(((a.size+b.size:Nat):Int)>IntKind.i64.max):=by rw [IntKind.max_i64];omega
  simp only [Ki,if_neg this,Jq]
 all_goals
  subst h;exact⟨_,by simp [Ki],rfl,rfl⟩
theorem Gw {op:BinOp} {t:Nat} {i:TI} (hi:TOk P t i) {a b z:D} {x y:Value} (ox oy:Operand) (ha:cr w F a x) (hb:cr w G b y) (h:bin op i.bl i.eq a b=some z) :
  ∃v,(do eqGuard op t ox oy x y;binOp op t x y:Sem Value).run P w = .ok v w∧z = .v v∧flat v=true:=by
 unfold bin at h;split at h
 ·rename_i k a' _ b'
  obtain⟨rfl,_⟩:=br ha;obtain⟨rfl,_⟩:=br hb;split at h<;>simp at h
  rename_i h0;subst h;refine⟨_,?_,rfl,rfl⟩
  rw [eqGuard_at_int];simp [binOp_shl,Op.shift,Int.not_lt.2 h0]
 ·rename_i k a' _ b'
  obtain⟨rfl,_⟩:=br ha;obtain⟨rfl,_⟩:=br hb;split at h<;>simp at h
  rename_i h0;subst h;refine⟨_,?_,rfl,rfl⟩
  rw [eqGuard_at_int];simp [binOp_shr,Op.shift,Int.not_lt.2 h0]
 ·rename_i k a' k' b' _ _
  obtain⟨rfl,_⟩:=br ha;obtain⟨rfl,_⟩:=br hb;by_cases hk:k=k'
  case neg=>rw [if_neg hk] at h;cases h
  rw [if_pos hk] at h;subst hk;obtain⟨v,h1,h2,h3⟩:=GD (P:=P) (w:=w) (t:=t) h;refine⟨v,?_,h2,h3⟩
  rw [eqGuard_at_int];simpa using h1
 ·obtain⟨rfl,_⟩:=br ha
  obtain⟨rfl,_⟩:=br hb;obtain⟨v,h1,h2,h3⟩:=Gj (P:=P) (w:=w) (t:=t) h;refine⟨v,?_,h2,h3⟩
  rw [eqGuard_at_string];simpa using h1
 ·obtain⟨rfl,_⟩:=br ha
  obtain⟨rfl,_⟩:=br hb;split at h<;>simp at h
  rename_i hbl;subst h;refine⟨_,?_,rfl,rfl⟩
  rw [eqGuard_at_bool];simp [binOp,JB,JH,run_equalIn_bool' w _ t _ _ (hi.bl hbl)]
 ·obtain⟨rfl,_⟩:=br ha
  obtain⟨rfl,_⟩:=br hb;split at h<;>simp at h
  rename_i hbl;subst h;refine⟨_,?_,rfl,rfl⟩
  rw [eqGuard_at_bool];simp [binOp,JB,JH,run_equalIn_bool' w _ t _ _ (hi.bl hbl)]
 ·split at h
  ·cases h
  ·rename_i he
   obtain⟨q,hq,rfl⟩:=Jp.1 h;obtain⟨us,rfl,r1⟩:=ha.rep (by simp);obtain⟨vs,rfl,s1⟩:=hb.rep (by simp);simp only [RepC] at r1 s1;obtain⟨fs,f1,f2,f3,f4,f5⟩:=hi.eq he;have hfs:P.fieldsOf t=fs:=by simp [Program.fieldsOf,f1]
   refine⟨_,?_,rfl,rfl⟩
   have key:=tm (P:=P) fs.toList 0 i.eq _ _ us vs [] [] q f2 hq rfl rfl r1.1 s1.1;simp only [JR] at key;simp only [Jl,run_eqGuard_agg w _ _ _ _ _ _ f4,Jj,run_eql_struct,run_equalIn_agg w 9999 t _ _ (by rw [hfs];exact f1) f5,hfs,key]
 ·split at h
  ·cases h
  ·rename_i he
   obtain⟨q,hq,rfl⟩:=Jp.1 h;obtain⟨us,rfl,r1⟩:=ha.rep (by simp);obtain⟨vs,rfl,s1⟩:=hb.rep (by simp);simp only [RepC] at r1 s1;obtain⟨fs,f1,f2,f3,f4,f5⟩:=hi.eq he;have hfs:P.fieldsOf t=fs:=by simp [Program.fieldsOf,f1]
   refine⟨_,?_,rfl,rfl⟩
   have key:=tm (P:=P) fs.toList 0 i.eq _ _ us vs [] [] q f2 hq rfl rfl r1.1 s1.1;simp only [JR] at key;simp only [Jl,run_eqGuard_agg w _ _ _ _ _ _ f4,Jj,run_neq_struct,run_equalIn_agg w 9999 t _ _ (by rw [hfs];exact f1) f5,hfs,key]
 ·cases h
theorem Ef {op:BinOp} {t:Nat} {i:TI} (hi:TOk P t i) (hs:jT i=true) {a z:D} {x:Value} (ox oy:Operand) (ha:cr w F a x) (h:HD op a=some z) :
  ∃v,(do eqGuard op t ox oy x (.slice none 0 0);binOp op t x (.slice none 0 0):Sem Value).run P w = .ok v w∧z = .v v∧flat v=true:=by
 have hez:i.ez≠0∧i.alen=0:=by
  unfold jT at hs;split at hs
  ·cases hs
  ·rename_i e1 h2
   exact⟨h2,e1⟩
  ·cases hs
 obtain⟨hu,_⟩:=hi.sl hez.1 hez.2;have eq1:∀(b:Addr) (n c:Nat),(JB t (.slice (some b) n c) (.slice none 0 0)).run P w = .ok false w:=fun b n c=>by
  have h:∀d:Nat,(Jw (d+1) t (.slice (some b) n c) (.slice none 0 0)).run P w = .ok false w:=fun d=>by
   simp [Jw,run_underlying hu]
  simp [JB,JH,h 9999]
 have eq2:(JB t (.slice none 0 0) (.slice none 0 0)).run P w = .ok true w:=by
  have h:∀d:Nat,(Jw (d+1) t (.slice none 0 0) (.slice none 0 0)).run P w = .ok true w:=fun d=>by
   simp [Jw,run_underlying hu]
  simp [JB,JH,h 9999]
 have g1:∀(op:BinOp) (b:Option Addr) (n c:Nat),(eqGuard op t ox oy (.slice b n c) (.slice none 0 0)).run P w = .ok () w:=fun op b n c=>by
  cases op<;>simp [eqGuard]
 unfold HD at h;split at h
 ·obtain⟨rfl,_⟩:=br ha
  cases h;refine⟨_,?_,rfl,rfl⟩
  simp only [Jl,g1,Jj,binOp,eq2];rfl
 ·obtain⟨rfl,_⟩:=br ha
  cases h;refine⟨_,?_,rfl,rfl⟩
  simp only [Jl,g1,Jj,binOp,eq2];rfl
 ·have hr:=ha.rep (by simp)
  simp only [aU,RepC] at hr;obtain⟨A,c,us,e,_,_,_,hA⟩:=hr;obtain⟨b,o,rfl,_⟩:=hA (by simp);simp only [Jm,and_true] at e;subst e;cases h;refine⟨_,?_,rfl,rfl⟩
  simp only [Jl,g1,Jj,binOp,eq1];rfl
 ·have hr:=ha.rep (by simp)
  simp only [aU,RepC] at hr;obtain⟨A,c,us,e,_,_,_,hA⟩:=hr;obtain⟨b,o,rfl,_⟩:=hA (by simp);simp only [Jm,and_true] at e;subst e;cases h;refine⟨_,?_,rfl,rfl⟩
  simp only [Jl,g1,Jj,binOp,eq1];rfl
 ·cases h
theorem Ey {op:BinOp} {t:Nat} {i:TI} (hi:TOk P t i) (hf:i.ifc=true) {a b z:D} {x y:Value} {nc:Bool} (ox oy:Operand) (hc:nc=true→∃v,oy = .const v) (ha:cr w F a x) (hb:cr w G b y) (h:HC nc op a b=some z) :
  ∃v,(do eqGuard op t ox oy x y;binOp op t x y:Sem Value).run P w = .ok v w∧z = .v v∧flat v=true:=by
 obtain⟨ms,hu⟩:=hi.ifc hf;have eq1:∀(tx:TypeId) (v:Value),(JB t (.iface tx v) .nilIface).run P w = .ok false w:=fun tx v=>by
  have h:∀d:Nat,(Jw (d+1) t (.iface tx v) .nilIface).run P w = .ok false w:=fun d=>by
   simp [Jw,run_underlying hu]
  simp [JB,JH,h 9999]
 have eq2:(JB t .nilIface .nilIface).run P w = .ok true w:=by
  have h:∀d:Nat,(Jw (d+1) t .nilIface .nilIface).run P w = .ok true w:=fun d=>by
   simp [Jw,run_underlying hu]
  simp [JB,JH,h 9999]
 have g1:∀(op:BinOp) (tx:TypeId) (v:Value),(eqGuard op t ox oy (.iface tx v) .nilIface).run P w = .ok () w:=fun op tx v=>by
  cases op<;>simp [eqGuard]
 have g2:nc=true→∀op:BinOp,(eqGuard op t ox oy .nilIface .nilIface).run P w = .ok () w:=fun hn op=>by
  obtain⟨v,rfl⟩:=hc hn;cases op<;>simp [eqGuard]
 unfold HC at h;split at h
 ·obtain⟨tx,v,e⟩:=ha.rep (by simp)
  obtain⟨rfl,_⟩:=br hb;simp only [Jm,and_true] at e;subst e;cases h;refine⟨_,?_,rfl,rfl⟩
  simp only [Jl,g1,Jj,binOp,eq1];rfl
 ·obtain⟨tx,v,e⟩:=ha.rep (by simp)
  obtain⟨rfl,_⟩:=br hb;simp only [Jm,and_true] at e;subst e;cases h;refine⟨_,?_,rfl,rfl⟩
  simp only [Jl,g1,Jj,binOp,eq1];rfl
 ·obtain⟨rfl,_⟩:=br ha
  obtain⟨rfl,_⟩:=br hb;split at h
  case isFalse=>cases h
  rename_i hn;cases h;refine⟨_,?_,rfl,rfl⟩
  simp only [Jl,g2 hn,Jj,binOp,eq2];rfl
 ·obtain⟨rfl,_⟩:=br ha
  obtain⟨rfl,_⟩:=br hb;split at h
  case isFalse=>cases h
  rename_i hn;cases h;refine⟨_,?_,rfl,rfl⟩
  simp only [Jl,g2 hn,Jj,binOp,eq2];rfl
 ·cases h
theorem Hq {op:UnOp} {a z:D} {x:Value} (ha:cr w F a x) (h:un op a=some z):∃v,(Op.unary op x).run P w = .ok v w∧z = .v v∧flat v=true:=by
 unfold un at h;split at h
 ·obtain⟨rfl,_⟩:=br ha
  simp at h;subst h;exact⟨_,by simp [Op.unary,JX],rfl,rfl⟩
 ·obtain⟨rfl,_⟩:=br ha
  simp at h;subst h;exact⟨_,by simp [Op.unary],rfl,rfl⟩
 ·cases h
theorem Er {q a b z:D} {xq xa xb:Value} (hq:cr w F q xq) (ha:cr w G a xa) (hb:cr w G b xb) (h:aR q a b=some z):∃y,(do pure (if ←asBool xq then xa else xb):Sem Value).run P w = .ok y w∧cr w G z y:=by
 unfold aR at h;split at h
 ·obtain⟨rfl,_⟩:=br hq
  simp at h;subst h;exact⟨xa,by simp [asBool],ha⟩
 ·obtain⟨rfl,_⟩:=br hq
  simp at h;subst h;exact⟨xb,by simp [asBool],hb⟩
 ·cases h
theorem FE {src dst:Nat} {si di:TI} (hs:TOk P src si) (hd:TOk P dst di) {a z:D} {x:Value} (ha:cr w F a x) (h:pU di.ik (match di.str with | true=>si.str | false=>false) a=some z) :
  ∃v,(convert src dst x).run P w = .ok v w∧z = .v v∧flat v=true:=by
 unfold pU at h;split at h
 ·rename_i k kk n hk
  obtain⟨rfl,_⟩:=br ha;simp at h;subst h;obtain⟨d,hu⟩:=Option.isSome_iff_exists.1 hs.und;refine⟨_,?_,rfl,rfl⟩
  simp [convert,run_underlying hu,run_underlying (hd.ik k hk),Conv.intToInt]
 ·rename_i s hk
  obtain⟨rfl,_⟩:=br ha;simp at h;subst h;split at hk
  ·rename_i hdd
   have h1:=(hd.str hdd).1;have h2:=(hs.str hk).1;refine⟨_,?_,rfl,rfl⟩
   simp [convert,run_underlying h1,run_underlying h2]
  ·cases hk
 ·cases h
theorem jU {t:Nat} {i:TI} (hi:TOk P t i) (h:jT i=true):P.underlying t=some (.slice i.elem)∧i.agg=false∧0<i.ez∧0<i.eb∧∃y,P.info? i.elem=some y∧y.size=i.ez∧y.bytes=i.eb:=by
 unfold jT at h;split at h
 ·cases h
 ·rename_i h1 h2
  exact hi.sl (by intro h0;exact h2 h0) h1
 ·cases h
theorem mb {z:Nat} {l:List D} {y:Value} (h:aU w F (.arr z l) y):∃A c us,y = .slice A l.length c∧l.length≤c∧bF w F l us∧(∀d∈l,d.width=z)∧(l≠[]→∃b o,A=some ⟨b,o,none⟩∧F b∧cP w b o us):=by
 simp only [aU,RepC] at h;obtain⟨A,c,us,h1,h2⟩:=h;simp at h1;exact⟨A,c,us,h1,h2⟩
theorem ro {l:List D} {y:Value} (h:aU w F (.ptr l) y):∃b o us,y = .pointer (some ⟨b,o,none⟩)∧bF w F l us∧l.all D.single=true∧F b∧cP w b o us:=by
 simp only [aU,RepC] at h;obtain⟨b,o,us,h1,h2⟩:=h;simp at h1;exact⟨b,o,us,h1,h2⟩
theorem FI {t ty:Nat} {str:Bool} {a z:D} {x:Value} (ha:cr w F a x) (hs:str=false→∃e,P.underlying t=some (.slice e)) (ht:str=true→P.underlying t=some .string) (h:lenD str a=some z) :
  ∃v,(Kh #[t] ty #[x]).run P w = .ok v w∧z = .v v∧flat v=true:=by
 unfold lenD at h;split at h
 ·obtain⟨e,hu⟩:=hs rfl
  obtain⟨A,c,us,rfl,_⟩:=mb (ha.rep (by simp));simp at h;subst h;exact⟨_,by simp [Kh,run_underlying hu,goInt],rfl,rfl⟩
 ·have hu:=ht rfl
  obtain⟨rfl,_⟩:=br ha;simp at h;subst h;exact⟨_,by simp [Kh,run_underlying hu,goInt],rfl,rfl⟩
 ·cases h
theorem xB {ag:Bool} {n:Nat} {l:List D} {us:List Value} {z:D} (hr:bF w F l us) (hs:l.all D.single=true) (h:an ag n l=some z) :
  (ag=true→n≤us.length∧aU w F z (.agg (us.take n).toArray))∧(ag=false→∃u,us[0]?=some u∧aU w F z u):=by
 have hl:=(cz l us hs hr).1;unfold an at h;constructor
 ·rintro rfl
  simp only [if_true] at h;split at h
  ·rename_i hn
   simp at h;subst h;refine⟨by omega,_,rfl,?_⟩
   simp only [RepC];exact⟨(jr l us hs hr n).1,AD hs n⟩
  ·cases h
 ·rintro rfl
  simp only [JF,if_false] at h;cases l with
  | nil=>cases h
  | cons d l =>
   simp at h;subst h;simp only [JI,Jk] at hs;obtain⟨v1,v2,rfl,h1,h2⟩:=aA.1 hr;obtain⟨y,rfl,_⟩:=ju _ _ hs.1 h1;exact⟨y,rfl,(gL hs.1).2 h1⟩
theorem Aw {t:Nat} {i:TI} (hi:TOk P t i) {off:Nat} {l:List D} {us:List Value} {z:D} (hr:bF w F l us) (hs:l.all D.single=true) (h:an i.agg i.n (l.drop off)=some z) :
  ∃y,(part t us.toArray off).run P w = .ok y w∧aU w F z y:=by
 obtain⟨h1,h2⟩:=xB (jr l us hs hr off).2 (lQ hs off) h;cases ha:i.agg
 ·obtain⟨u,hu,hv⟩:=h2 ha
  refine⟨u,?_,hv⟩
  rw [Kf] at hu;simp only [part,Jl,hi.agg,ha,Jj,JF,if_false];have:us.toArray[off]?=some u:=by simpa using hu
  rw [this];rfl
 ·obtain⟨hn,hv⟩:=h1 ha
  refine⟨_,?_,hv⟩
  simp only [part,Jl,hi.agg,ha,Jj,if_true,hi.size,Jq];congr 2
  apply Array.ext';simp
theorem FT {t ft f off:Nat} {i ti:TI} (hi:TOk P t i) (hf:TOk P ft ti) {a z:D} {x:Value} (hl:i.fs[f]?=some (off,ft)) (ha:cr w F a x) (h:bM ti.agg ti.n off a=some z) :
  ∃y,(Instr.field t x f).run P w = .ok y w∧aU w F z y:=by
 unfold bM at h;split at h
 ·rename_i l
  obtain⟨us,rfl,hr⟩:=ha.rep (by simp);simp only [RepC] at hr;obtain⟨fs,fl,h1,h2,h3,h4,_⟩:=hi.fs f off ft hl;obtain⟨y,hy,hv⟩:=Aw hf hr.1 hr.2 h;refine⟨y,?_,hv⟩
  simp only [Instr.field,Jl,run_underlying h1,Jj,h2,asAgg,Jq,h3,h4,hy]
 ·cases h
theorem rG {t:Nat} {i:TI} (hi:TOk P t i) {b o:Nat} {l:List D} {us:List Value} {z:D} (hr:bF w F l us) (hs:l.all D.single=true) (hc:cP w b o us) (h:an i.agg i.n l=some z) :
  ∃y,(JP t (.pointer (some ⟨b,o,none⟩))).run P w = .ok y w∧aU w F z y:=by
 obtain⟨h1,h2⟩:=xB hr hs h;cases ha:i.agg
 ·obtain⟨u,hu,hv⟩:=h2 ha
  refine⟨u,?_,hv⟩
  have hcell:=hc 0 u hu;rw [Nat.add_zero] at hcell;simp only [JP,JL,Jl,Jq,Jj,loadVar,hi.agg,ha,JF,if_false,run_load,hcell]
 ·obtain⟨hn,hv⟩:=h1 ha
  refine⟨_,?_,hv⟩
  have hlc:(loadCells ⟨b,o,none⟩ i.n).run P w = .ok (us.take i.n).toArray w:=by
   have hlen:(us.take i.n).length=i.n:=by rw [Jz];omega
   have:=run_loadCells_list (P:=P) w ⟨b,o,none⟩ (us.take i.n) (fun j v hj=>by rw [Jy];exact(hc.take i.n) j v hj);rwa [hlen] at this
  simp only [JP,JL,Jl,Jq,Jj,loadVar,hi.agg,ha,if_true,hi.size,hlc]
theorem Hf {t:Nat} {i:TI} (hi:TOk P t i) {a z:D} {x:Value} (ha:cr w F a x) (h:ldD i.agg i.n a=some z):∃y,(JP t x).run P w = .ok y w∧aU w F z y:=by
 unfold ldD at h;split at h
 ·obtain⟨b,o,us,rfl,h1,h2,_,h4⟩:=ro (ha.rep (by simp))
  exact rG hi h1 h2 h4 h
 ·cases h
theorem nV {t f off ft:Nat} {i:TI} (hi:TOk P t i) (hl:i.fs[f]?=some (off,ft)) (b o:Nat):(Ke t (.pointer (some ⟨b,o,none⟩)) f).run P w = .ok (.pointer (some ⟨b,o+off,none⟩)) w:=by
 obtain⟨fs,fl,h1,h2,h3,h4,_,y,h5,h6⟩:=hi.fs f off ft hl;simp only [Ke,Jl,run_underlying h1,Jj,h2,JL,Jq,fieldPlace,h4,dn h5,if_neg h6,h3,Jy]
theorem FL {t f off ft:Nat} {i:TI} (hi:TOk P t i) (hl:i.fs[f]?=some (off,ft)) {a z:D} {x:Value} (ha:cr w F a x) (h:td off a=some z):∃y,(Ke t x f).run P w = .ok y w∧aU w F z y:=by
 unfold td at h;split at h
 ·rename_i l
  obtain⟨b,o,us,rfl,h1,h2,h3,h4⟩:=ro (ha.rep (by simp));simp at h;subst h;refine⟨_,nV hi hl b o,?_⟩
  simp only [aU,RepC];exact⟨b,o+off,us.drop off,rfl,(jr l us h2 h1 off).2,lQ h2 off,h3,h4.drop off⟩
 ·cases h
theorem tz {t:Nat} {i:TI} (hi:TOk P t i) (hsl:jT i=true) (b o len c:Nat) (k:IntKind) (n:Int) (h0:0≤n) (h1:n<len) :
  (JD t (.slice (some ⟨b,o,none⟩) len c) (.int k n)).run P w = .ok (.pointer (some ⟨b,o+n.toNat*i.ez,none⟩)) w:=by
 obtain⟨hu,_,_,_,y,hy,hz,_⟩:=jU hi hsl;simp only [JD,asIntOf,Jl,Jq,Jj,run_underlying hu,h0,h1,and_self,if_true,dn hy,hz,Jy]
theorem tF {t:Nat} {i:TI} (hi:TOk P t i) (ha:i.alen≠0) (b o:Nat) (k:IntKind) (n:Int) (h0:0≤n) (h1:n<i.alen) :
  (JD t (.pointer (some ⟨b,o,none⟩)) (.int k n)).run P w = .ok (.pointer (some ⟨b,o+n.toNat*i.ez,none⟩)) w:=by
 obtain⟨hu,_,_,_,y,hy,hz⟩:=hi.ar ha;simp only [JD,asIntOf,Jl,Jq,Jj,run_underlying hu,JL,h0,h1,and_self,if_true,dn hy,hz,Jy]
theorem EJ {t:Nat} {i:TI} (hi:TOk P t i) (hsl:jT i=true) {a j:D} {x y:Value} {l:List D} (ha:cr w F a x) (hj:cr w G j y) (h:bO i.ez a j=some l) :
  ∃v,(JD t x y).run P w = .ok v w∧aU w F (.ptr l) v:=by
 unfold bO at h;split at h
 ·rename_i z' m k n
  split at h
  ·rename_i hz
   obtain⟨rfl,h0⟩:=hz;obtain⟨d,hd,rfl⟩:=Jp.1 h;obtain⟨rfl,_⟩:=br hj;obtain⟨A,c,us,rfl,h1,h2,h3,h4⟩:=mb (ha.rep (by simp));have hn:n.toNat<m.length:=(Jt.1 hd).1;obtain⟨b,o,rfl,hb,hc⟩:=h4 (by intro e;subst e;simp at hn);refine⟨_,tz hi hsl b o _ c k n h0 (by omega),?_⟩
   obtain⟨p,q,r,rfl,hp,hq,hr,_⟩:=mi m us h2 h3 _ d hd;simp only [aU,RepC];have hrr:bF w F d.cells q∧d.cells.all D.single=true:=by
    rcases kg hr with ⟨l,rfl⟩ | hs
    ·simpa only [RepC,D.cells] using hr
    ·rw [(dN hs).2]
     exact⟨aA.2 ⟨q,[],by simp,hr,aP.2 rfl⟩,by simp [hs]⟩
   refine⟨b,_,q,rfl,hrr.1,hrr.2,hb,?_⟩
   rw [←hp];exact hc.part
  ·cases h
 ·cases h
theorem Gc {t:Nat} {i:TI} (hi:TOk P t i) (hal:i.alen≠0) {a j z:D} {x y:Value} (ha:cr w F a x) (hj:cr w G j y) (h:ixD i.alen i.ez a j=some z):∃v,(JD t x y).run P w = .ok v w∧aU w F z v:=by
 unfold ixD at h;split at h
 ·rename_i l k n
  split at h
  ·rename_i hn
   simp at h;subst h;obtain⟨rfl,_⟩:=br hj;obtain⟨b,o,us,rfl,h1,h2,h3,h4⟩:=ro (ha.rep (by simp));refine⟨_,tF hi hal b o k n hn.1 hn.2,?_⟩
   simp only [aU,RepC];exact⟨b,_,_,rfl,(jr l us h2 h1 _).2,lQ h2 _,h3,h4.drop _⟩
  ·cases h
 ·cases h
theorem GA {t et:Nat} {i e:TI} (hi:TOk P t i) (he:TOk P et e) (hal:i.alen≠0) (hel:i.elem=et) {a j z:D} {x y:Value} (ha:cr w F a x) (hj:cr w G j y) (h:ixA e.agg i.alen i.ez a j=some z):∃v,(JY t x y).run P w = .ok v w∧aU w F z v:=by
 unfold ixA at h;split at h
 ·rename_i l k n
  split at h
  ·rename_i hn
   obtain⟨rfl,_⟩:=br hj;obtain⟨us,rfl,hr⟩:=ha.rep (by simp);simp only [RepC] at hr;obtain⟨hu,_,_,_,y,hy,hz⟩:=hi.ar hal;have hen:e.n=i.ez:=by
    obtain⟨x',_,h1,h2,_⟩:=he.info;rw [hel] at hy;rw [hy] at h1;cases h1;omega
   rw [←hen] at h;obtain⟨v,hv,hrep⟩:=Aw he hr.1 hr.2 h;refine⟨v,?_,hrep⟩
   subst hel;simp only [JY,asIntOf,Jl,Jq,Jj,run_underlying hu,hn.1,hn.2,and_self,if_true,dn hy,hz];rw [←hen];exact hv
  ·cases h
 ·cases h
theorem EQ {t:Nat} {i:TI} (hi:TOk P t i) (hs:i.str=true) {a j z:D} {x y:Value} (ha:cr w F a x) (hj:cr w G j y) (h:rH a j=some z):∃v,(JY t x y).run P w = .ok v w∧z = .v v∧flat v=true:=by
 unfold rH at h;split at h
 ·rename_i s k n
  split at h
  ·rename_i h0
   obtain⟨b,hb,rfl⟩:=Jp.1 h;obtain⟨rfl,_⟩:=br ha;obtain⟨rfl,_⟩:=br hj;refine⟨_,?_,rfl,rfl⟩
   have hb':s[n.toNat]?=some b:=by
    have hlt:n.toNat<s.data.toList.length:=(Jt.1 hb).1;have hlt':n.toNat<s.size:=by rw [Array.length_toList] at hlt;exact hlt
    rw [getElem?_pos s n.toNat hlt'];have h2:=(Jt.1 hb).2;refine congrArg some ?_
    rw [←h2,Array.getElem_toList];rfl
   simp only [JY,asIntOf,Jl,Jq,Jj,run_underlying (hi.str hs).1];rw [if_pos h0,hb'];rfl
  ·cases h
 ·cases h
def LoV (w:World) (F:Nat→Prop) (lo:D) (v:Option Value):Prop:=(∃y,v=some y∧cr w F lo y)∨(v=none∧lo=I 0)
theorem oX {k:IntKind} {p:Int} {v:Option Value} (h:LoV w F (.v (.int k p)) v):v=some (.int k p)∨(v=none∧p=0):=by
 rcases h with ⟨y,rfl,hy⟩ | ⟨rfl,e⟩
 ·obtain⟨rfl,_⟩:=br hy
  exact .inl rfl
 ·simp at e
  exact .inr ⟨rfl,e.2⟩
theorem Cy {t:Nat} {i:TI} (hi:TOk P t i) (hsl:i.str=false→jT i=true) {a lo hi' z:D} {x yh:Value} {yl:Option Value} (ha:cr w F a x) (hl:LoV w G lo yl) (hh:cr w G hi' yh) (h:ga i.str i.ez a lo hi'=some z) :
  ∃v,(Ko t x yl (some yh) none).run P w = .ok v w∧aU w F z v:=by
 unfold ga at h;split at h
 ·rename_i z' l k p k' q hs
  split at h
  ·rename_i hc
   obtain⟨rfl,h0,h1,h2⟩:=hc;simp at h;subst h;have hl:=oX hl;obtain⟨rfl,_⟩:=br hh;obtain⟨hu,_,hez,_,y,hy,hz,_⟩:=jU hi (hsl hs);obtain⟨A,c,us,rfl,g1,g2,g3,g4⟩:=mb (ha.rep (by simp));have he:P.elem t=i.elem:=by simp [Kp,hu]
   refine⟨sliced A p.toNat q.toNat c i.ez,?_,?_⟩
   ·rcases hl with rfl | ⟨rfl,rfl⟩
    ·rw [run_sliceAt_slice w t _ _ _ _ (by rw [he];exact hu),run_slice_lh w t A _ c (by rw [he];exact hu) k k' p q h0 h1 (by omega),he,dn hy,hz]
     rfl
    ·rw [run_sliceAt_slice w t _ _ _ _ (by rw [he];exact hu),run_slice_h w t A _ c (by rw [he];exact hu) k' q (by omega) (by omega),he,dn hy,hz]
     rfl
   ·simp only [aU,RepC,sliced]
    have hlen:((l.take q.toNat).drop p.toNat).length=q.toNat - p.toNat:=by rw [JQ,Jz];omega
    obtain⟨t1,_⟩:=iK l us g2 g3 q.toNat;obtain⟨_,t2⟩:=iK (l.take q.toNat) (us.take (q.toNat*i.ez)) t1 (fun d hd=>g3 d (Jv hd)) p.toNat;refine⟨_,c - p.toNat,_,by rw [hlen],by rw [hlen];omega,t2,fun d hd=>g3 d (Jv (JJ hd)),fun hne=>?_⟩
    have hpos:p.toNat<q.toNat:=by
     rcases Kg p.toNat q.toNat with hlt | hge
     ·exact hlt
     ·exact absurd (JK (by rw [hlen];omega)) hne
    obtain⟨b,o,rfl,hb,hcell⟩:=g4 (by intro e;subst e;simp at h2;omega);refine⟨b,o+p.toNat*i.ez,?_,hb,(hcell.take _).drop _⟩
    rw [if_neg (by omega)];simp [Jy]
  ·cases h
 ·rename_i s k p k' q hs
  split at h
  ·rename_i hc
   obtain⟨h0,h1,h2⟩:=hc;simp at h;subst h;obtain⟨rfl,_⟩:=br ha;have hl:=oX hl;obtain⟨rfl,_⟩:=br hh;have hu:=(hi.str hs).1;refine⟨_,?_,jt rfl⟩
   have e1:((q.toNat:Nat):Int)=q:=by omega
   rcases hl with rfl | ⟨rfl,rfl⟩
   case inr=>rw [run_sliceAt_string w t _ _ _ _ hu,run_slice_string_h w t s hu k' q (by omega) (by omega)];rfl
   simp [run_sliceAt_string w t _ _ _ _ hu,Instr.slice,run_underlying hu,Instr.sliceBounds,run_sliceBound w k' q s.size _ (by omega) h2,run_sliceBound w k p q.toNat _ h0 (by omega)]
  ·cases h
 ·cases h
theorem Af {t:Nat} {i:TI} (hi:TOk P t i) (hsl:i.str=false→jT i=true) {a lo z:D} {x:Value} {yl:Option Value} (ha:cr w F a x) (hl:LoV w G lo yl) (h:kM i.str i.ez a lo=some z) :
  ∃v,(Ko t x yl none none).run P w = .ok v w∧aU w F z v:=by
 unfold kM at h;split at h
 ·rename_i z' l k p hs
  split at h
  ·rename_i hc
   obtain⟨rfl,h0,h1⟩:=hc;simp at h;subst h;have hl:=oX hl;obtain⟨hu,_,hez,_,y,hy,hz,_⟩:=jU hi (hsl hs);obtain⟨A,c,us,rfl,g1,g2,g3,g4⟩:=mb (ha.rep (by simp));have he:P.elem t=i.elem:=by simp [Kp,hu]
   refine⟨sliced A p.toNat l.length c i.ez,?_,?_⟩
   ·rcases hl with rfl | ⟨rfl,rfl⟩
    ·rw [run_sliceAt_slice w t _ _ _ _ (by rw [he];exact hu),run_slice_l w t A _ c (by rw [he];exact hu) k p h0 h1,he,dn hy,hz]
     rfl
    ·rw [run_sliceAt_slice w t _ _ _ _ (by rw [he];exact hu),run_slice_all w t A _ c (by rw [he];exact hu),he,dn hy,hz]
     rfl
   ·simp only [aU,RepC,sliced]
    obtain⟨_,t2⟩:=iK l us g2 g3 p.toNat;refine⟨_,c - p.toNat,_,by rw [JQ],by rw [JQ];omega,t2,fun d hd=>g3 d (JJ hd),fun hne=>?_⟩
    have hpos:p.toNat<l.length:=by
     rcases Kg p.toNat l.length with hlt | hge
     ·exact hlt
     ·exact absurd (JG hge) hne
    obtain⟨b,o,rfl,hb,hcell⟩:=g4 (by intro e;subst e;simp at hpos);refine⟨b,o+p.toNat*i.ez,?_,hb,hcell.drop _⟩
    rw [if_neg (by omega)];simp [Jy]
  ·cases h
 ·rename_i s k p hs
  split at h
  ·rename_i hc
   obtain⟨h0,h1⟩:=hc;simp at h;subst h;obtain⟨rfl,_⟩:=br ha;have hl:=oX hl;have hu:=(hi.str hs).1;refine⟨_,?_,jt rfl⟩
   rcases hl with rfl | ⟨rfl,rfl⟩
   case inr=>rw [run_sliceAt_string w t _ _ _ _ hu,run_slice_string_all w t s hu];rfl
   simp [run_sliceAt_string w t _ _ _ _ hu,Instr.slice,run_underlying hu,Instr.sliceBounds,run_sliceBound w k p s.size _ h0 h1]
  ·cases h
 ·cases h
theorem Gb {a b z:D} {x y:Value} (ha:cr w F a x) (hb:cr w G b y) (h:CG a b=some z):∃v,(Kq x y).run P w = .ok v w∧z = .v v∧flat v=true:=by
 unfold CG at h;split at h
 ·obtain⟨rfl,_⟩:=br ha
  obtain⟨rfl,_⟩:=br hb;simp at h;subst h;exact⟨_,by simp [Kq],rfl,rfl⟩
 ·cases h
theorem Gq {a b z:D} {x y:Value} (ha:cr w F a x) (hb:cr w G b y) (h:Dg a b=some z):∃v,(Kr x y).run P w = .ok v w∧z = .v v∧flat v=true:=by
 unfold Dg at h;split at h
 ·obtain⟨rfl,_⟩:=br ha
  obtain⟨rfl,_⟩:=br hb;simp at h;subst h;exact⟨_,by simp [Kr],rfl,rfl⟩
 ·cases h
def rP (w:World) (F:Nat→Prop):List D→List Value→Prop
 | [],[]=>True
 | d::ds,y::ys=>cr w F d y∧rP w F ds ys
 | _,_=>False
theorem zU {f:D→D→Option D} {g:Value→Value→Sem Value} (hf:∀(a b z:D) (x y:Value),cr w F a x→cr w F b y→f a b=some z→∃v,(g x y).run P w = .ok v w∧z = .v v∧flat v=true) :
  ∀(ds:List D) (ys:List Value) (z:D) (x:Value),flat x=true→rP w F ds ys→uH f (.v x) ds=some z→∃v,(ys.foldlM g x).run P w = .ok v w∧z = .v v∧flat v=true
 | [],[],z,x,ha,_,h=>by
  simp only [uH,JN] at h;subst h;exact⟨x,by simp,rfl,ha⟩
 | d::ds,y::ys,z,x,ha,hb,h=>by
  simp only [uH] at h;obtain⟨u,hu,h⟩:=Ju.1 h;obtain⟨v,h1,rfl,h3⟩:=hf (.v x) d u x y (.inr (jt ha)) hb.1 hu;obtain⟨v',h4,h5⟩:=zU hf ds ys z v h3 hb.2 h;exact⟨v',by simp [h1,h4],h5⟩
 | [],_::_,_,_,_,hb,_=>hb.elim
 | _::_,[],_,_,_,hb,_=>hb.elim
theorem Cw {f:D→D→Option D} {g:Value→Value→Sem Value} (hf:∀(a b z:D) (x y:Value),cr w F a x→cr w F b y→f a b=some z→∃v,(g x y).run P w = .ok v w∧z = .v v∧flat v=true)
  {a b:D} {ds:List D} {x y:Value} {ys:List Value} {z:D} (ha:cr w F a x) (hb:cr w F b y) (hd:rP w F ds ys) (h:uH f a (b::ds)=some z):∃v,((y::ys).foldlM g x).run P w = .ok v w∧z = .v v∧flat v=true:=by
 simp only [uH] at h;obtain⟨u,hu,h⟩:=Ju.1 h;obtain⟨v,h1,rfl,h3⟩:=hf a b u x y ha hb hu;obtain⟨v',h4,h5⟩:=zU hf ds ys z v h3 hd h;exact⟨v',by simp [h1,h4],h5⟩
theorem FO {a z:D} {x:Value} (ha:cr w F a x) (h:EB a=some z) (o:Oper) (q:Operand) (ρ:Operand→Value) (ho:o.op = .nilCheck q) (hq:ρ q=x):(execOp ρ o).run P w = .ok (.value x) w∧aU w F z x:=by
 unfold EB at h;split at h
 ·have hr:=ha.rep (by simp)
  obtain⟨b,of,us,rfl,_⟩:=ro hr;simp at h;subst h;exact⟨by simp [execOp,ho,hq],hr⟩
 ·have hr:=ha.rep (by simp)
  simp at h;subst h;have hr':=hr;simp only [aU,RepC] at hr';obtain⟨us,hx,_⟩:=hr';simp at hx;subst hx;exact⟨by simp [execOp,ho,hq],hr⟩
 ·cases h
theorem GB {src dst:Nat} {si di ei:TI} (hs:TOk P src si) (hd:TOk P dst di) (he:TOk P si.elem ei) (hsl:jT si=true) (hb:ei.ik=some .u8) (hds:di.str=true) {a z:D} {x:Value} (ha:aU w F a x) (h:CV a=some z) :
  ∃v,(convert src dst x).run P w = .ok v w∧z = .v v∧flat v=true:=by
 unfold CV at h;split at h
 ·rename_i zz l
  obtain⟨b,hbb,rfl⟩:=Jp.1 h;obtain⟨A,c,us,rfl,g1,g2,g3,g4⟩:=mb ha;obtain⟨hu,_⟩:=jU hs hsl;have hel:=he.ik _ hb;have hst:=(hd.str hds).1;refine⟨_,?_,rfl,rfl⟩
  rw [run_convert_bytes_string w src dst si.elem A _ c hu hel hst];by_cases hl:l=[]
  ·subst hl
   simp [oV] at hbb;subst hbb;cases A with
   | none=>simp [Conv.bytesToString];rfl
   | some A=>simp [Conv.bytesToString,loadCells,loadCellsFrom];rfl
  ·obtain⟨bb,o,rfl,_,hc⟩:=g4 hl
   have key:∀(l:List D) (us:List Value) (b:List UInt8),oV l=some b→bF w F l us→∃ns:List Int,us=ns.map (Kn .u8)∧ns.map (fun n=>JT n.toNat)=b∧l.length=ns.length:=by
    intro l;induction l with
    | nil =>
     intro us b h hr;simp [oV] at h;rw [aP] at hr;exact⟨[],by simp [hr],by simp [h],rfl⟩
    | cons d l ih =>
     intro us b h hr;unfold oV at h;split at h
     ·cases ‹_=[]›
     ·rename_i n l' e
      cases e;obtain⟨b',hb',rfl⟩:=Jp.1 h;obtain⟨v1,v2,rfl,h1,h2⟩:=aA.1 hr;simp only [RepC] at h1;obtain⟨rfl,_⟩:=h1;obtain⟨ns,rfl,e2,e3⟩:=ih v2 b' hb' h2;exact⟨n::ns,by simp,by simp [e2],by simp [e3]⟩
     ·cases h
   obtain⟨ns,rfl,e2,e3⟩:=key l us b hbb g2;have hlc:(loadCells ⟨bb,o,none⟩ l.length).run P w = .ok (ns.map (Kn .u8)).toArray w:=by
    have:=run_loadCells_list (P:=P) w ⟨bb,o,none⟩ (ns.map (Kn .u8)) (fun j v hj=>by rw [Jy];exact hc j v hj);rwa [List.length_map,←e3] at this
   rw [run_bytesToString w _ _ c ns hlc];congr 2
   have:∀(ns:List Int) (acc:ByteArray),ns.foldl (fun r n=>r.push (JT n.toNat)) acc=⟨acc.data++(ns.map (fun n=>JT n.toNat)).toArray⟩:=by
    intro ns;induction ns with
    | nil=>intro acc;simp
    | cons n ns ih =>
     intro acc;rw [Km,ih];congr 1
     simp [ByteArray.push]
   rw [this,e2];congr 1
   show #[]++b.toArray=b.toArray
   simp
 ·cases h
theorem rD {l vs:List D} {us ws:List Value} (hl:l.all D.single=true) (hv:vs.all D.single=true) (hr:bF w F l us) (hw:bF w F vs ws) (f:Nat) :
  bF w F (cd l f vs) (us.take f++ws++us.drop (f+ws.length))∧(cd l f vs).all D.single=true:=by
 have e:=(cz _ _ hv hw).1;refine⟨?_,?_⟩
 ·unfold cd
  rw [e];exact(cM _ _ _).2 ⟨_,_,rfl,(cM _ _ _).2 ⟨_,_,rfl,(jr l us hl hr f).1,hw⟩,(jr l us hl hr _).2⟩
 ·unfold cd
  rw [all_append,all_append,AD hl,lQ hl,hv];rfl
theorem uC:∀(vs:List Value) (off k:Nat) (us:List Value),off+k+vs.length≤us.length →
  ((vs.zipIdx k).foldl (fun(cs:Array Value) (p:Value × Nat)=>cs.setIfInBounds (off+p.2) p.1) us.toArray)=(us.take (off+k)++vs++us.drop (off+k+vs.length)).toArray
 | [],off,k,us,h=>by simp
 | v::vs,off,k,us,h=>by
  simp only [Kk] at h;have ih:=uC vs off (k+1) (us.set (off+k) v) (by simp;omega);simp only [List.zipIdx_cons,Km,List.setIfInBounds_toArray];rw [ih];congr 1
  have hs:us.set (off+k) v=us.take (off+k)++v::us.drop (off+k+1):=List.set_eq_take_append_cons_drop.trans (by rw [if_pos (by omega)]);have hl:(us.take (off+k)).length=off+k:=by rw [Jz];omega
  rw [hs,←Kc];have e3:us.drop (off+k+(v::vs).length)=(us.drop (off+k+1)).drop vs.length:=by rw [List.drop_drop,Kk];congr 1;omega
  rw [e3];generalize us.take (off+k)=p at hl;generalize us.drop (off+k+1)=r;rw [←hl,List.take_length_add_append,show p.length+1+vs.length=p.length+(vs.length+1) from by omega,List.drop_length_add_append];simp
theorem AU (place:Nat→Option (Nat × Nat)):∀(parts:List (Nat × Value)) (ps:List (Nat × Nat)) (xs cs cs':List D) (us:List Value),parts.map (fun p=>place p.1)=ps.map some→rP w F xs (parts.map (·.2))→cs.all D.single=true→bF w F cs us →
  oI ps xs cs=some cs'→∃us',Instr.fill place us.toArray parts=some us'.toArray∧bF w F cs' us'∧cs'.all D.single=true
 | [],ps,xs,cs,cs',us,hp,hx,hs,hr,h=>by
  cases ps<;>simp at hp;cases xs with
  | cons _ _=>exact hx.elim
  | nil =>
   simp [oI] at h;subst h;exact⟨us,rfl,hr,hs⟩
 | (i,v)::parts,ps,xs,cs,cs',us,hp,hx,hs,hr,h=>by
  cases ps with
  | nil=>simp at hp
  | cons p ps =>
  cases xs with
  | nil=>exact hx.elim
  | cons x xs =>
   obtain⟨off,n⟩:=p;simp only [Jo,Jm] at hp;simp only [oI] at h;split at h
   ·rename_i hc
    obtain⟨h1,h2,h3⟩:=hc;have hxr:aU w F x v:=hx.1.rep (by intro e;subst e;simp [D.cells,D.single] at h3);obtain⟨_,g2,g3⟩:=dV hxr (mu h3);obtain⟨p1,p2⟩:=rD hs g2 hr g3 off;have e1:=(cz _ _ g2 g3).1;have e2:=(cz _ _ hs hr).1;obtain⟨us',q1,q2,q3⟩:=AU place parts ps xs _ cs' _ hp.2 hx.2 p2 p1 h;refine⟨us',?_,q2,q3⟩
    simp only [Instr.fill,hp.1];have e3:v.cells.size=n:=by rw [←h1,←e1];simp
    rw [if_neg (by simp [e3];omega)];have hk:=uC v.cells.toList off 0 us (by rw [e1,h1];omega);simp only [Nat.add_zero] at hk;rw [←hk] at q1;rw [←q1];congr 1
    rw [←Array.foldl_toList];simp
   ·cases h
end
end Go.V

namespace Go.V
open Go.RowKit
def ak (δ:List D):List Nat→List D
 | []=>[]
 | s::ss=>nth δ s::ak δ ss
theorem dT {R:Type}:∀(δ:List D) (s:Nat) (k:D→R),fr δ s k=k (nth δ s)
 | [],_,_=>by simp [fr,nth]
 | _::_,0,_=>by simp [fr,nth]
 | _::l,s+1,k=>by simpa [fr,nth] using dT l s k
theorem yr {R:Type}:∀(δ:List D) (s:Nat) (d:D) (k:List D→R),Bh δ s d k=k (fd δ s d)
 | [],_,_,_=>by simp [Bh,fd]
 | _::_,0,_,_=>by simp [Bh,fd]
 | _::l,s+1,d,k=>by simpa [Bh,fd] using yr l s d _
theorem bU {R:Type} (δ:List D):∀(ss:List Nat) (k:List D→R),nk δ ss k=k (ak δ ss)
 | [],_=>by simp [nk,ak]
 | s::ss,k=>by simp only [nk,ak,dT];exact bU δ ss _
theorem ct {R:Type}:∀(δ:List D) (ss:List Nat) (ds:List D) (k:List D→R),dP δ ss ds k=k (al δ ss ds)
 | _,[],_,_=>by simp [dP,al]
 | δ,s::ss,[],k=>by simp only [dP,al,yr];exact ct _ ss [] k
 | δ,s::ss,d::ds,k=>by simp only [dP,al,yr];exact ct _ ss ds k
theorem kq {α:Type}:∀(a b:List α),app a b=a++b
 | [],_=>rfl
 | _::l,b=>by simp [app,kq l b]
theorem oU {α β:Type} (f:α→β):∀(l:List α),lH f l=l.map f
 | []=>rfl
 | _::l=>by simp [lH,oU f l]
theorem jQ {α:Type}:∀(l:List α),iQ l=l.length
 | []=>rfl
 | _::l=>by simp [iQ,jQ l]
theorem rQ {α:Type}:∀(n:Nat) (l:List α),mW n l=l.drop n
 | 0,l=>by simp [mW]
 | n+1,[]=>by simp [mW]
 | n+1,_::l=>by simp [mW,rQ n l]
theorem gq:∀(n:Nat) (l:List Nat),lM n l=decide (n∈l)
 | _,[]=>by simp [lM]
 | n,m::l=>by
  simp only [lM];cases h:Ji n m
  ·have:n≠m:=fun e=>by subst e;simp at h
   simp [gq n l,this]
  ·have:n=m:=Jx h
   simp [this]
theorem rJ {α:Type}:∀(l:List α) (n:Nat),AB l n=l[n]?
 | [],_=>by simp [AB]
 | _::_,0=>by simp [AB]
 | _::l,n+1=>by simpa [AB] using rJ l n
theorem fO:∀(l:List D) (n:Nat),nth l n=l.getD n .bad
 | [],_=>by simp [nth]
 | _::_,0=>by simp [nth]
 | _::l,n+1=>by simpa [nth] using fO l n
theorem fR:∀(δ:List D) (s:Nat) (d:D),(fd δ s d).length=δ.length
 | [],_,_=>by simp [fd]
 | _::_,0,_=>by simp [fd]
 | _::l,s+1,d=>by simp [fd,fR l s d]
theorem de:∀(δ:List D) (ss:List Nat) (ds:List D),(al δ ss ds).length=δ.length
 | _,[],_=>by simp [al]
 | δ,s::ss,[]=>by simp [al,de _ ss,fR]
 | δ,s::ss,d::ds=>by simp [al,de _ ss,fR]
theorem dr:∀(δ:List D) (s i:Nat) (d:D),s≠i→nth (fd δ i d) s=nth δ s
 | [],_,_,_,_=>by simp [fd]
 | _::_,0,0,_,h=>absurd rfl h
 | _::_,_+1,0,_,_=>by simp [nth]
 | _::_,0,_+1,_,_=>by simp [nth]
 | _::l,s+1,i+1,d,h=>by simpa [fd,nth] using dr l s i d (by omega)
theorem bZ:∀(δ:List D) (s:Nat) (d:D),nth (fd δ s d) s=if s<δ.length then d else .bad
 | [],_,_=>by simp [nth]
 | _::_,0,_=>by simp [nth]
 | _::l,s+1,d=>by simpa [fd,nth] using bZ l s d
theorem aw:∀(ss:List Nat) (δ:List D) (ds:List D) (s:Nat),s∉ss→nth (al δ ss ds) s=nth δ s
 | [],_,_,_,_=>by simp [al]
 | i::ss,δ,[],s,h=>by
  simp only [JC,not_or] at h;simp only [al];rw [aw ss _ _ s h.2,dr _ _ _ _ h.1]
 | i::ss,δ,d::ds,s,h=>by
  simp only [JC,not_or] at h;simp only [al];rw [aw ss _ _ s h.2,dr _ _ _ _ h.1]
theorem jv:∀(ss:List Nat) (δ:List D) (s:Nat),s∈ss→nth (al δ ss []) s = .bad
 | i::ss,δ,s,h=>by
  simp only [al];by_cases hs:s∈ss
  ·exact jv ss _ s hs
  ·rw [aw ss _ _ s hs]
   have:s=i:=by simpa [hs] using h
   subst this;rw [bZ];split<;>rfl
theorem oo:∀(ss ts:List Nat) (δ:List D) (ds:List D),ds.length=ss.length→al δ (ss++ts) ds=al (al δ ss ds) ts []
 | [],ts,δ,ds,h=>by
  have:ds=[]:=JK h;subst this;simp [al]
 | s::ss,ts,δ,d::ds,h=>by
  simp only [Kj,al];exact oo ss ts _ ds (by simpa using h)
theorem ij:∀(ss:List Nat) (δ:List D) (s:Nat),nth (al δ ss []) s=nth δ s∨nth (al δ ss []) s = .bad:=by
 intro ss δ s;by_cases h:s∈ss
 ·exact .inr (jv ss δ s h)
 ·exact .inl (aw ss δ [] s h)
theorem uZ {r:Nat}:∀(K:List Kd) (n s:Nat),(ao K s = .via r∨ao K s = .ref r)→n+s∈eB r K n
 | [],n,s,h=>by simp [ao] at h
 | k::K,n,0,h=>by
  simp only [ao] at h;rcases h with rfl | rfl<;>simp [eB]
 | k::K,n,s+1,h=>by
  have ih:=uZ K (n+1) s (by simpa [ao] using h);have e:n+(s+1)=n+1+s:=by omega
  rw [e];cases k<;>simp only [eB]<;>first
   | exact ih
   | (split<;>first | exact ih | exact Kb _ ih)
theorem tB {K:List Kd} {r s:Nat} (h:ao K s = .via r∨ao K s = .ref r):∀(rs:List Nat),r∈rs→s∈bE K rs
 | q::rs,hr=>by
  simp only [bE,kq,JS];rcases JC.1 hr with rfl | hr
  ·exact .inl (by have:=uZ K 0 s h;simpa using this)
  ·exact .inr (tB h rs hr)
theorem AH {r:Nat}:∀(K:List Kd) (n s:Nat),s∈eB r K n→n≤s∧(ao K (s - n) = .via r∨ao K (s - n) = .ref r)
 | [],n,s,h=>by simp [eB] at h
 | k::K,n,s,h=>by
  have ih:s∈eB r K (n+1)→n≤s∧(ao (k::K) (s - n) = .via r∨ao (k::K) (s - n) = .ref r):=by
   intro hm;obtain⟨h1,h2⟩:=AH K (n+1) s hm;have e:s - n=(s - (n+1))+1:=by omega
   rw [e];exact⟨by omega,by simpa [ao] using h2⟩
  cases k<;>simp only [eB] at h<;>try exact ih h
  all_goals
   split at h
   ·rename_i hb
    have:=Jx hb;subst this;rcases JC.1 h with rfl | h
    ·simp [ao]
    ·exact ih h
   ·exact ih h
theorem oT {K:List Kd} {r s:Nat} (h:s∈eB r K 0):ao K s = .via r∨ao K s = .ref r:=by simpa using (AH K 0 s h).2
theorem se {K:List Kd} {s:Nat}:∀(rs:List Nat),s∈bE K rs→∃r∈rs,ao K s = .via r∨ao K s = .ref r
 | [],h=>by simp [bE] at h
 | r::rs,h=>by
  simp only [bE,kq,JS] at h;rcases h with h | h
  ·exact⟨r,by simp,oT h⟩
  ·obtain⟨q,hq,hk⟩:=se rs h
   exact⟨q,by simp [hq],hk⟩
def dX (K:List Kd) (r:Nat):Prop :=
 match ao K r with
 | .own _ _ _=>True
 | .box _ _ _=>True
 | _=>False
theorem Bt {K:List Kd} {r q:Nat} (h:dX K r):r∉eB q K 0:=by
 intro hm;rcases oT hm with e | e<;>simp [dX,e] at h
theorem xf {K:List Kd} {r:Nat} (h:dX K r) (rs:List Nat):r∉bE K rs:=by
 intro hm;obtain⟨q,_,e⟩:=se rs hm;rcases e with e | e<;>simp [dX,e] at h
theorem qD {K:List Kd} {r:Nat} (h:kN K r=true):dX K r:=by
 unfold kN at h;unfold dX;split at h<;>simp_all
def av (a:Act) (s:Nat):Value:=a.tmps.getD s undef
def FB (F:Nat→Prop) (B:Nat):Nat→Nat→Prop
 | 0,_=>False
 | 1,b=>F b∧B≤b
 | _,b=>F b
def bv (w:World) (F:Nat→Prop) (own:Nat→Prop) (z:Nat) (d:D) (y:Value):Prop :=
 ∃l,d = .arr z l∧(∀e∈l,e.width=z)∧((y = .slice none 0 0∧l=[]) ∨
  ∃g o c us cs e,y = .slice (some ⟨g,o,none⟩) l.length c∧l.length≤c∧w.heap[g]?=some (.cells cs e (0,0))∧o+c*z≤cs.size∧bF w F l us ∧
   (∀(i:Nat) (u:Value),us[i]?=some u→cs[o+i]?=some u)∧own g)
def tw (w:World) (F:Nat→Prop) (own:Nat→Prop) (n:Nat) (d:D) (y:Value):Prop :=
 ∃l us g e,d = .agg l∧y = .pointer (some ⟨g,0,none⟩)∧w.heap[g]?=some (.cells (List.toArray us) e (0,0))∧bF w F l us∧l.all D.single=true∧l.length=n∧own g
def nr (k:Kd) (y:Value) (i f:Nat) (p:Value):Prop :=
 match k with
 | .own z _ _=>∃g o n c,y = .slice (some ⟨g,o,none⟩) n c∧p = .pointer (some ⟨g,o+i*z+f,none⟩)
 | .box _ _ _=>∃g,y = .pointer (some ⟨g,0,none⟩)∧p = .pointer (some ⟨g,f,none⟩)
 | _=>False
theorem mh {K:List Kd} {r i f:Nat} {y p:Value} (h:nr (ao K r) y i f p):dX K r:=by
 unfold nr at h;unfold dX;split at h<;>simp_all
def sW (B:Nat) (F:Nat→Prop) (O:Nat→Option (Nat × Nat)) (w:World) (id:Nat × Nat) (k:Kd) (d:D) (y:Value):Prop :=
 d = .bad∨match k with
  | .dat lv=>aU w (FB F B lv) d y
  | .own z lv io=>bv w (FB F B lv) (fun g=>O g=some id∧(io=false→B≤g)) z d y
  | .box n lv io=>tw w (FB F B lv) (fun g=>O g=some id∧(io=false→B≤g)) n d y
  | _=>False
def te (K:List Kd) (B:Nat) (F:Nat→Prop) (O:Nat→Option (Nat × Nat)) (a:Act) (w:World) (δ:List D) (s:Nat):Prop :=
 nth δ s = .bad∨match ao K s with
  | .via r=>av a s=av a r∧nth δ s = .ref 0 0∧nth δ r ≠ .bad∧kN K r=true
  | .ref r=>∃i f,nth δ s = .ref i f∧nth δ r ≠ .bad∧nr (ao K r) (av a r) i f (av a s)
  | .tup ms=>∃l vs,nth δ s = .tup l∧av a s = .tuple vs∧∀i,sW B F O w (s,i+1) (ao ms i) (nth l i) (vs.getD i undef)
  | .no=>True
  | k=>sW B F O w (s,0) k (nth δ s) (av a s)
def gOk (G:List (Nat × (Obj→Prop))) (w:World) (F:Nat→Prop):Prop:=∀p∈G,F p.1∧∃o,w.heap[p.1]?=some o∧p.2 o
theorem Az {G:List (Nat × (Obj→Prop))} {w w':World} {F F':Nat→Prop} (hF:∀b,F b→F' b) (hw:∀b,F b→w'.heap[b]?=w.heap[b]?) (h:gOk G w F):gOk G w' F':=fun p hp=>by
 obtain⟨h1,o,h2,h3⟩:=h p hp;exact⟨hF _ h1,o,(hw _ h1).trans h2,h3⟩
theorem jR {w:World} {F:Nat→Prop}:gOk [] w F:=fun p hp=>by cases hp
structure Inv (c:Cx) (B:Nat) (X:Nat→Prop) (w0:World) (F0 F:Nat→Prop) (O:Nat→Option (Nat × Nat)) (a:Act) (w:World) (δ:List D):Prop where
 la:a.tmps.size=c.K.length
 ld:δ.length=c.K.length
 df:a.defers=[]
 slot:∀s,te c.K B F O a w δ s
 fl:∀b,F b→b<w.heap.size∧O b=none
 ol:∀b p,O b=some p→b<w.heap.size∧(B≤b∨X b)
 f0:∀b,F0 b→F b
 fn:∀b,F b→F0 b∨B≤b
 bb:B≤w.heap.size
 os:w.os=w0.os
 tape:w.tape=w0.tape
 output:w.output=w0.output
 keep:∀b,b<B→¬X b→w.heap[b]?=w0.heap[b]?
 gl:gOk c.G w F
theorem iY {F F':Nat→Prop} {B lv:Nat} (h:∀b,F b→F' b):∀b,FB F B lv b→FB F' B lv b:=by
 intro b hb;unfold FB at *;split at hb<;>simp_all
theorem dJ {F:Nat→Prop} {B lv:Nat}:∀b,FB F B lv b→F b:=by
 intro b hb;unfold FB at *;split at hb<;>simp_all
theorem jK {F:Nat→Prop} {B lv lv':Nat} (h:lv≤lv'):∀b,FB F B lv b→FB F B lv' b:=by
 intro b hb
 match lv,lv',h with
 | 0,_,_=>exact hb.elim
 | 1,1,_=>exact hb
 | 1,n+2,_=>exact hb.1
 | m+2,n+2,_=>exact hb
theorem Dd {w w':World} {F F':Nat→Prop} {own own':Nat→Prop} {z:Nat} {d:D} {y:Value} (hF:∀b,F b→F' b) (hw:∀b,F b→w'.heap[b]?=w.heap[b]?)
  (ho:∀g,own g→own' g∧w'.heap[g]?=w.heap[g]?) (h:bv w F own z d y):bv w' F' own' z d y:=by
 obtain⟨l,h1,h2,h3⟩:=h;refine⟨l,h1,h2,?_⟩
 rcases h3 with h3 | ⟨g,o,c,us,cs,e,a1,a2,a3,a4,a5,a6,a7⟩
 ·exact .inl h3
 ·exact .inr ⟨g,o,c,us,cs,e,a1,a2,(ho g a7).2.trans a3,a4,bm hF hw _ _ a5,a6,(ho g a7).1⟩
theorem sY {w w':World} {F F':Nat→Prop} {own own':Nat→Prop} {n:Nat} {d:D} {y:Value} (hF:∀b,F b→F' b) (hw:∀b,F b→w'.heap[b]?=w.heap[b]?)
  (ho:∀g,own g→own' g∧w'.heap[g]?=w.heap[g]?) (h:tw w F own n d y):tw w' F' own' n d y:=by
 obtain⟨l,us,g,e,a1,a2,a3,a4,a5,a6,a7⟩:=h;exact⟨l,us,g,e,a1,a2,(ho g a7).2.trans a3,bm hF hw _ _ a4,a5,a6,(ho g a7).1⟩
theorem tk {B:Nat} {w w':World} {F F':Nat→Prop} {O O':Nat→Option (Nat × Nat)} {id id':Nat × Nat} {k:Kd} {d:D} {y:Value} (hF:∀b,F b→F' b) (hw:∀b,F b→w'.heap[b]?=w.heap[b]?)
  (ho:∀g,O g=some id→O' g=some id'∧w'.heap[g]?=w.heap[g]?) (h:sW B F O w id k d y):sW B F' O' w' id' k d y:=by
 rcases h with h | h
 ·exact .inl h
 ·refine .inr ?_
  cases k
  case dat lv=>exact aS (iY hF) (fun b hb=>hw b (dJ b hb)) h
  case own z lv io=>exact Dd (iY hF) (fun b hb=>hw b (dJ b hb)) (fun g hg=>⟨⟨(ho g hg.1).1,hg.2⟩,(ho g hg.1).2⟩) h
  case box n lv io=>exact sY (iY hF) (fun b hb=>hw b (dJ b hb)) (fun g hg=>⟨⟨(ho g hg.1).1,hg.2⟩,(ho g hg.1).2⟩) h
  all_goals exact h
theorem Inv.step {c:Cx} {B:Nat} {X:Nat→Prop} {w0:World} {F0 F F':Nat→Prop} {O O':Nat→Option (Nat × Nat)} {a a':Act} {w w':World} {δ δ':List D}
  (h:Inv c B X w0 F0 F O a w δ) (U:Nat→Prop) (la:a'.tmps.size=a.tmps.size) (ld:δ'.length=δ.length) (df:a'.defers=a.defers)
  (hs:∀s,¬U s→av a' s=av a s∧(nth δ' s=nth δ s∨nth δ' s = .bad))
  (hF:∀b,F b→F' b) (hw:∀b,F b→w'.heap[b]?=w.heap[b]?)
  (ho:∀b p,O b=some p→¬U p.1→O' b=some p∧w'.heap[b]?=w.heap[b]?)
  (hd:∀s r,¬U s→(ao c.K s = .via r∨ao c.K s = .ref r)→nth δ' s ≠ .bad→av a' r=av a r∧nth δ' r ≠ .bad)
  (hU:∀s,U s→te c.K B F' O' a' w' δ' s)
  (fl:∀b,F' b→b<w'.heap.size∧O' b=none) (ol:∀b p,O' b=some p→b<w'.heap.size∧(B≤b∨X b)) (fn:∀b,F' b→F b∨B≤b) (sz:w.heap.size≤w'.heap.size)
  (os:w'.os=w.os) (tape:w'.tape=w.tape) (output:w'.output=w.output) (keep:∀b,b<B→¬X b→w'.heap[b]?=w.heap[b]?):Inv c B X w0 F0 F' O' a' w' δ':=by
 refine⟨la.trans h.la,ld.trans h.ld,df.trans h.df,fun s=>?_,fl,ol,fun b hb=>hF b (h.f0 b hb),fun b hb=>?_,Nat.le_trans h.bb sz,os.trans h.os,tape.trans h.tape,output.trans h.output,fun b h1 h2=>(keep b h1 h2).trans (h.keep b h1 h2),Az hF hw h.gl⟩
 ·by_cases hu:U s
  ·exact hU s hu
  ·obtain⟨e1,e2⟩:=hs s hu
   rcases e2 with e2 | e2
   case inr=>exact .inl e2
   by_cases hb:nth δ s = .bad
   ·exact .inl (e2.trans hb)
   have hb':nth δ' s ≠ .bad:=by rw [e2];exact hb
   have h0:=(h.slot s).resolve_left hb;refine .inr ?_
   have lone:∀(k:Kd) (i:Nat) (d:D) (y:Value),sW B F O w (s,i) k d y→sW B F' O' w' (s,i) k d y:=fun k i d y hl=>tk hF hw (fun g hg=>ho g _ hg hu) hl
   have hdd:=hd s;rw [e1,e2];generalize hk:ao c.K s=k at h0 hdd;cases k
   case via r =>
    obtain⟨b1,b2,b3,b4⟩:=h0;obtain⟨d1,d2⟩:=hdd r hu (.inl rfl) hb';exact⟨b1.trans d1.symm,b2,d2,b4⟩
   case ref r =>
    obtain⟨i,f,b1,b2,b3⟩:=h0;obtain⟨d1,d2⟩:=hdd r hu (.inr rfl) hb';exact⟨i,f,b1,d2,by rw [d1];exact b3⟩
   case tup ms =>
    obtain⟨l,vs,b1,b2,b3⟩:=h0;exact⟨l,vs,b1,b2,fun i=>lone _ _ _ _ (b3 i)⟩
   case no=>trivial
   all_goals exact lone _ _ _ _ h0
 ·rcases fn b hb with hb | hb
  ·exact h.fn b hb
  ·exact .inr hb
theorem Ee {a:Act} {d s:Nat} {v:Value}:av (a.put (some d) v) s=if s=d∧d<a.tmps.size then v else av a s:=by
 simp only [av,Act.put,Array.getD_eq_getD_getElem?,Array.getElem?_setIfInBounds];by_cases hs:d=s
 ·subst hs
  by_cases hd:d<a.tmps.size
  ·simp [hd]
  ·simp [hd]
 ·simp [hs,Ne.symm hs]
theorem cK {a:Act} {d s:Nat} {v:Value} (h:s≠d):av (a.put (some d) v) s=av a s:=by rw [Ee,if_neg (by simp [h])]
theorem en {a:Act} {d:Nat} {v:Value} (h:d<a.tmps.size):av (a.put (some d) v) d=v:=by rw [Ee,if_pos ⟨rfl,h⟩]
theorem iu {a:Act} {d:Nat} {v:Value}:(a.put (some d) v).tmps.size=a.tmps.size:=by simp [Act.put]
theorem Inv.root {c:Cx} {B:Nat} {X:Nat→Prop} {w0:World} {F0 F:Nat→Prop} {O:Nat→Option (Nat × Nat)} {a:Act} {w:World} {δ:List D}
  (h:Inv c B X w0 F0 F O a w δ) {s r:Nat} (hv:ao c.K s = .via r∨ao c.K s = .ref r) (hb:nth δ s ≠ .bad):dX c.K r∧nth δ r ≠ .bad:=by
 have h0:=(h.slot s).resolve_left hb;rcases hv with hv | hv<;>rw [hv] at h0
 ·exact⟨qD h0.2.2.2,h0.2.2.1⟩
 ·obtain⟨_,_,_,h2,h3⟩:=h0
  exact⟨mh h3,h2⟩
def xy (K:List Kd) (B:Nat) (F:Nat→Prop) (a:Act) (w:World) (δ:List D) (d:Nat) (z:D) (y:Value):Prop :=
 z = .bad∨match ao K d with
  | .dat lv=>aU w (FB F B lv) z y
  | .via r=>y=av a r∧z = .ref 0 0∧nth δ r ≠ .bad∧kN K r=true
  | .ref r=>∃i f,z = .ref i f∧nth δ r ≠ .bad∧nr (ao K r) (av a r) i f y
  | .no=>True
  | _=>False
theorem Inv.put {c:Cx} {B:Nat} {X:Nat→Prop} {w0:World} {F0 F:Nat→Prop} {O:Nat→Option (Nat × Nat)} {a:Act} {w:World} {δ:List D}
  (h:Inv c B X w0 F0 F O a w δ) {d:Nat} {z:D} {y:Value} (hk:xy c.K B F a w δ d z y) :
  Inv c B X w0 F0 F O (a.put (some d) y) w (al δ (d::eB d c.K 0) [z]):=by
 have e0:al δ (d::eB d c.K 0) [z]=al (fd δ d z) (eB d c.K 0) []:=by simp [al]
 rw [e0];have keepr:∀r,dX c.K r→r≠d→nth (al (fd δ d z) (eB d c.K 0) []) r=nth δ r:=fun r hr hd=>by
  rw [aw _ _ _ _ (Bt hr),dr _ _ _ _ hd]
 refine h.step (fun s=>s=d) iu (by rw [de,fR]) rfl (fun s hs=>⟨cK hs,?_⟩) (fun _ hb=>hb) (fun _ _=>rfl) (fun _ _ h _=>⟨h,rfl⟩) (fun s r hs hv hb=>?_) (fun s hs=>?_) h.fl h.ol (fun _ hb=>.inl hb) (JM _) rfl rfl rfl (fun _ _ _=>rfl)
 ·rcases ij (eB d c.K 0) (fd δ d z) s with e | e
  ·exact .inl (e.trans (dr _ _ _ _ hs))
  ·exact .inr e
 ·by_cases hr:r=d
  ·subst hr
   exact absurd (jv _ _ _ (by have:=uZ c.K 0 s hv;simpa using this)) hb
  ·refine⟨cK hr,?_⟩
   have hs':s∉eB d c.K 0:=fun hm=>hb (jv _ _ _ hm)
   rw [aw _ _ _ _ hs',dr _ _ _ _ hs] at hb;obtain⟨h1,h2⟩:=h.root hv hb;rw [keepr r h1 hr];exact h2
 ·subst hs
  by_cases hdl:s<c.K.length
  case neg =>
   refine .inl ?_
   rcases ij (eB s c.K 0) (fd δ s z) s with e | e
   ·rw [e,bZ,if_neg (by rw [h.ld];exact hdl)]
   ·exact e
  have hav:av (a.put (some s) y) s=y:=en (by rw [h.la];exact hdl);rcases ij (eB s c.K 0) (fd δ s z) s with e | e
  case inr=>exact .inl e
  have ez:nth (al (fd δ s z) (eB s c.K 0) []) s=z:=by rw [e,bZ,if_pos (by rw [h.ld];exact hdl)]
  rcases hk with hk | hk
  ·exact .inl (ez.trans hk)
  ·refine .inr ?_
   rw [ez,hav];generalize hks:ao c.K s=k at hk;have hne:∀r,dX c.K r→(∀z lv io,k ≠ .own z lv io)→(∀n lv io,k ≠ .box n lv io)→r≠s:=by
    intro r hr h1 h2 e;subst e;unfold dX at hr;rw [hks] at hr;cases k
    case own z lv io=>exact h1 _ _ _ rfl
    case box n lv io=>exact h2 _ _ _ rfl
    all_goals exact hr
   cases k
   case dat lv=>exact .inr hk
   case via r =>
    obtain⟨b1,b2,b3,b4⟩:=hk;have hr:=hne r (qD b4) (by intros;simp) (by intros;simp);exact⟨by rw [cK hr];exact b1,b2,by rw [keepr r (qD b4) hr];exact b3,b4⟩
   case ref r =>
    obtain⟨i,f,b1,b2,b3⟩:=hk;have hr:=hne r (mh b3) (by intros;simp) (by intros;simp);exact⟨i,f,b1,by rw [keepr r (mh b3) hr];exact b2,by rw [cK hr];exact b3⟩
   case no=>trivial
   all_goals exact hk.elim
theorem Inv.forget {c:Cx} {B:Nat} {X:Nat→Prop} {w0:World} {F0 F:Nat→Prop} {O:Nat→Option (Nat × Nat)} {a:Act} {w:World} {δ δ':List D}
  (h:Inv c B X w0 F0 F O a w δ) (hl:δ'.length=δ.length) (hs:∀s,nth δ' s=nth δ s∨nth δ' s = .bad) (hr:∀s r,(ao c.K s = .via r∨ao c.K s = .ref r)→nth δ' s ≠ .bad→nth δ' r ≠ .bad):Inv c B X w0 F0 F O a w δ' :=
 h.step (fun _=>False) rfl hl rfl (fun s _=>⟨rfl,hs s⟩) (fun _ hb=>hb) (fun _ _=>rfl) (fun _ _ h _=>⟨h,rfl⟩) (fun s r _ hv hb=>⟨rfl,hr s r hv hb⟩) (fun _ h=>h.elim) h.fl h.ol (fun _ hb=>.inl hb) (JM _) rfl rfl rfl (fun _ _ _=>rfl)
theorem Inv.dat {c:Cx} {B:Nat} {X:Nat→Prop} {w0:World} {F0 F:Nat→Prop} {O:Nat→Option (Nat × Nat)} {a:Act} {w:World} {δ:List D}
  (h:Inv c B X w0 F0 F O a w δ) {s lv:Nat} (hk:ao c.K s = .dat lv):cr w (FB F B lv) (nth δ s) (av a s):=by
 rcases h.slot s with hb | h0
 ·exact .inl hb
 ·rw [hk] at h0
  exact h0
def dF (c:Cx) (A:Ac) (δ:List D) (k:List D→Option Out):Option Out :=
 match A with
 | .one rd d h=>(h (ak δ rd)).bind fun z=>k (al δ (d::eB d c.K 0) [z])
 | .many rd hw cw fn=>fn (ak δ rd) fun outs=>k (al δ (hw++(cw++bE c.K hw)) outs)
def Next (c:Cx) (B:Nat) (X:Nat→Prop) (w0:World) (F0:Nat→Prop) (k:List D→Option Out) (r:Out) (a:Act) (w:World):Prop :=
 ∃F O δ,Inv c B X w0 F0 F O a w δ∧k δ=some r
section
variable {P:Program} {c:Cx} {B:Nat} {X:Nat→Prop} {w0:World} {F0 F:Nat→Prop} {O:Nat→Option (Nat × Nat)} {a:Act} {w:World} {δ:List D}
theorem cF:∀(xs:List Operand),dG xs (ak δ (mf xs))=xs.map (opD δ)
 | []=>rfl
 | .tmp t::xs=>by simp [dG,ak,opD,cF xs]
 | .const v::xs=>by simp [dG,mf,opD,cF xs]
 | .func f::xs=>by simp [dG,mf,opD,cF xs]
 | .global g::xs=>by simp [dG,mf,opD,cF xs]
theorem ur (a b:Nat):DI a b=max a b:=by
 unfold DI;cases h:Jn a b
 ·have:¬a≤b:=fun hl=>by rw [Nat.ble_eq_true_of_le hl] at h;cases h
  simp only;omega
 ·have:=Nat.le_of_ble_eq_true h
  simp only;omega
theorem bX {a b:Nat}:Jn a b=true↔a≤b:=⟨Nat.le_of_ble_eq_true,Nat.ble_eq_true_of_le⟩
theorem aQ {a b:Nat}:Ji a b=true↔a=b:=⟨Jx,fun h=>by subst h;simp⟩
theorem kc {K:List Kd} {n:Nat}:∀{xs:List Operand},jO K xs≤n→∀x∈xs,dL K x≤n
 | [],_,x,hx=>by simp at hx
 | y::ys,h,x,hx=>by
  simp only [jO,ur] at h;rcases JC.1 hx with rfl | hx
  ·omega
  ·exact kc (by omega) x hx
theorem cI (a:Act) (t:Nat):a.eval (.tmp t)=av a t:=rfl
theorem Inv.opd (h:Inv c B X w0 F0 F O a w δ) {x:Operand} (hx:dL c.K x≤2):cr w (FB F B (dL c.K x)) (opD δ x) (a.eval x):=by
 cases x with
 | tmp t =>
  simp only [dL] at hx ⊢;split at hx
  ·rename_i lv hk
   exact h.dat hk
  ·omega
 | const v =>
  simp only [dL] at hx ⊢;split at hx
  case h_2=>omega
  rename_i hv;refine .inr ?_
  simp only [opD,Act.eval];unfold okC at hv;split at hv<;>first
   | (cases hv;done)
   | exact uO
   | exact jt rfl
 | func f =>
  refine .inr ?_
  simp only [Act.eval,aU,RepC];exact⟨[],rfl,aP.2 rfl⟩
 | global g=>simp only [dL] at hx;omega
theorem AY {o:Oper} {y:Value} {K:Act→World→Prop} {Q:Exit→Act→World→Prop} {w':World} (hr:(execOp a.eval o).run P w = .ok (.value y) w') (hK:K (a.put o.dst y) w'):o.wp P a w K Q:=by
 unfold Oper.wp;rw [hr];exact hK
theorem EV {o:Oper} {K:Act→World→Prop} {Q:Exit→Act→World→Prop} {w':World} (hr:(execOp a.eval o).run P w = .ok .skip w') (hK:K (a.put o.dst undef) w'):o.wp P a w K Q:=by
 unfold Oper.wp;rw [hr];exact hK
theorem cA {o:Oper} {rd:List Nat} {d:Nat} {h:List D→Option D} (hI:Inv c B X w0 F0 F O a w δ) (hd:o.dst=some d) {k:List D→Option Out} {r:Out} (hg:dF c (.one rd d h) δ k=some r)
  (hrun:∀z,h (ak δ rd)=some z→∃y,(execOp a.eval o).run P w = .ok (.value y) w∧xy c.K B F a w δ d z y) (Q:Exit→Act→World→Prop):o.wp P a w (Next c B X w0 F0 k r) Q:=by
 simp only [dF] at hg;obtain⟨z,hz,hk⟩:=Ju.1 hg;obtain⟨y,hy,hp⟩:=hrun z hz;exact AY hy ⟨F,O,_,by rw [hd];exact hI.put hp,hk⟩
theorem fT {lv lv':Nat} (hl:lv≤lv') {z:D} {y:Value} (h:cr w (FB F B lv) z y):cr w (FB F B lv') z y:=h.imp id fun h=>aS (jK hl) (fun _ _=>rfl) h
theorem bs {o:Oper} {xs:List Operand} {lv:Nat} {h:List D→Option D} {A:Ac} (hA:bT c o.dst xs lv h=some A) (hI:Inv c B X w0 F0 F O a w δ) {k:List D→Option Out} {r:Out} (hg:dF c A δ k=some r)
  (hrun:(∀x∈xs,dL c.K x≤2∧cr w (FB F B (dL c.K x)) (opD δ x) (a.eval x))→∀z,h (xs.map (opD δ))=some z→∃y,(execOp a.eval o).run P w = .ok (.value y) w∧cr w (FB F B lv) z y) (Q:Exit→Act→World→Prop):o.wp P a w (Next c B X w0 F0 k r) Q:=by
 unfold bT at hA;split at hA
 ·cases hA
 rename_i d hd;split at hA
 case h_2=>cases hA
 rename_i l hk;split at hA
 ·cases hA
 rename_i hlv;rw [bX] at hlv;have hops:∀x∈xs,dL c.K x≤2∧cr w (FB F B (dL c.K x)) (opD δ x) (a.eval x):=fun x hx=>⟨kc hlv x hx,hI.opd (kc hlv x hx)⟩
 have putOk:∀z y,cr w (FB F B l) z y→xy c.K B F a w δ d z y:=fun z y hz=>hz.imp id fun hz=>by rw [hk];exact hz
 split at hA
 ·rename_i hle
  rw [bX] at hle;cases hA;refine cA hI hd hg (fun z hz=>?_) Q
  rw [cF] at hz;obtain⟨y,h1,h2⟩:=hrun hops z hz;exact⟨y,h1,putOk z y (fT hle h2)⟩
 ·split at hA
  case h_2=>cases hA
  cases hA;refine cA hI hd hg (fun z hz=>?_) Q
  rw [cF] at hz;obtain⟨z',hz',hc⟩:=Ju.1 hz;obtain⟨y,h1,h2⟩:=hrun hops z' hz';unfold bw at hc;split at hc
  case isFalse=>cases hc
  rename_i hv;cases hc;refine⟨y,h1,putOk z y (.inr (ml hv (h2.rep ?_)))⟩
  intro e;subst e;simp [D.isV] at hv
theorem dw {o:Oper} {s:Sem Value} {y:Value} {w':World} (he:execOp a.eval o=(do pure (.value (←s)))) (hs:s.run P w = .ok y w'):(execOp a.eval o).run P w = .ok (.value y) w':=by
 rw [he];simp [hs]
theorem ja {v:Value} (h:flat v=true) {G:Nat→Prop} {z:D} (hz:z = .v v):cr w G z v:=.inr (hz ▸ jt h)
theorem bQ {h:D→Option D} {l:List D} {z:D} (e:fy h l=some z):∃a,l=[a]∧h a=some z:=by
 unfold fy at e;split at e
 ·exact⟨_,rfl,e⟩
 ·cases e
theorem gF {h:D→D→Option D} {l:List D} {z:D} (e:ui h l=some z):∃a b,l=[a,b]∧h a b=some z:=by
 unfold ui at e;split at e
 ·exact⟨_,_,rfl,e⟩
 ·cases e
theorem xK {h:D→D→D→Option D} {l:List D} {z:D} (e:FY h l=some z):∃a b x,l=[a,b,x]∧h a b x=some z:=by
 unfold FY at e;split at e
 ·exact⟨_,_,_,rfl,e⟩
 ·cases e
def gZ (P:Program) (c:Cx) (o:Oper):Prop :=
 ∀(A:Ac),cC c o=some A→∀(B:Nat) (X:Nat→Prop) (w0:World) (F0 F:Nat→Prop) (O:Nat→Option (Nat × Nat)) (a:Act) (w:World) (δ:List D),Inv c B X w0 F0 F O a w δ →
  ∀(k:List D→Option Out) (r:Out),dF c A δ k=some r→∀Q,o.wp P a w (Next c B X w0 F0 k r) Q
theorem aE {t:Nat} {f:TI→Option Ac} {A:Ac} (h:eF c t f=some A):∃i,dj c.T t=some i∧f i=some A:=by
 unfold eF at h;split at h
 ·exact⟨_,‹_›,h⟩
 ·cases h
theorem tok (hT:okT P c.T=true) {t:Nat} {i:TI} (h:dj c.T t=some i):TOk P t i:=uD (ER hT h)
theorem BG {o:Oper} {q x y:Operand} (ho:o.op = .pick q x y):gZ P c o:=by
 intro A hA B X w0 F0 F O a w δ hI k r hg Q;simp only [cC,ho] at hA;refine bs hA hI hg (fun hx z hz=>?_) Q
 obtain⟨d1,d2,d3,e,hz⟩:=xK hz;simp only [Jo,Js,Jm,and_true] at e;obtain⟨rfl,rfl,rfl⟩:=e;have h1:=(hx q (by simp)).2;have h2:=(hx x (by simp)).2;have h3:=(hx y (by simp)).2;rw [ur];obtain⟨v,hv,hr⟩:=Er (P:=P) h1 (fT (Nat.le_max_left _ (dL c.K y)) h2) (fT (Nat.le_max_right (dL c.K x) _) h3) hz;refine⟨v,?_,hr⟩
 simp only [execOp,ho];simp only [Jl,Jq] at hv ⊢;cases hb:(asBool (a.eval q)).run P w with
 | halt s t=>rw [hb] at hv;simp at hv
 | ok b w' =>
  rw [hb] at hv;simp only [Jj,Result.ok.injEq] at hv ⊢;exact⟨by rw [hv.1],hv.2⟩
theorem AR (hT:okT P c.T=true) {o:Oper} {op:BinOp} {t t':Nat} {x y:Operand} (ho:o.op = .binOp op t x y t'):gZ P c o:=by
 intro A hA B X w0 F0 F O a w δ hI k r hg Q;simp only [cC,ho] at hA;obtain⟨i,hi,hA⟩:=aE hA;split at hA
 ·rename_i hif
  refine bs hA hI hg (fun hx z hz=>?_) Q
  obtain⟨d1,d2,e,hz⟩:=gF hz;simp only [Jo,Js,Jm,and_true] at e;obtain⟨rfl,rfl⟩:=e;obtain⟨v,hv,hr,hf⟩:=Ey (P:=P) (tok hT hi) hif x y (fun hn=>by
   unfold DJ at hn;split at hn
   ·exact⟨_,rfl⟩
   ·cases hn) (hx x (by simp)).2 (hx y (by simp)).2 hz
  exact⟨v,dw (by simp only [execOp,ho]) hv,ja hf hr⟩
 split at hA
 ·rename_i hsl hny
  refine bs hA hI hg (fun hx z hz=>?_) Q
  obtain⟨d1,d2,e,hz⟩:=gF hz;simp only [Jo,Js,Jm,and_true] at e;obtain⟨rfl,rfl⟩:=e;have ey:y = .const (.slice none 0 0):=by
   unfold FF at hny;split at hny
   ·rfl
   ·cases hny
  have ev:a.eval y = .slice none 0 0:=by rw [ey];rfl
  obtain⟨v,hv,hr,hf⟩:=Ef (P:=P) (tok hT hi) hsl x y (hx x (by simp)).2 hz;rw [←ev] at hv;exact⟨v,dw (by simp only [execOp,ho]) hv,ja hf hr⟩
 refine bs hA hI hg (fun hx z hz=>?_) Q
 obtain⟨d1,d2,e,hz⟩:=gF hz;simp only [Jo,Js,Jm,and_true] at e;obtain⟨rfl,rfl⟩:=e;obtain⟨v,hv,hr,hf⟩:=Gw (P:=P) (tok hT hi) x y (hx x (by simp)).2 (hx y (by simp)).2 hz;exact⟨v,dw (by simp only [execOp,ho]) hv,ja hf hr⟩
theorem Bb {o:Oper} {op:UnOp} {t:Nat} {x:Operand} (ho:o.op = .unOp op t x):gZ P c o:=by
 intro A hA B X w0 F0 F O a w δ hI k r hg Q;simp only [cC,ho] at hA;refine bs hA hI hg (fun hx z hz=>?_) Q
 obtain⟨d1,e,hz⟩:=bQ hz;simp only [Jo,Js,Jm,and_true] at e;subst e;obtain⟨v,hv,hr,hf⟩:=Hq (P:=P) (hx x (by simp)).2 hz;exact⟨v,dw (by simp only [execOp,ho]) hv,ja hf hr⟩
theorem mO {i ti:TI} {f off:Nat} (h:rO c i f=some (off,ti)):∃ty,i.fs[f]?=some (off,ty)∧dj c.T ty=some ti:=by
 unfold rO at h;split at h
 ·rename_i o ty hf
  split at h
  ·rename_i j hj
   simp at h;obtain⟨rfl,rfl⟩:=h;rw [rJ] at hf;exact⟨ty,hf,hj⟩
  ·cases h
 ·cases h
theorem zV (hT:okT P c.T=true) {o:Oper} {t f:Nat} {x:Operand} (ho:o.op = .field t x f):gZ P c o:=by
 intro A hA B X w0 F0 F O a w δ hI k r hg Q;simp only [cC,ho] at hA;obtain⟨i,hi,hA⟩:=aE hA;split at hA
 case h_2=>cases hA
 rename_i off ti hf;obtain⟨ty,hf,hti⟩:=mO hf;refine bs hA hI hg (fun hx z hz=>?_) Q
 obtain⟨d1,e,hz⟩:=bQ hz;simp only [Jo,Js,Jm,and_true] at e;subst e;obtain⟨y,hy,hr⟩:=FT (tok hT hi) (tok hT hti) hf (hx x (by simp)).2 hz;exact⟨y,dw (by simp only [execOp,ho]) hy,.inr hr⟩
theorem yZ (hT:okT P c.T=true) {o:Oper} {t:Nat} {x y:Operand} (ho:o.op = .index t x y):gZ P c o:=by
 intro A hA B X w0 F0 F O a w δ hI k r hg Q;simp only [cC,ho] at hA;obtain⟨i,hi,hA⟩:=aE hA;unfold FW at hA;split at hA
 ·rename_i hs
  refine bs hA hI hg (fun hx z hz=>?_) Q
  obtain⟨d1,d2,e,hz⟩:=gF hz;simp only [Jo,Js,Jm,and_true] at e;obtain⟨rfl,rfl⟩:=e;obtain⟨v,hv,hr,hf⟩:=EQ (P:=P) (tok hT hi) hs (hx x (by simp)).2 (hx y (by simp)).2 hz;exact⟨v,dw (by simp only [execOp,ho]) hv,ja hf hr⟩
 ·split at hA
  ·cases hA
  ·rename_i n hn
   obtain⟨e',he,hA⟩:=aE hA;refine bs hA hI hg (fun hx z hz=>?_) Q
   obtain⟨d1,d2,e,hz⟩:=gF hz;simp only [Jo,Js,Jm,and_true] at e;obtain⟨rfl,rfl⟩:=e;obtain⟨v,hv,hr⟩:=GA (P:=P) (tok hT hi) (tok hT he) (by intro h0;exact hn h0) rfl (hx x (by simp)).2 (hx y (by simp)).2 hz;exact⟨v,dw (by simp only [execOp,ho]) hv,.inr hr⟩
theorem uI {o:Oper} {f:Nat} {u v:Array Operand} (ho:o.op = .makeFunc (.func f) u v):gZ P c o:=by
 intro A hA B X w0 F0 F O a w δ hI k r hg Q;simp only [cC,ho] at hA;split at hA
 case h_3=>cases hA
 case h_2 =>
  rename_i x0 xs h1 h2;refine bs hA hI hg (fun hx z hz=>?_) Q
  have e1:u=#[]:=by simpa using h1
  subst e1;unfold Iw at hz;split at hz
  case isFalse=>cases hz
  rename_i hall;cases hz;refine⟨.func (.func f) #[] (v.map a.eval),dw (s:=Instr.makeFunc (.func f) #[] (v.map a.eval)) (by simp [execOp,ho]) rfl,.inr ?_⟩
  simp only [aU,RepC];refine⟨(x0::xs).map a.eval,?_,?_⟩
  ·have:v=(x0::xs).toArray:=by rw [←h2]
   rw [this];simp
  ·have key:∀ys:List Operand,(∀y∈ys,y∈x0::xs)→(ys.map (opD δ)).all D.single=true→bF w (FB F B (jO c.K (x0::xs))) (ys.map (opD δ)) (ys.map a.eval):=by
    intro ys;induction ys with
    | nil=>intro _ _;exact aP.2 rfl
    | cons y ys ih =>
     intro hm hs;simp only [Jo,JI,Jk] at hs;have h3:=(hx y (hm y (by simp))).2;have hne:opD δ y ≠ .bad:=fun e=>by rw [e] at hs;simp [D.single] at hs
     have h4:=h3.rep hne;rw [gL hs.1] at h4;exact aA.2 ⟨[a.eval y],ys.map a.eval,rfl,RepC_mono (jK (kc (JM _) y (hm y (by simp)))) (fun _ _=>rfl) _ _ h4,ih (fun z hz=>hm z (by simp [hz])) hs.2⟩
   exact key (x0::xs) (fun _ h=>h) hall
 rename_i h1 h2;refine bs hA hI hg (fun hx z hz=>?_) Q
 simp at hz;subst hz;have e1:u=#[]:=by simpa using h1
 have e2:v=#[]:=by simpa using h2
 subst e1 e2;refine⟨.func (.func f) #[] #[],dw (s:=Instr.makeFunc (.func f) #[] #[]) (by simp [execOp,ho]) rfl,.inr ?_⟩
 simp only [aU,RepC];exact⟨[],rfl,aP.2 rfl⟩
theorem sT {K:List Kd} {t:Nat} {rd:List Nat} {lv:Nat} {r:Option Nat} (h:kv K (.tmp t)=some (rd,lv,r)) :
  (ao K t = .dat lv∧rd=[t]∧r=none)∨(∃z io,ao K t = .own z lv io∧rd=[t]∧r=some t)∨(∃q z io,ao K t = .via q∧ao K q = .own z lv io∧rd=[t,q]∧r=some q):=by
 simp only [kv] at h;split at h
 ·rename_i l hk
  simp at h;obtain⟨rfl,rfl,rfl⟩:=h;exact .inl ⟨hk,rfl,rfl⟩
 ·rename_i z l io hk
  simp at h;obtain⟨rfl,rfl,rfl⟩:=h;exact .inr (.inl ⟨z,io,hk,rfl,rfl⟩)
 ·rename_i q hk
  split at h
  ·rename_i z l io hq
   simp at h;obtain⟨rfl,rfl,rfl⟩:=h;exact .inr (.inr ⟨q,z,io,hk,hq,rfl,rfl⟩)
  ·cases h
 ·cases h
theorem jy {w:World} {F:Nat→Prop} {own:Nat→Prop} {z:Nat} {d:D} {y:Value} (h:bv w F own z d y):aU w (fun b=>F b∨own b) d y:=by
 obtain⟨l,rfl,h2,h3⟩:=h;simp only [aU,RepC];rcases h3 with ⟨rfl,rfl⟩ | ⟨g,o,c,us,cs,e,rfl,a2,a3,a4,a5,a6,a7⟩
 ·exact⟨none,0,[],rfl,JM _,aP.2 rfl,h2,fun h=>absurd rfl h⟩
 ·refine⟨_,c,us,rfl,a2,bm (fun b hb=>.inl hb) (fun _ _=>rfl) _ _ a5,h2,fun _=>⟨g,o,rfl,.inr a7,fun i u hu=>?_⟩⟩
  simp [World.cell?,a3,a6 i u hu]
theorem Inv.own (h:Inv c B X w0 F0 F O a w δ) {s z lv:Nat} {io:Bool} (hk:ao c.K s = .own z lv io) (hb:nth δ s ≠ .bad):bv w (FB F B lv) (fun g=>O g=some (s,0)∧(io=false→B≤g)) z (nth δ s) (av a s):=by
 have h0:=(h.slot s).resolve_left hb;rw [hk] at h0;exact h0.resolve_left hb
theorem Inv.box (h:Inv c B X w0 F0 F O a w δ) {s n lv:Nat} {io:Bool} (hk:ao c.K s = .box n lv io) (hb:nth δ s ≠ .bad):tw w (FB F B lv) (fun g=>O g=some (s,0)∧(io=false→B≤g)) n (nth δ s) (av a s):=by
 have h0:=(h.slot s).resolve_left hb;rw [hk] at h0;exact h0.resolve_left hb
theorem Inv.via (h:Inv c B X w0 F0 F O a w δ) {s q:Nat} (hk:ao c.K s = .via q) (hb:nth δ s ≠ .bad):av a s=av a q∧nth δ s = .ref 0 0∧nth δ q ≠ .bad∧kN c.K q=true:=by
 have h0:=(h.slot s).resolve_left hb;rw [hk] at h0;exact h0
theorem Inv.ref (h:Inv c B X w0 F0 F O a w δ) {s q:Nat} (hk:ao c.K s = .ref q) (hb:nth δ s ≠ .bad):∃i f,nth δ s = .ref i f∧nth δ q ≠ .bad∧nr (ao c.K q) (av a q) i f (av a s):=by
 have h0:=(h.slot s).resolve_left hb;rw [hk] at h0;exact h0
theorem bS {p x y:D} (h:ab p x=some y):p ≠ .bad∧x=y:=by
 unfold ab at h;split at h
 ·cases h
 ·rename_i hp
  simp at h;exact⟨hp,h⟩
theorem Eu {k:Kd} {y p:Value} {i f:Nat} (h:nr k y i f p):∃g o,p = .pointer (some ⟨g,o,none⟩):=by
 unfold nr at h;split at h
 ·obtain⟨g,o,n,cc,_,e⟩:=h;exact⟨g,_,e⟩
 ·obtain⟨g,_,e⟩:=h;exact⟨g,_,e⟩
 ·exact h.elim
theorem vK {o:Oper} {x:Operand} (ho:o.op = .nilCheck x):gZ P c o:=by
 intro A hA B X w0 F0 F O a w δ hI k r hg Q;simp only [cC,ho] at hA;have dat:bT c o.dst [x] (dL c.K x) (fy EB)=some A→o.wp P a w (Next c B X w0 F0 k r) Q:=by
  intro hA;refine bs hA hI hg (fun hx z hz=>?_) Q
  obtain⟨d1,e,hz⟩:=bQ hz;simp only [Jo,Js,Jm,and_true] at e;subst e;obtain⟨h1,h2⟩:=FO (P:=P) (hx x (by simp)).2 hz o x a.eval ho rfl;exact⟨_,h1,.inr h2⟩
 have run:∀t g o',x = .tmp t→av a t = .pointer (some ⟨g,o',none⟩)→(execOp a.eval o).run P w = .ok (.value (av a t)) w:=by
  intro t g o' hx hv;subst hx;simp [execOp,ho,cI,hv]
 unfold Gl at hA;split at hA
 ·rename_i t
  split at hA
  ·rename_i n lv io hk
   split at hA
   ·cases hA
   rename_i d hd;split at hA
   case h_2=>cases hA
   rename_i rr hkd;split at hA
   case h_2=>cases hA
   rename_i hrt;rw [aQ] at hrt;subst hrt;cases hA;refine cA hI hd hg (fun z hz=>?_) Q
   obtain⟨d1,e,hz⟩:=bQ hz;simp only [ak,Jm,and_true] at e;subst e;obtain⟨h1,rfl⟩:=bS hz;obtain⟨m,us,g,e,_,a1,_⟩:=hI.box hk h1;refine⟨_,run _ g 0 rfl a1,.inr ?_⟩
   rw [hkd];refine⟨0,0,rfl,h1,?_⟩
   rw [hk];exact⟨g,a1,a1⟩
  ·rename_i rr hk
   split at hA
   ·cases hA
   rename_i d hd;split at hA
   case h_2=>cases hA
   rename_i r' hkd;split at hA
   case h_2=>cases hA
   rename_i hrt;rw [aQ] at hrt;subst hrt;cases hA;refine cA hI hd hg (fun z hz=>?_) Q
   obtain⟨d1,e,hz⟩:=bQ hz;simp only [ak,Jm,and_true] at e;subst e;obtain⟨h1,rfl⟩:=bS hz;obtain⟨ii,ff,g1,g2,g3⟩:=hI.ref hk h1;obtain⟨g,o',e⟩:=Eu g3;refine⟨_,run _ g o' rfl e,.inr ?_⟩
   rw [hkd];exact⟨ii,ff,g1,g2,g3⟩
  ·exact dat hA
 ·exact dat hA
theorem ph (hI:Inv c B X w0 F0 F O a w δ) {t:Nat} {rd:List Nat} {lv:Nat} {q:Option Nat} (h:kv c.K (.tmp t)=some (rd,lv,q)) {d:D}
  (hd:(match rd with
   | [_]=>some (nth (ak δ rd) 0)
   | _=>ab (nth (ak δ rd) 0) (nth (ak δ rd) 1))=some d):∃G,cr w G d (av a t):=by
 rcases sT h with ⟨hk,rfl,rfl⟩ | ⟨z,io,hk,rfl,rfl⟩ | ⟨s,z,io,hk,hs,rfl,rfl⟩
 ·simp [ak,nth] at hd
  subst hd;exact⟨_,hI.dat hk⟩
 ·simp [ak,nth] at hd
  subst hd;by_cases hb:nth δ t = .bad
  ·exact⟨fun _=>True,.inl hb⟩
  ·exact⟨_,.inr (jy (hI.own hk hb))⟩
 ·simp only [ak,nth] at hd
  obtain⟨h1,rfl⟩:=bS hd;obtain⟨g1,g2,g3,g4⟩:=hI.via hk h1;rw [g1];exact⟨_,.inr (jy (hI.own hs g3))⟩
theorem vd (hT:okT P c.T=true) {o:Oper} {x:Operand} {t:Nat} {str:Bool} (ho:o.op = .call {callee:=.builtin .len,args:=#[x],argTypes:=#[t]}) {i:TI} (hi:dj c.T t=some i)
  (hs:str=false→jT i=true) (hs':str=true→i.str=true) {A:Ac} (hA:CU c o.dst str x=some A) (hI:Inv c B X w0 F0 F O a w δ) {k:List D→Option Out} {r:Out} (hg:dF c A δ k=some r) (Q:Exit→Act→World→Prop):o.wp P a w (Next c B X w0 F0 k r) Q:=by
 have run:∀(G:Nat→Prop) (d z:D),cr w G d (a.eval x)→lenD str d=some z→∃v,(execOp a.eval o).run P w = .ok (.value v) w∧z = .v v∧flat v=true:=by
  intro G d z hd hz;obtain⟨v,h1,h2,h3⟩:=FI (P:=P) (t:=t) (ty:=o.type) hd (fun h=>⟨_,(jU (tok hT hi) (hs h)).1⟩) (fun h=>((tok hT hi).str (hs' h)).1) hz;refine⟨v,?_,h2,h3⟩
  simp only [execOp,ho,resolve,invoke,builtin,Jl,Jq,Jj,List.map_toArray,Jo,Js,h1]
 have dat:∀A',bT c o.dst [x] 0 (fy (lenD str))=some A'→dF c A' δ k=some r→o.wp P a w (Next c B X w0 F0 k r) Q:=by
  intro A' hA' hg';refine bs hA' hI hg' (fun hx z hz=>?_) Q
  obtain⟨d1,e,hz⟩:=bQ hz;simp only [Jo,Js,Jm,and_true] at e;subst e;obtain⟨v,h1,h2,h3⟩:=run _ _ z (hx x (by simp)).2 hz;exact⟨v,h1,ja h3 h2⟩
 unfold CU at hA;split at hA
 ·rename_i t'
  split at hA
  ·exact dat A hA hg
  ·split at hA
   case h_2=>cases hA
   rename_i d rd lv q hd hsrc;split at hA
   case h_2=>cases hA
   rename_i lv' hk;cases hA;refine cA hI hd hg (fun z hz=>?_) Q
   have key:∃G dd,cr w G dd (av a t')∧lenD str dd=some z:=by
    have hsrc':=hsrc;rcases sT hsrc' with ⟨h1,rfl,rfl⟩ | ⟨_,_,h1,rfl,rfl⟩ | ⟨s,_,_,h1,h2,rfl,rfl⟩
    ·obtain⟨G,hG⟩:=ph hI hsrc (d:=nth δ t') (by simp [ak,nth])
     exact⟨G,_,hG,by simpa [ak,nth] using hz⟩
    ·obtain⟨G,hG⟩:=ph hI hsrc (d:=nth δ t') (by simp [ak,nth])
     exact⟨G,_,hG,by simpa [ak,nth] using hz⟩
    ·simp only [ak,nth] at hz
     obtain⟨dd,e1,e2⟩:=Ju.1 hz;obtain⟨G,hG⟩:=ph hI hsrc (d:=dd) (by simpa [ak,nth] using e1);exact⟨G,dd,hG,e2⟩
   obtain⟨G,dd,h1,h2⟩:=key;obtain⟨v,e1,e2,e3⟩:=run G dd z h1 h2;exact⟨v,e1,(ja (G:=FB F B lv') e3 e2).imp id fun h=>by rw [hk];exact h⟩
 ·exact dat A hA hg
end
end Go.V

end
