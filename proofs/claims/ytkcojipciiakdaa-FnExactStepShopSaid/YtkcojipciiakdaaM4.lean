/-
  A part of the proof: contracts and plain forms of functions beneath the statement, made small by a program (names shortened, what is not needed left out).
-/
import Derived.Test.YtkcojipciiakdaaRows
import Derived.Test.YtkcojipciiakdaaM3
import Derived.Maps.AppendAt
import Derived.Lib.Builder
import Derived.OwnWalk
import Derived.Below
import Derived.Shelf.Abstract
import Derived.WalkKit
import Derived.Handy
open Go.IntKind renaming i64 → HA, u8 → HV
open Option renaming map → HB, bind_some → HG
open Go.Lib renaming cell_of_heap → HC, frozen_of_heap → HI
open List renaming getElem?_eq_some_iff → HD, length_map → HE, getElem_mem → HH, map_take → HJ, getElem?_append_right → HK, getElem?_set_ne → HL, take_succ_eq_append_getElem → HM, getElem?_eq_getElem → HN, length_take → HQ, getElem?_cons_succ → HR, drop_eq_getElem_cons → HX, getElem?_cons_zero → HY, length_eq_one_iff → HZ, cons_append → Ib, set_append_right → Ic, eq_nil_of_length_eq_zero → Ig, set_cons_zero → Ij, getD_eq_getElem?_getD → Im, nil_append → Iw, replicate → Iz, drop_zero → IB, getElem?_toArray → IC, range → ID, drop_succ_cons → IE, getD_cons_zero → IF, set_cons_succ → IH, drop_length → IL, length_cons → IM, map_append → IP, length_nil → IQ, take_zero → IW
open Nat renaming le_of_lt → HO, le_refl → Ii, lt_of_lt_of_le → Il, zero_add → Ip, sub_self → IG, min_eq_left → IV
open Bool renaming false_eq_true → HS, and_eq_true → HU, not_true → Ia, not_eq_true' → IJ, not_false → IX
open Option.some renaming injEq → HT, inj → Ix
open Array renaming getElem?_eq_some_iff → HW
open Int renaming not_lt → Ie, not_le → Io, reduceLT → It, reduceLE → Iu, reduceEq → Iv, toNat_natCast → II
open Go.Proofs renaming enters_of → Ih
open Go.Value renaming int → Ik, ownBlock → IY
open Go.World renaming setCell → In
open Classical renaming choose → Iq, choose_spec → IA
open Go.Op renaming bytesLess → Ir
open UInt8 renaming ofNat → Iy
open Go.Value.slice renaming injEq → IK
open Go.Oper renaming upon_enter → IU
set_option maxRecDepth 100000
set_option linter.unusedSimpArgs false
set_option linter.unusedVariables false
noncomputable section
namespace Go.V
section
variable {k:IntKind} {a b:Int} {bl:Bool} {eq:List Nat}
@[simp] theorem Bn:bin .add bl eq (.v (.int k a)) (.v (.int k b))=some (.v (.int k (k.wrap (a+b)))):=by simp [bin,eH]
@[simp] theorem Bt:bin .sub bl eq (.v (.int k a)) (.v (.int k b))=some (.v (.int k (k.wrap (a - b)))):=by simp [bin,eH]
@[simp] theorem Be:bin .mul bl eq (.v (.int k a)) (.v (.int k b))=some (.v (.int k (k.wrap (a*b)))):=by simp [bin,eH]
@[simp] theorem Hm:bin .quo bl eq (.v (.int k a)) (.v (.int k b))=if b=0 then none else some (.v (.int k (k.wrap (a.tdiv b)))):=by simp [bin,eH]
@[simp] theorem Hg:bin .rem bl eq (.v (.int k a)) (.v (.int k b))=if b=0 then none else some (.v (.int k (a.tmod b))):=by simp [bin,eH]
@[simp] theorem BA:bin .lss bl eq (.v (.int k a)) (.v (.int k b))=some (B (decide (a<b))):=by simp [bin,eH]
@[simp] theorem Bu:bin .leq bl eq (.v (.int k a)) (.v (.int k b))=some (B (decide (a≤b))):=by simp [bin,eH]
@[simp] theorem Ba:bin .gtr bl eq (.v (.int k a)) (.v (.int k b))=some (B (decide (b<a))):=by simp [bin,eH]
@[simp] theorem BC:bin .geq bl eq (.v (.int k a)) (.v (.int k b))=some (B (decide (b≤a))):=by simp [bin,eH]
@[simp] theorem Bo:bin .eql bl eq (.v (.int k a)) (.v (.int k b))=some (B (decide (a=b))):=by
 have:(a==b)=decide (a=b):=rfl;simp [bin,eH,this]
@[simp] theorem oF:bin .neq bl eq (.v (.int k a)) (.v (.int k b))=some (B (!decide (a=b))):=by
 have:(a != b) = !decide (a=b):=rfl;simp [bin,eH,this]
@[simp] theorem GM {a b:Bool}:bin .eql true eq (B a) (B b)=some (B (a==b)):=by simp [bin]
@[simp] theorem Ha {a b:Bool}:bin .neq true eq (B a) (B b)=some (B !(a==b)):=by simp [bin]
@[simp] theorem ED {a b:ByteArray}:bin .add bl eq (T a) (T b)=if a.size+b.size≤1152921504606846976 then some (T (a++b)) else none:=by simp [bin,nQ]
@[simp] theorem Er {a b:ByteArray}:bin .eql bl eq (T a) (T b)=some (B (decide (a=b))):=by
 have:(a.toList==b.toList)=decide (a=b):=by
  rw [Bool.eq_iff_iff,beq_iff_eq,decide_eq_true_eq];constructor
  ·intro h
   have h1:∀s:ByteArray,s.toList=s.data.toList:=fun s=>by simp [ByteArray.toList_eq]
   rw [h1,h1] at h;cases a;cases b;simp at h;simp [h]
  ·rintro rfl;rfl
 simp [bin,nQ,this]
@[simp] theorem He {a b:ByteArray}:bin .neq bl eq (T a) (T b)=some (B (!decide (a=b))):=by
 have h:=Er (a:=a) (b:=b) (bl:=bl) (eq:=eq);simp only [bin,nQ,HT,D.v.injEq,Value.bool.injEq] at h ⊢;rw [h]
@[simp] theorem Am {b:Bool}:un .not (B b)=some (B !b):=rfl
@[simp] theorem Hr:un .neg (.v (.int k a))=some (.v (.int k (k.wrap (-a)))):=by simp [un]
theorem ao (h1 : -9223372036854775808≤a) (h2:a<9223372036854775808):HA.wrap a=a:=by
 simp [IntKind.wrap,IntKind.bits,IntKind.signed];split<;>omega
end
@[simp] theorem wm {c:Bool} {t e:Option Out}:ifD (B c) t e=if c=true then t else e:=by cases c<;>rfl
@[simp] theorem FY {c:Bool} {t e:Option Out}:ifN c t e=if c=true then t else e:=by cases c<;>rfl
@[simp] theorem DX {v:D} {c:Bool} {r:Option D}:al v (B c) true r=if c=true then r else some v:=by cases c<;>rfl
@[simp] theorem CW {v:D} {c:Bool} {r:Option D}:al v (B c) false r=if c=true then some v else r:=by cases c<;>rfl
@[simp] theorem Ev {v:D} {p:Bool} {l:List D} {r:Option D}:al v (.tup l) p r=some v:=rfl
@[simp] theorem BH {p:Bool} {l:List D} {r:Option Out} {alt:List D} {k:List D→Option Out}:eW (.tup l) p r alt k=k alt:=rfl
def Gt (r:Option Out) (k:List D→Option Out):Option Out :=
 match r with
 | some (.nrm l)=>k l
 | _=>none
@[simp] theorem ww {l:List D} {k:List D→Option Out}:Gt (some (.nrm l)) k=k l:=rfl
@[simp] theorem BI {c:Bool} {r:Option Out} {alt:List D} {k:List D→Option Out}:eW (B c) true r alt k=if c=true then Gt r k else k alt:=by cases c<;>rfl
@[simp] theorem Bw {c:Bool} {r:Option Out} {alt:List D} {k:List D→Option Out}:eW (B c) false r alt k=if c=true then k alt else Gt r k:=by cases c<;>rfl
@[simp] theorem Bl {c:Bool} {a b:D}:bg (B c) a b=some (if c=true then a else b):=by cases c<;>rfl
@[simp] theorem mw {rs us:List D} {k:List D→List D→Option Out}:aO (some (.ret rs us)) k=k rs us:=rfl
@[simp] theorem zG {i:Nat} {s:List D} {x:Nat→List D→Option Out} {r:List D→List D→Option Out}:de (.ext i s) x r=x i s:=rfl
@[simp] theorem GQ {a b:List D} {x:Nat→List D→Option Out} {r:List D→List D→Option Out}:de (.ret a b) x r=r a b:=rfl
@[simp] theorem Hi {v:Value} {x:D}:ae (.v v) x=some x:=rfl
@[simp] theorem vX {z:Nat} {l:List D} {x:D}:ae (.arr z l) x=some x:=rfl
@[simp] theorem wI {l:List D} {x:D}:ae (.agg l) x=some x:=rfl
@[simp] theorem wP {i f:Nat} {x:D}:ae (.ref i f) x=some x:=rfl
@[simp] theorem GI {l:List D} {x:D}:ae (.tup l) x=some x:=rfl
@[simp] theorem cu {z:Nat} {l:List D}:lenD false (.arr z l)=some (I l.length):=rfl
@[simp] theorem zB {s:ByteArray}:lenD true (T s)=some (I s.size):=rfl
@[simp] theorem rS {a:D} {l:List D}:sl (a::l) 0=a:=rfl
@[simp] theorem BF {a:D} {l:List D} {n:Nat}:sl (a::l) (n+1)=sl l n:=rfl
@[simp] theorem GO {ag:Bool} {n off:Nat} {l:List D}:kK ag n off (.agg l)=an ag n (l.drop off):=rfl
@[simp] theorem BG {ag:Bool} {n:Nat} {l:List D}:ldD ag n (.ptr l)=an ag n l:=rfl
@[simp] theorem zC {off:Nat} {l:List D}:jE off (.ptr l)=some (.ptr (l.drop off)):=rfl
@[simp] theorem Hk {n:Nat} {l:List D}:an true n l=if n≤l.length then some (.agg (l.take n)) else none:=rfl
@[simp] theorem Bi {n:Nat} {a:D} {l:List D}:an false n (a::l)=some a:=rfl
@[simp] theorem Br {l:List D} {i f:Nat}:atD (.agg l) (.ref i f)=some (l.drop f):=rfl
@[simp] theorem Hj {z:Nat} {l:List D} {i f:Nat}:atD (.arr z l) (.ref i f)=(l[i]?).map fun d=>d.cells.drop f:=rfl
@[simp] theorem GC {off i f:Nat}:gI off (.ref i f)=some (.ref i (f+off)):=rfl
@[simp] theorem wH {z:Nat} {l:List D} {k:IntKind} {i:Nat}:bj z (.arr z l) (.v (.int k (i:Int)))=(l[i]?).map D.cells:=by simp [bj]
theorem Cf {z:Nat} {l:List D} {k:IntKind} {n:Int} (h:0≤n):bj z (.arr z l) (.v (.int k n))=(l[n.toNat]?).map D.cells:=by simp [bj,h]
@[simp] theorem GV {z:Nat} {l:List D} {k:IntKind} {i:Nat}:kt z (.arr z l) (.v (.int k (i:Int)))=if i<l.length then some (.ref i 0) else none:=by simp [kt]
@[simp] theorem yr {l:List D}:(D.agg l).cells=l:=rfl
@[simp] theorem GG {v:Value}:(D.v v).cells=[.v v]:=rfl
@[simp] theorem FW {z:Nat} {l:List D}:(D.arr z l).cells=[.arr z l]:=rfl
@[simp] theorem CX {v:Value}:bB (.v v)=some (.v v):=rfl
@[simp] theorem GN {l:List D}:bB (.agg l)=if l.all xP=true then some (.agg l) else none:=by
 have:(D.agg l).isV=l.all xP:=by
  simp only [D.isV];congr 1
 simp [bB,this]
@[simp] theorem Hu {v:Value}:xP (.v v)=true:=rfl
@[simp] theorem GX {z:Nat} {l:List D}:xP (.arr z l)=false:=rfl
@[simp] theorem GJ {v:Value}:(D.v v).single=true:=rfl
@[simp] theorem Gp {z:Nat} {l:List D}:(D.arr z l).single=true:=rfl
@[simp] theorem Cq {l:List D}:(D.agg l).width=l.length:=rfl
@[simp] theorem Hf {v:Value}:(D.v v).width=1:=rfl
@[simp] theorem GF {z:Nat} {l:List D}:(D.arr z l).width=1:=rfl
@[simp] theorem Hl {n:Nat} {x:D}:fF n x=if x.cells.length=n∧x.cells.all D.single=true then some (.agg x.cells) else none:=rfl
@[simp] theorem Hh {n i f:Nat} {l:List D} {x:D}:stD n (.agg l) (.ref i f) x=if x.cells.length=n∧f+n≤l.length∧x.cells.all D.single=true then some (.agg (ci l f x.cells)) else none:=rfl
@[simp] theorem zT {l:List D} {f:Nat} {vs:List D}:ci l f vs=l.take f++vs++l.drop (f+vs.length):=rfl
@[simp] theorem GH {l:List D} {i:Nat}:jj (.tup l) i=match l[i]? with
  | some .bad=>none
  | some (.tup _)=>none
  | r=>r:=rfl
@[simp] theorem Gw {l:List D} {i:Nat}:qu (.tup l) i = .tup (l.set i .bad):=rfl
@[simp] theorem Bv {x:D}:AJ (.ref 0 0) x=some x:=rfl
@[simp] theorem fu {z eb:Nat} {l m:List D}:je z eb (.arr z l) (.arr z m)=if (l.length+m.length)*eb≤140737488355328∧l.length+m.length≤1152921504606846976 then some (.arr z (l++m)) else none:=by simp [je]
@[simp] theorem Gv {z:Nat} {l:List D} {k:IntKind} {i:Nat}:bj z (.arr z l) (.v (.int k ((i:Int)+1)))=(l[i+1]?).map D.cells:=wH (i:=i+1)
@[simp] theorem GB {z:Nat} {l:List D} {k:IntKind}:bj z (.arr z l) (.v (.int k 0))=(l[0]?).map D.cells:=wH (i:=0)
@[simp] theorem yZ {z eb:Nat} {x:D} {k k':IntKind} {n m:Nat}:BV z eb x (.v (.int k (n:Int))) (.v (.int k' (m:Int)))=if n≤m∧m*eb≤140737488355328∧m≤140737488355328 then some (.arr z (Iz n x)) else none:=by
 have h:((n:Int)≤m∧(m:Int)*(eb:Int)≤140737488355328∧(m:Int)≤140737488355328)↔(n≤m∧m*eb≤140737488355328∧m≤140737488355328):=by
  rw [←Int.natCast_mul];omega
 simp only [BV,Int.natCast_nonneg,true_and,h,II]
theorem Fo {n z i:Nat} {L c v:List D} (h:L[i]?=some (.agg c)) (hc:c.length=n) (hv:v.length=n) (hs:v.all D.single=true):stD n (.arr z L) (.ref i 0) (.agg v)=some (.arr z (L.set i (.agg v))):=by
 have e:(D.agg c).ofCells (ci c 0 v) = .agg v:=by
  simp only [D.ofCells,ci,IW,Iw,Ip,hv,←hc,IL,List.append_nil]
 have h2:(D.agg v).cells=v:=rfl;simp only [stD,h,h2,e,Cq,hc,hv,hs,Ip,Ii,and_self,if_true,yr]
theorem zw {z i:Nat} {L:List D} {v w:Value} (h:L[i]?=some (.v w)):stD 1 (.arr z L) (.ref i 0) (.v v)=some (.arr z (L.set i (.v v))):=by
 simp [stD,h,D.ofCells]
def jl {β:Type} (f:β→D) (z:D) (l:List β) (i:Nat):List D:=(l.take i).map f++Iz (l.length - i) z
section
variable {β:Type} {f:β→D} {z:D} {l:List β} {i:Nat}
theorem sw:Iz l.length z=jl f z l 0:=by simp [jl]
theorem ue:jl f z l l.length=l.map f:=by simp [jl]
@[simp] theorem FK (h:i≤l.length):(jl f z l i).length=l.length:=by simp [jl];omega
theorem wC (h:i<l.length):(jl f z l i)[i]?=some z:=by
 rw [jl,HK (by simp;omega)];simp [List.getElem?_replicate];omega
theorem wG {x:β} (h:l[i]?=some x):(jl f z l i).set i (f x)=jl f z l (i+1):=by
 have hi:i<l.length:=(HD.1 h).1;have hx:l[i]=x:=(HD.1 h).2;obtain⟨m,hm⟩:∃m,l.length - i=m+1:=⟨l.length - i - 1,by omega⟩
 rw [jl,jl,hm,show l.length - (i+1)=m from by omega,List.replicate_succ,Ic _ _ (by simp;omega)];have:i - (List.map f (l.take i)).length=0:=by simp;omega
 rw [this,Ij,HM hi,IP,hx];simp
end
theorem lY {z i f:Nat} {L c:List D} {v:Value} (h:L[i]?=some (.agg c)) (hf:f<c.length):stD 1 (.arr z L) (.ref i f) (.v v)=some (.arr z (L.set i (.agg (ci c f [.v v])))):=by
 have h2:(D.v v).cells=[.v v]:=rfl;have h3:f+1≤c.length:=hf;simp [stD,h,h2,h3,D.ofCells]
def iA {β:Type} (g:Nat→D) (f:β→D) (l:List β) (i:Nat):List D:=(ID i).map g++(l.drop i).map f
section
variable {β:Type} {g:Nat→D} {f:β→D} {l:List β} {i:Nat}
theorem su:l.map f=iA g f l 0:=by simp [iA]
theorem tX:iA g f l l.length=(ID l.length).map g:=by simp [iA]
@[simp] theorem ou (h:i≤l.length):(iA g f l i).length=l.length:=by simp [iA];omega
theorem wE (h:i<l.length):(iA g f l i)[i]?=some (f l[i]):=by
 rw [iA,HK (by simp)];simp [h]
theorem wl (h:i<l.length):(iA g f l i).set i (g i)=iA g f l (i+1):=by
 rw [iA,iA,HX h,Ic _ _ (by simp),List.map_cons,HE,List.length_range,IG,Ij,List.range_succ,IP];simp
end
theorem ee {z:Nat}:dA z []=some (.arr z []):=rfl
@[simp] theorem pc {β:Type} {z:Nat} {l:List β} {f:β→D} (h:∀x,(f x).isV=true):kz (.arr z (l.map f))=some (.arr z (l.map f)):=by
 have:(l.map f).all D.isV=true:=by simp [h]
 simp only [kz,this,if_true]
theorem AM {z i j:Nat} {l:List D} {k k':IntKind} (h1:i≤j) (h2:j≤l.length):fa false z (.arr z l) (.v (.int k (i:Int))) (.v (.int k' (j:Int)))=some (.arr z ((l.take j).drop i)):=by
 simp only [fa,II,true_and];rw [if_pos];omega
@[simp] theorem Hz {p:Prop} [Decidable p] {a b:Bool}:(if p then D.v (.bool a) else D.v (.bool b))=D.v (.bool (if p then a else b)):=by split<;>rfl
theorem qy {body:List D→Option Out}:∀(n:Nat) (s:List D) (o:Out),iter body n s=some o→∀m,n≤m→iter body m s=some o
 | 0,_,_,h,_,_=>by simp [iter] at h
 | n+1,s,o,h,m,hm=>by
  obtain⟨m,rfl⟩:∃q,m=q+1:=⟨m - 1,by omega⟩
  simp only [iter] at h ⊢;split at h
  ·rename_i s' hb
   exact qy n s' o h m (by omega)
  ·exact h
theorem EG {body:List D→Option Out} {s:List D} {o:Out} (n:Nat) (h:iter body n s=some o):bh body s=some o:=by
 have hex:∃n,(iter body n s).isSome=true:=⟨n,by rw [h];rfl⟩
 unfold bh;rw [dif_pos hex];obtain⟨o',ho⟩:=Option.isSome_iff_exists.1 (IA hex);rw [ho];have h1:=qy _ _ _ ho (max n (Iq hex)) (by omega);have h2:=qy _ _ _ h (max n (Iq hex)) (by omega);rw [h1] at h2;exact h2
inductive Runs (body:List D→Option Out):List D→Out→Prop where
 | ext {s:List D} {i:Nat} {δ:List D}:body s=some (.ext i δ)→Runs body s (.ext i δ)
 | ret {s:List D} {rs us:List D}:body s=some (.ret rs us)→Runs body s (.ret rs us)
 | nrm {s s':List D} {o:Out}:body s=some (.nrm s')→Runs body s' o→Runs body s o
theorem Runs.iter {body:List D→Option Out} {s:List D} {o:Out} (h:Runs body s o):∃n,V.iter body n s=some o:=by
 induction h with
 | ext h=>exact⟨1,by simp [V.iter,h]⟩
 | ret h=>exact⟨1,by simp [V.iter,h]⟩
 | nrm h _ ih =>
  obtain⟨n,hn⟩:=ih;exact⟨n+1,by simp [V.iter,h,hn]⟩
theorem Runs.loop {body:List D→Option Out} {s:List D} {o:Out} (h:Runs body s o):bh body s=some o:=by
 obtain⟨n,hn⟩:=h.iter;exact EG n hn
def goL {α β:Type} (g:Nat→β→α→α ⊕ Out) (fin:α→Out):Nat→List β→α→Out
 | _,[],a=>fin a
 | i,x::l,a=>match g i x a with
  | .inl a'=>goL g fin (i+1) l a'
  | .inr o=>o
def Out.ends:Out→Bool
 | .nrm _=>false
 | _=>true
theorem Runs.one {body:List D→Option Out} {s:List D} {o:Out} (h:body s=some o) (ho:o.ends=true):Runs body s o:=by
 cases o with
 | nrm _=>simp [Out.ends] at ho
 | ext _ _=>exact .ext h
 | ret _ _=>exact .ret h
theorem Runs.list {α β:Type} {body:List D→Option Out} (l:List β) (st:Nat→α→List D) (Inv:Nat→α→Prop) (g:Nat→β→α→α ⊕ Out) (fin:α→Out)
  (hs:∀i x a,l[i]?=some x→Inv i a→match g i x a with
   | .inl a'=>body (st i a)=some (.nrm (st (i+1) a'))∧Inv (i+1) a'
   | .inr o=>body (st i a)=some o∧o.ends=true)
  (he:∀a,Inv l.length a→body (st l.length a)=some (fin a)∧(fin a).ends=true) (a:α) (h0:Inv 0 a):Runs body (st 0 a) (goL g fin 0 l a):=by
 have key:∀(n i:Nat) (a:α),i+n=l.length→Inv i a→Runs body (st i a) (goL g fin i (l.drop i) a):=by
  intro n;induction n with
  | zero =>
   intro i a hi hI;have:i=l.length:=by omega
   subst this;rw [IL];exact Runs.one (he a hI).1 (he a hI).2
  | succ n ih =>
   intro i a hi hI;have hlt:i<l.length:=by omega
   rw [HX hlt];have h:=hs i l[i] a (HN hlt) hI;simp only [goL];split at h
   ·exact .nrm h.1 (ih (i+1) _ (by omega) h.2)
   ·exact Runs.one h.1 h.2
 simpa using key l.length 0 a (by omega) h0
theorem mE {α β:Type} {body:List D→Option Out} (l:List β) (st:Nat→α→List D) (Inv:Nat→α→Prop) (g:Nat→β→α→α ⊕ Out) (fin:α→Out)
  (hs:∀i x a,l[i]?=some x→Inv i a→match g i x a with
   | .inl a'=>body (st i a)=some (.nrm (st (i+1) a'))∧Inv (i+1) a'
   | .inr o=>body (st i a)=some o∧o.ends=true)
  (he:∀a,Inv l.length a→body (st l.length a)=some (fin a)∧(fin a).ends=true) (a:α) (h0:Inv 0 a) {s0:List D} (h:s0=st 0 a):bh body s0=some (goL g fin 0 l a):=by
 rw [h];exact(Runs.list l st Inv g fin hs he a h0).loop
theorem cH {body:List D→Option Out} (n:Nat) (st:Nat→List D) (o:Out) (hs:∀i,i<n→body (st i)=some (.nrm (st (i+1)))) (he:body (st n)=some o) (ho:o.ends=true) {s0:List D} (h:s0=st 0):bh body s0=some o:=by
 rw [h];have key:∀(m i:Nat),i+m=n→Runs body (st i) o:=by
  intro m;induction m with
  | zero =>
   intro i hi;have:i=n:=by omega
   subst this;exact Runs.one he ho
  | succ m ih=>exact fun i hi=>.nrm (hs i (by omega)) (ih (i+1) (by omega))
 exact(key n 0 (by omega)).loop
def dr {β:Type} (p:Nat→β→Bool):Nat→List β→Bool
 | _,[]=>true
 | i,x::l=>p i x&&dr p (i+1) l
theorem gd {β:Type} {body:List D→Option Out} (l:List β) (st:Nat→List D) (p:Nat→β→Bool) (o1 o2:Out) (hs:∀(i:Nat) (hi:i<l.length),body (st i)=some (if p i l[i]=true then .nrm (st (i+1)) else o1)) (he:body (st l.length)=some o2)
  (h1:o1.ends=true) (h2:o2.ends=true) {s0:List D} (h:s0=st 0):bh body s0=some (if dr p 0 l=true then o2 else o1):=by
 have e:∀(m:List β) (i:Nat),goL (fun i x (_:Unit)=>if p i x=true then .inl () else .inr o1) (fun _=>o2) i m ()=if dr p i m=true then o2 else o1:=by
  intro m;induction m with
  | nil=>intro i;simp [goL,dr]
  | cons x m ih =>
   intro i;simp only [goL,dr];by_cases hp:p i x=true
   ·simp [hp,ih]
   ·simp [hp]
 rw [←e];refine mE l (fun i _=>st i) (fun _ _=>True) _ _ (fun i x a hx _=>?_) (fun _ _=>⟨he,h2⟩) () trivial h
 have hi:i<l.length:=(HD.1 hx).1;have hxe:l[i]=x:=(HD.1 hx).2;have:=hs i hi;rw [hxe] at this;by_cases hp:p i x=true
 ·simpa [hp] using this
 ·simpa [hp,h1] using this
def wJ {α β:Type} (f:Nat→α→β→α):Nat→List β→α→α
 | _,[],a=>a
 | i,x::l,a=>wJ f (i+1) l (f i a x)
theorem Av {α β:Type} {body:List D→Option Out} (l:List β) (st:Nat→α→List D) (Inv:Nat→α→Prop) (f:Nat→α→β→α) (fin:α→Out) (a:α) (hs:∀(i:Nat) (a:α) (hi:i<l.length),Inv i a→body (st i a)=some (.nrm (st (i+1) (f i a l[i])))∧Inv (i+1) (f i a l[i]))
  (he:∀a,Inv l.length a→body (st l.length a)=some (fin a)) (h1:∀a,(fin a).ends=true) (h0:Inv 0 a) {s0:List D} (h:s0=st 0 a):bh body s0=some (fin (wJ f 0 l a)):=by
 have e:∀(m:List β) (i:Nat) (a:α),goL (fun i x a=>.inl (f i a x)) fin i m a=fin (wJ f i m a):=by
  intro m;induction m with
  | nil=>intro i a;rfl
  | cons x m ih=>intro i a;simp only [goL,wJ];exact ih (i+1) (f i a x)
 rw [←e l 0 a];refine mE l st Inv (fun i x a=>.inl (f i a x)) _ (fun i x a hx hI=>?_) (fun a hI=>⟨he a hI,h1 a⟩) a h0 h
 have hi:i<l.length:=(HD.1 hx).1;have hxe:l[i]=x:=(HD.1 hx).2;rw [←hxe];exact hs i a hi hI
theorem aT {body:List D→Option Out} {s0:List D} {K:Out→Option Out} {r:Option Out} (o:Out) (h:bh body s0=some o) (hk:K o=r):(bh body s0).bind K=r:=by
 rw [h];exact hk
theorem EX {α:Type} {body:List D→Option Out} (st:α→List D) (Inv:α→Prop) (μ:α→Nat) (Q:α→Out→Prop)
  (hs:∀a,Inv a→(∃a',body (st a)=some (.nrm (st a'))∧Inv a'∧μ a'<μ a∧∀o,Q a' o→Q a o)∨∃o,body (st a)=some o∧o.ends=true∧Q a o) (a:α) (h:Inv a) {s0:List D} (h0:s0=st a):∃o,bh body s0=some o∧Q a o:=by
 rw [h0];have key:∀(n:Nat) (a:α),μ a<n→Inv a→∃o,Runs body (st a) o∧Q a o:=by
  intro n;induction n with
  | zero=>exact fun a h=>by omega
  | succ n ih =>
   intro a hn hI;rcases hs a hI with ⟨a',h1,h2,h3,h4⟩ | ⟨o,h1,h2,h3⟩
   ·obtain⟨o,h5,h6⟩:=ih a' (by omega) h2
    exact⟨o,.nrm h1 h5,h4 o h6⟩
   ·exact⟨o,Runs.one h1 h2,h3⟩
 obtain⟨o,h1,h2⟩:=key (μ a+1) a (by omega) h;exact⟨o,h1.loop,h2⟩
theorem kB {α:Type} {body:List D→Option Out} {K:Out→Option Out} (R:Option Out→Prop) (st:α→List D) (Inv:α→Prop) (μ:α→Nat) (Q:Out→Prop)
  (hs:∀a,Inv a→(∃a',body (st a)=some (.nrm (st a'))∧Inv a'∧μ a'<μ a)∨∃o,body (st a)=some o∧o.ends=true∧Q o) (a:α) (h:Inv a) {s0:List D} (h0:s0=st a) (hk:∀o,Q o→R (K o)):R ((bh body s0).bind K):=by
 obtain⟨o,h1,h2⟩:=EX st Inv μ (fun _ o=>Q o) (fun a ha=>by
  rcases hs a ha with ⟨a',g1,g2,g3⟩ | h
  ·exact .inl ⟨a',g1,g2,g3,fun _ h=>h⟩
  ·exact .inr h) a h h0
 rw [h1];exact hk o h2
theorem FQ:(type_of% @rS)∧(type_of% @BF)∧(type_of% @wI)∧(type_of% @wP)∧(type_of% @vX)∧(type_of% @Bv)∧(∀{α β:Type} (a:α) (f:α→Option β),(some a).bind f=f a)∧(∀{α β:Type} (a:α) (f:α→β),(some a).map f=some (f a))∧(type_of% @mw)∧(type_of% @DX)∧(type_of% @CW)∧(type_of% @Ev)∧(type_of% @BI)∧(type_of% @Bw)∧(type_of% @BH)∧(type_of% @ww)∧(type_of% @Bl)∧(type_of% @wm)∧(type_of% @FY)∧(∀{α:Type} {_h:Decidable True} (t e:α),(if True then t else e)=t)∧(∀{α:Type} {_h:Decidable False} (t e:α),(if False then t else e)=e)∧(type_of% @HS)∧(type_of% @Am)∧(type_of% @Ia)∧(type_of% @IX)∧(type_of% @decide_true)∧(type_of% @decide_false)∧(type_of% @and_self)∧(type_of% @zG)∧(type_of% @Nat.beq_refl)∧(type_of% @BA)∧(type_of% @Ba)∧(type_of% @Bu)∧(type_of% @BC)∧(type_of% @Bo)∧(type_of% @oF)∧(type_of% @Bn)∧(type_of% @Bt)∧(type_of% @Be)∧(type_of% @cu)∧(type_of% @zB)∧(∀{α β:Type} {l:List α} (f:α→β),(l.map f).length=l.length)∧(type_of% @BG)∧(type_of% @Bi)∧(type_of% @CX)∧(type_of% @zC)∧(∀{α:Type} {l:List α},l.drop 0=l)∧(∀{α:Type} {a:α} {l:List α} {i:Nat},(a::l).drop (i+1)=l.drop i)∧(type_of% @Br)∧(type_of% @ee) :=
 ⟨@rS,⟨@BF,⟨@wI,⟨@wP,⟨@vX,⟨@Bv,⟨@HG,⟨@Option.map_some,⟨@mw,⟨@DX,⟨@CW,⟨@Ev,⟨@BI,⟨@Bw,⟨@BH,⟨@ww,⟨@Bl,⟨@wm,⟨@FY,⟨@if_true,⟨@if_false,⟨@HS,⟨@Am,⟨@Ia,⟨@IX,⟨@decide_true,⟨@decide_false,⟨@and_self,⟨@zG,⟨@Nat.beq_refl,⟨@BA,⟨@Ba,⟨@Bu,⟨@BC,⟨@Bo,⟨@oF,⟨@Bn,⟨@Bt,⟨@Be,⟨@cu,⟨@zB,⟨@HE,⟨@BG,⟨@Bi,⟨@CX,⟨@zC,⟨@IB,⟨@IE,⟨@Br,@ee⟩⟩⟩⟩⟩⟩⟩⟩⟩⟩⟩⟩⟩⟩⟩⟩⟩⟩⟩⟩⟩⟩⟩⟩⟩⟩⟩⟩⟩⟩⟩⟩⟩⟩⟩⟩⟩⟩⟩⟩⟩⟩⟩⟩⟩⟩⟩⟩⟩
end Go.V

namespace Go.V
open Go.RowKit
section
variable {P:Program} {c:Cx} {B:Nat} {X:Nat→Prop} {w0:World} {F0 F:Nat→Prop} {O:Nat→Option (Nat × Nat)} {a:Act} {w:World} {δ:List D}
end
end Go.V

namespace Go.Proofs.Ytkcojipciiakdaa
open Go Go.V
abbrev gl0:List (Nat × (Obj→Prop)):=[]
end Go.Proofs.Ytkcojipciiakdaa

namespace Go.Proofs.Ytkcojipciiakdaa
open Go.V
set_option maxRecDepth 100000
theorem vv:Try.prog.follows .mixedOrders=true:=by kernel_rfl
theorem aS {c:Cx} {S:FS} {f:FuncId} {fn:Func} (hS:∀f S,dl c.S f=some S→aH c.G Try.prog f S) (hf:Try.prog.funcs[f]?=some fn) (hres:c.res=fn.results.toList) (hF:S.f=bQ c fn)
  (hb:(okT Try.prog c.T&&(!(fn.name== "runtime.NumGoroutine")&&FG c fn S.pm S.rm))=true):aH c.G Try.prog f S:=by
 obtain⟨pm,rm,g⟩:=S;cases hF;simp only [HU,IJ] at hb;exact EH hb.1 hS vv hf hb.2.1 hb.2.2 hres
@[reducible] def ty3:TI:={n:=1,zero:=[.v (.int .i64 0)],ik:=some .i64}
@[reducible] def ty4:TI:={n:=1,zero:=[.v (.bool false)],bl:=true}
@[reducible] def ty5:TI:={n:=1,zero:=[.v (.int .u8 0)],ik:=some .u8}
@[reducible] def ty9:TI:={n:=1,zero:=[.v (.string ⟨#[]⟩)],str:=true}
@[reducible] def Gi:TI:={n:=1,zero:=[.arr 4 []],elem:=109,ez:=4,eb:=40}
@[reducible] def GP:TI:={n:=1,zero:=[.arr 4 []],elem:=111,ez:=4,eb:=48}
@[reducible] def Hw:TI:={agg:=true,n:=4,zero:=[.arr 4 [],.arr 4 [],.v (.int .i64 0),.v (.int .i64 0)],fs:=[(0,22),(1,23),(2,3),(3,3)]}
@[reducible] def FT:TI:={n:=1,zero:=[.arr 1 []],elem:=3,ez:=1,eb:=8}
@[reducible] def jO:TI:={n:=1,zero:=[.arr 4 []],elem:=112,ez:=4,eb:=40}
@[reducible] def yo:TI:={n:=1,zero:=[.arr 4 []],elem:=75,ez:=4,eb:=48}
@[reducible] def BT:TI:={agg:=true,n:=4,zero:=[.arr 4 [],.arr 4 [],.v (.int .i64 0),.v (.int .i64 0)],fs:=[(0,30),(1,31),(2,3),(3,3)]}
@[reducible] def Hp:TI:={n:=1,zero:=[.arr 1 []],elem:=5,ez:=1,eb:=1}
@[reducible] def iU:TI:={n:=1,zero:=[.arr 1 []],elem:=9,ez:=1,eb:=16}
@[reducible] def tc:TI:={agg:=true,n:=4,zero:=[.v (.int .i64 0),.arr 1 [],.v (.bool false),.v (.int .i64 0)],fs:=[(0,3),(1,73),(2,4),(3,3)]}
@[reducible] def yL:TI:={agg:=true,n:=4,zero:=[.v (.string ⟨#[]⟩),.v (.int .i64 0),.v (.int .i64 0),.v (.int .i64 0)],fs:=[(0,9),(1,3),(2,3),(3,3)],eq:=[3,1,1,1]}
@[reducible] def DZ:TI:={agg:=true,n:=4,zero:=[.v (.int .i64 0),.arr 1 [],.v (.bool false),.v (.int .i64 0)],fs:=[(0,3),(1,73),(2,4),(3,3)]}
@[reducible] def fg:TI:={agg:=true,n:=4,zero:=[.v (.string ⟨#[]⟩),.v (.int .i64 0),.v (.int .i64 0),.v (.int .i64 0)],fs:=[(0,9),(1,3),(2,3),(3,3)],eq:=[3,1,1,1]}
@[reducible] def pe:Cx:={K:=[Y,Y,.box 4 0 false,.no,Y,Y,Yr 2,Y,Y,Y,Y,Y,Y],T:=[(3,ty3),(9,ty9),(109,yL)],S:=[],H:=[],res:=[.tmp 4],ios:=[],G:=gl0}
def iE:List D→Option Out:=bQ pe Try.f76
@[reducible] def ov:FS:={pm:=[Y,Y],rm:=[Y],f:=iE}
theorem xD:aH gl0 Try.prog 76 ov:=aS (c:=pe) aF Try.func76 rfl rfl (by kernel_rfl)
@[reducible] def nz:Cx:={K:=[Yc,Y,.no,.no,Y,Y,Y,Yc,Y,Y,Y,Y,Y,Yc,Y,Y,Y,Y,Yc,Y,Yc,Y,Y,Y,Y,Y,Y],T:=[(3,ty3),(9,ty9),(22,Gi),(109,yL)],S:=[(76,ov)],H:=[(0,([0,1,5],[1]))],res:=[.tmp 4],ios:=[],G:=gl0}
def gT:List D→Option Out:=bQ nz Try.f39
@[reducible] def mQ:FS:={pm:=[Yc,Y],rm:=[Y],f:=gT}
theorem vQ:aH gl0 Try.prog 39 mQ:=aS (c:=nz) (au xD aF) Try.func39 rfl rfl (by kernel_rfl)
@[reducible] def kw:Cx:={K:=[Yc,Y,.no,.no,Y,Y,Y,Yc,Y,Y,Y,Y,Y,Yc,Y,Y,Y,Y,Y,Yc,Y,Yc,Y,Y,Y,Y,Y,Y],T:=[(3,ty3),(9,ty9),(73,iU)],S:=[],H:=[(0,([0,1,5],[1]))],res:=[.tmp 4],ios:=[],G:=gl0}
def dB:List D→Option Out:=bQ kw Try.f109
@[reducible] def ki:FS:={pm:=[Yc,Y],rm:=[Y],f:=dB}
theorem qh:aH gl0 Try.prog 109 ki:=aS (c:=kw) aF Try.func109 rfl rfl (by kernel_rfl)
@[reducible] def lz:Cx:={K:=[Yc,Y,.box 4 2 false,.no,Y,Yr 2,Yc,Y,Y,Y,Y,Y],T:=[(3,ty3),(4,ty4),(9,ty9),(73,iU),(111,DZ)],S:=[(109,ki)],H:=[],res:=[.tmp 4],ios:=[],G:=gl0}
def eE:List D→Option Out:=bQ lz Try.f77
@[reducible] def lK:FS:={pm:=[Yc,Y],rm:=[Y],f:=eE}
theorem ug:aH gl0 Try.prog 77 lK:=aS (c:=lz) (au qh aF) Try.func77 rfl rfl (by kernel_rfl)
@[reducible] def kY:Cx:={K:=[Yc,Y,.no,.no,Y,Y,Y,Yc,Y,Y,Y,Y,Y,Yc,Y,Y,Y,Y,Yc,Y,Yc,Yc,Y,Y,Y,Y,Y],T:=[(3,ty3),(4,ty4),(23,GP),(73,iU),(111,DZ)],S:=[(77,lK)],H:=[(0,([0,1,5],[1]))],res:=[.tmp 4],ios:=[],G:=gl0}
def dU:List D→Option Out:=bQ kY Try.f40
@[reducible] def lk:FS:={pm:=[Yc,Y],rm:=[Y],f:=dU}
theorem rG:aH gl0 Try.prog 40 lk:=aS (c:=kY) (au ug aF) Try.func40 rfl rfl (by kernel_rfl)
@[reducible] def mT:Cx:={K:=[Yc,Y,.box 4 2 false,.no,Y,Yr 2,Yc,Y,Y,Y,Y,Yr 2,Yc,Y,Y,Y,Y,Y],T:=[(3,ty3),(22,Gi),(23,GP),(25,Hw),(109,yL),(111,DZ)],S:=[(39,mQ),(40,lk)],H:=[],res:=[.tmp 4],ios:=[],G:=gl0}
def fb:List D→Option Out:=bQ mT Try.f8
@[reducible] def uU:FS:={pm:=[Yc,Y],rm:=[Y],f:=fb}
theorem uz:aH gl0 Try.prog 8 uU:=aS (c:=mT) (au vQ (au rG aF)) Try.func8 rfl rfl (by kernel_rfl)
@[reducible] def oI:Cx:={K:=[Y,.box 4 0 false,.box 4 0 false,.box 4 0 false,Yr 1,Y,Yr 3,Yr 1,Y,Yr 3,Yr 1,Y,Yr 3,Yr 1,Y,Yr 3,Y],T:=[(3,ty3),(9,ty9),(109,yL),(112,fg)],S:=[],H:=[],res:=[.cell 2 112],ios:=[],G:=gl0}
def iM:List D→Option Out:=bQ oI Try.f81
@[reducible] def oQ:FS:={pm:=[Y],rm:=[Y],f:=iM}
theorem wY:aH gl0 Try.prog 81 oQ:=aS (c:=oI) aF Try.func81 rfl rfl (by kernel_rfl)
@[reducible] def mU:Cx:={K:=[Yc,.no,Yo 4 0,Yo 4 0,Y,Yc,Y,Yo 4 0,Y,Yc,Y,Y,Y,Y,.via 3,Y,Yc,Y,Yc,Y,Y,Yr 3,Yo 4 0],T:=[(3,ty3),(9,ty9),(22,Gi),(30,jO),(109,yL),(112,fg)],S:=[(81,oQ)],H:=[(0,([0,3,4],[3]))],res:=[.tmp 2],ios:=[],G:=gl0}
def jP:List D→Option Out:=bQ mU Try.f42
@[reducible] def vN:FS:={pm:=[Yc],rm:=[Yo 4 0],f:=jP}
theorem uP:aH gl0 Try.prog 42 vN:=aS (c:=mU) (au wY aF) Try.func42 rfl rfl (by kernel_rfl)
@[reducible] def kh:Cx:={K:=[Yc,.no,Yo 1 0,Yo 1 0,Y,Yc,Y,Yo 1 0,Y,Yc,Y,Y,Y,Y,.via 3,Y,Yc,Y,Yc,Y,Yr 3,Yo 1 0],T:=[(3,ty3),(9,ty9),(73,iU)],S:=[],H:=[(0,([0,3,4],[3]))],res:=[.tmp 2],ios:=[],G:=gl0}
def gG:List D→Option Out:=bQ kh Try.f111
@[reducible] def pU:FS:={pm:=[Yc],rm:=[Yo 1 0],f:=gG}
theorem qF:aH gl0 Try.prog 111 pU:=aS (c:=kh) aF Try.func111 rfl rfl (by kernel_rfl)
@[reducible] def pP:Cx:={K:=[Y,Y,.box 4 0 false,.box 4 0 false,Y,Yr 2,Y,Yr 3,Y,Y,Yr 2,Y,Yr 3,Y,Y,Yr 2,Y,Yr 3,Y,Y,Yr 2,Y,Yr 3,Y,Y],T:=[(3,ty3),(9,ty9),(112,fg)],S:=[],H:=[],res:=[.tmp 4],ios:=[],G:=gl0}
def iK:List D→Option Out:=bQ pP Try.f83
@[reducible] def oR:FS:={pm:=[Y,Y],rm:=[Y],f:=iK}
theorem xE:aH gl0 Try.prog 83 oR:=aS (c:=pP) aF Try.func83 rfl rfl (by kernel_rfl)
@[reducible] def nB:Cx:={K:=[Yc,Yc,.no,.no,Y,Y,Yc,Y,Yc,Y,Y,Y,Yc,Y,Y,Y,Y,Yc,Y,Yc,Y,Yc,Y,Yc,Y,Y,Y],T:=[(3,ty3),(9,ty9),(30,jO),(112,fg)],S:=[(83,oR)],H:=[(0,([0,1,5],[]))],res:=[.tmp 4],ios:=[],G:=gl0}
def gV:List D→Option Out:=bQ nB Try.f44
@[reducible] def mV:FS:={pm:=[Yc,Yc],rm:=[Y],f:=gV}
theorem ve:aH gl0 Try.prog 44 mV:=aS (c:=nB) (au xE aF) Try.func44 rfl rfl (by kernel_rfl)
@[reducible] def kc:Cx:={K:=[Yc,Yc,.no,.no,Y,Y,Yc,Y,Yc,Y,Y,Y,Yc,Y,Y,Y,Y,Yc,Y,Yc,Y,Yc,Y,Yc,Y,Y],T:=[(3,ty3),(9,ty9),(73,iU)],S:=[],H:=[(0,([0,1,5],[]))],res:=[.tmp 4],ios:=[],G:=gl0}
def eV:List D→Option Out:=bQ kc Try.f112
@[reducible] def kv:FS:={pm:=[Yc,Yc],rm:=[Y],f:=eV}
theorem qt:aH gl0 Try.prog 112 kv:=aS (c:=kc) aF Try.func112 rfl rfl (by kernel_rfl)
@[reducible] def lL:Cx:={K:=[Yc,Yc,.box 4 2 false,.box 4 2 false,Y,Yr 2,Y,Yr 3,Y,Y,Yr 2,Yc,Yr 3,Yc,Y,Y,Yr 2,Y,Yr 3,Y,Y,Yr 2,Y,Yr 3,Y,Y],T:=[(3,ty3),(4,ty4),(9,ty9),(73,iU),(75,tc)],S:=[(112,kv)],H:=[],res:=[.tmp 4],ios:=[],G:=gl0}
def fX:List D→Option Out:=bQ lL Try.f84
@[reducible] def mg:FS:={pm:=[Yc,Yc],rm:=[Y],f:=fX}
theorem sE:aH gl0 Try.prog 84 mg:=aS (c:=lL) (au qt aF) Try.func84 rfl rfl (by kernel_rfl)
@[reducible] def kX:Cx:={K:=[Yc,Yc,.no,.no,Y,Y,Yc,Y,Yc,Y,Y,Y,Yc,Y,Y,Y,Y,Yc,Y,Yc,Yc,Yc,Y,Yc,Yc,Y,Y],T:=[(3,ty3),(4,ty4),(31,yo),(73,iU),(75,tc)],S:=[(84,mg)],H:=[(0,([0,1,5],[]))],res:=[.tmp 4],ios:=[],G:=gl0}
def fr:List D→Option Out:=bQ kX Try.f45
@[reducible] def lj:FS:={pm:=[Yc,Yc],rm:=[Y],f:=fr}
theorem ri:aH gl0 Try.prog 45 lj:=aS (c:=kX) (au sE aF) Try.func45 rfl rfl (by kernel_rfl)
@[reducible] def nk:Cx:={K:=[Yc,Yc,.box 4 2 false,.box 4 2 false,Y,Yr 2,Yc,Yr 3,Yc,Y,Y,Yr 2,Yc,Yr 3,Yc,Y,Y,Yr 2,Y,Yr 3,Y,Y,Yr 2,Y,Yr 3,Y,Y],T:=[(3,ty3),(30,jO),(31,yo),(33,BT),(75,tc),(112,fg)],S:=[(44,mV),(45,lj)],H:=[],res:=[.tmp 4],ios:=[],G:=gl0}
def jG:List D→Option Out:=bQ nk Try.f13
@[reducible] def vG:FS:={pm:=[Yc,Yc],rm:=[Y],f:=jG}
theorem vr:aH gl0 Try.prog 13 vG:=aS (c:=nk) (au ve (au ri aF)) Try.func13 rfl rfl (by kernel_rfl)
@[reducible] def li:Cx:={K:=[Y,.no,Y,Y,Y,Y,Y,Y,Y,Y,Y,Y,Yb,Y,Y,Y,Y,Y,Y,Y],T:=[(3,ty3),(5,ty5),(9,ty9),(58,Hp)],S:=[],H:=[(0,([0,3],[3]))],res:=[.tmp 2],ios:=[],G:=gl0}
def cn:List D→Option Out:=bQ li Try.f58
@[reducible] def dX:FS:={pm:=[Y],rm:=[Y],f:=cn}
theorem fv:aH gl0 Try.prog 58 dX:=aS (c:=li) aF Try.func58 rfl rfl (by kernel_rfl)
@[reducible] def kW:Cx:={K:=[.own 4 0 true,Y,.no,.no,Y,Y,Y,.via 0,Y,Y,Y,Y,.via 0,Y,Y,Y,Yr 0,Yr 0,Y,Y,.via 0,Y,Y,Yr 0,Yr 0,Y,Y,.via 0,Y,Y,Yr 0,Yr 0,Y,Y,.via 0,Y,Y,Yr 0,Yr 0,Y,Y,Y],T:=[(3,ty3),(9,ty9),(30,jO),(112,fg)],S:=[(58,dX)],H:=[(0,([0,1,5],[0,1]))],res:=[.tmp 4],ios:=[0],G:=gl0}
def ip:List D→Option Out:=bQ kW Try.f46
@[reducible] def rC:FS:={pm:=[.own 4 0 true,Y],rm:=[Y],f:=ip}
theorem rb:aH gl0 Try.prog 46 rC:=aS (c:=kW) (au fv aF) Try.func46 rfl rfl (by kernel_rfl)
@[reducible] def iT:Cx:={K:=[.own 1 0 true,Y,.no,.no,Y,Y,Y,.via 0,Y,Y,Y,Y,.via 0,Y,Y,Y,Yr 0,Y,Y,Y],T:=[(3,ty3),(9,ty9),(73,iU)],S:=[(58,dX)],H:=[(0,([0,1,5],[0,1]))],res:=[.tmp 4],ios:=[0],G:=gl0}
def fH:List D→Option Out:=bQ iT Try.f85
@[reducible] def nH:FS:={pm:=[.own 1 0 true,Y],rm:=[Y],f:=fH}
theorem om:aH gl0 Try.prog 85 nH:=aS (c:=iT) (au fv aF) Try.func85 rfl rfl (by kernel_rfl)
@[reducible] def iY:Cx:={K:=[Yc,Y,.no,.no,Y,Y,Y,Yc,Y,Y,Y,Y,Yc,Y,Yc,Y,Y,Y,Y,Y,Y,Y],T:=[(3,ty3),(9,ty9),(73,iU)],S:=[(58,dX)],H:=[(0,([0,1,5],[1]))],res:=[.tmp 4],ios:=[],G:=gl0}
def dQ:List D→Option Out:=bQ iY Try.f89
@[reducible] def iX:FS:={pm:=[Yc,Y],rm:=[Y],f:=dQ}
theorem nU:aH gl0 Try.prog 89 iX:=aS (c:=iY) (au fv aF) Try.func89 rfl rfl (by kernel_rfl)
@[reducible] def lc:Cx:={K:=[Yc,Y,.no,.no,Y,Y,Y,Yc,Y,Y,Y,Y,Yc,Y,Yc,Yc,Y,Y,Y,Y,Y,Y,Yc,Y,Yc,Yc,Y,Y,Y,Y,Y,Yc,Y,Yc,Yc,Y,Y,Y,Y,Y,Yc,Y,Yc,Yc,Y,Y,Y,Y,Y,Y],T:=[(3,ty3),(9,ty9),(30,jO),(112,fg)],S:=[(58,dX)],H:=[(0,([0,1,5],[1]))],res:=[.tmp 4],ios:=[],G:=gl0}
def fq:List D→Option Out:=bQ lc Try.f52
@[reducible] def lb:FS:={pm:=[Yc,Y],rm:=[Y],f:=fq}
theorem rB:aH gl0 Try.prog 52 lb:=aS (c:=lc) (au fv aF) Try.func52 rfl rfl (by kernel_rfl)
@[reducible] def qN:Cx:={K:=[Y,Y,Y,.no,.no,.no,Y,Y,Y,Y,Y,Y,Y,Y,Y],T:=[(3,ty3)],S:=[],H:=[],res:=[.tmp 6],ios:=[],G:=gl0}
def bW:List D→Option Out:=bQ qN Try.f80
@[reducible] def eL:FS:={pm:=[Y,Y,Y],rm:=[Y],f:=bW}
theorem fK:aH gl0 Try.prog 80 eL:=aS (c:=qN) aF Try.func80 rfl rfl (by kernel_rfl)
@[reducible] def nr:Cx:={K:=[Yc,Y,.no,.no,Y,Y,.box 4 0 false,Yc,Y,Y,Y,Y,Yc,Y,Yr 6,Y,Y,Y,Y,Y],T:=[(3,ty3),(9,ty9),(30,jO),(112,fg)],S:=[],H:=[(0,([1,7,8,9],[]))],res:=[.tmp 4],ios:=[],G:=gl0}
def fe:List D→Option Out:=bQ nr Try.f87
@[reducible] def jK:FS:={pm:=[Yc,Y],rm:=[Y],f:=fe}
theorem nj:aH gl0 Try.prog 87 jK:=aS (c:=nr) aF Try.func87 rfl rfl (by kernel_rfl)
@[reducible] def lV:Cx:={K:=[Yc,Yc,.no,.box 4 2 false,Y,.no,Y,Yr 3,Y,Y,Y,Y,Yr 3,Yc,Y,Y,Y,Y,Yr 3,Y,Y,Y,Y,Y,Yr 3,Y,Y,Yr 3,Yc,Y,Y,Y,Y,Yr 3,Yc,Y,Y,Y,Yc,Y,Yc,Y,Y,Y,Y],T:=[(3,ty3),(4,ty4),(9,ty9),(73,iU),(75,tc)],S:=[(80,eL),(87,jK)],H:=[(0,([0,34,35,36],[]))],res:=[.tmp 4],ios:=[],G:=gl0}
def fT:List D→Option Out:=bQ lV Try.f78
@[reducible] def lN:FS:={pm:=[Yc,Yc],rm:=[Y],f:=fT}
theorem tw:aH gl0 Try.prog 78 lN:=aS (c:=lV) (au fK (au nj aF)) Try.func78 rfl rfl (by kernel_rfl)
@[reducible] def jU:Cx:={K:=[Y,Y,.no,.no,Y,Y,Y,Y,Y,Y,Y,Y,Y,Y,Y,Y,Y,Y,Y,Y,Y,Y,Y,Y,Y,Y],T:=[(3,ty3),(5,ty5),(9,ty9)],S:=[(80,eL)],H:=[(0,([0,1,5],[0,1]))],res:=[.tmp 4],ios:=[],G:=gl0}
def dD:List D→Option Out:=bQ jU Try.f107
@[reducible] def gx:FS:={pm:=[Y,Y],rm:=[Y],f:=dD}
theorem kj:aH gl0 Try.prog 107 gx:=aS (c:=jU) (au fK aF) Try.func107 rfl rfl (by kernel_rfl)
@[reducible] def oD:Cx:={K:=[Y,.box 4 0 false,Y,Yr 1,Y,Y,Y,Yr 1,Y,Y,Y,Y,Yr 1,Y,Y,Y,Y,Yr 1,Y,Y,Y],T:=[(3,ty3),(9,ty9),(112,fg)],S:=[(80,eL),(107,gx)],H:=[],res:=[.tmp 2],ios:=[],G:=gl0}
def iJ:List D→Option Out:=bQ oD Try.f110
@[reducible] def py:FS:={pm:=[Y],rm:=[Y],f:=iJ}
theorem xL:aH gl0 Try.prog 110 py:=aS (c:=oD) (au fK (au kj aF)) Try.func110 rfl rfl (by kernel_rfl)
@[reducible] def mZ:Cx:={K:=[Yc,.no,Y,Y,.box 4 0 false,.no,.box 4 0 false,Yc,Y,Y,Y,Y,Yc,Y,Y,Y,Y,Y,Y,Y,Y,Yc,Y,Y,Yc,Yc,Y,Yr 4,Y,Y,Y,Y,Yc,Y,Yc,Y,Y,Y,Yc,Y,Yr 6,Y,Yr 4,Y,Y,Y,Yr 6,Y,Yr 4,Y,Y,Y,Y,Y,Yc,Y,Y],T:=[(3,ty3),(9,ty9),(30,jO),(112,fg)],S:=[(80,eL),(110,py)],H:=[(0,([0,7,8,9],[0])),(2,([0,4,7,8,9,34,35,36],[0,7,8,9]))],res:=[.tmp 2],ios:=[],G:=gl0}
def fh:List D→Option Out:=bQ mZ Try.f79
@[reducible] def jF:FS:={pm:=[Yc],rm:=[Y],f:=fh}
theorem ng:aH gl0 Try.prog 79 jF:=aS (c:=mZ) (au fK (au xL aF)) Try.func79 rfl rfl (by kernel_rfl)
@[reducible] def nu:Cx:={K:=[Yc,.box 4 2 false,Y,Y,Y,.box 4 2 false,Yr 1,Yc,Y,Y,Y,Y,Yc,Yc,Yr 1,Yc,Yc,Y,Y,Y,Y,Y,Y,Yr 1,Yc,Y,Y,Yc,Yc,Y,Yr 5,Y,Y,Y,Y,Y,Yr 5,Y,Y,Y,Yr 1,Yc,Y,Y,Yr 1,Yc,Y,Y,Y,Y,Yr 1,Y,Y,Y,Y,Yr 1,Y,Y,Y,Y],T:=[(3,ty3),(4,ty4),(30,jO),(31,yo),(33,BT),(73,iU),(75,tc),(112,fg)],S:=[(78,lN),(79,jF),(80,eL)],H:=[(0,([1,3,7,8,9],[1,3]))],res:=[.tmp 2],ios:=[],G:=gl0}
def jL:List D→Option Out:=bQ nu Try.f41
@[reducible] def vh:FS:={pm:=[Yc],rm:=[Y],f:=jL}
theorem vI:aH gl0 Try.prog 41 vh:=aS (c:=nu) (au tw (au ng (au fK aF))) Try.func41 rfl rfl (by kernel_rfl)
@[reducible] def na:Cx:={K:=[Y,Y,Y,.no,.no,.no,Y,Y,Y,Y,Y,Y,Y,Y,Y],T:=[(3,ty3)],S:=[],H:=[],res:=[.tmp 6],ios:=[],G:=gl0}
def bP:List D→Option Out:=bQ na Try.f67
@[reducible] def cA:FS:={pm:=[Y,Y,Y],rm:=[Y],f:=bP}
theorem cM:aH gl0 Try.prog 67 cA:=aS (c:=na) aF Try.func67 rfl rfl (by kernel_rfl)
@[reducible] def kf:Cx:={K:=[Y,.no,Y,Y,Y],T:=[],S:=[(67,cA)],H:=[],res:=[.tmp 2],ios:=[],G:=gl0}
def dC:List D→Option Out:=bQ kf Try.f92
@[reducible] def gC:FS:={pm:=[Y],rm:=[Y],f:=dC}
theorem kq:aH gl0 Try.prog 92 gC:=aS (c:=kf) (au cM aF) Try.func92 rfl rfl (by kernel_rfl)
@[reducible] def pE:Cx:={K:=[Yc,Y,.no,.no,Y,Y,.box 4 0 false,Yc,Y,Y,Y,Y,Yc,Y,Yr 6,Y,Y,Y,Y,Y],T:=[(3,ty3),(9,ty9),(30,jO),(112,fg)],S:=[],H:=[(0,([1,7,8,9],[]))],res:=[.tmp 4],ios:=[],G:=gl0}
def fR:List D→Option Out:=bQ pE Try.f113
@[reducible] def kI:FS:={pm:=[Yc,Y],rm:=[Y],f:=fR}
theorem oU:aH gl0 Try.prog 113 kI:=aS (c:=pE) aF Try.func113 rfl rfl (by kernel_rfl)
@[reducible] def jv:Cx:={K:=[Y,Y,Y,.no,.no,.no,Y,Y,Y,Y,Y,Y,Y,Y,Y,Y,Y,Y,Y,Y,Y,Y,Y,Y,Y,Y,Y,Y,Y],T:=[(3,ty3),(5,ty5),(9,ty9)],S:=[(67,cA)],H:=[(0,([0,1,2,7],[0,1,2]))],res:=[.tmp 6],ios:=[],G:=gl0}
def dh:List D→Option Out:=bQ jv Try.f105
@[reducible] def fY:FS:={pm:=[Y,Y,Y],rm:=[Y],f:=dh}
theorem jn:aH gl0 Try.prog 105 fY:=aS (c:=jv) (au cM aF) Try.func105 rfl rfl (by kernel_rfl)
@[reducible] def mX:Cx:={K:=[Y,.no,Y,Y,Y],T:=[],S:=[(105,fY)],H:=[],res:=[.tmp 2],ios:=[],G:=gl0}
def gM:List D→Option Out:=bQ mX Try.f116
@[reducible] def ny:FS:={pm:=[Y],rm:=[Y],f:=gM}
theorem vt:aH gl0 Try.prog 116 ny:=aS (c:=mX) (au jn aF) Try.func116 rfl rfl (by kernel_rfl)
@[reducible] def lB:Cx:={K:=[Y,.no,Y,Y,Y],T:=[],S:=[(67,cA)],H:=[],res:=[.tmp 2],ios:=[],G:=gl0}
def eB:List D→Option Out:=bQ lB Try.f117
@[reducible] def mr:FS:={pm:=[Y],rm:=[Y],f:=eB}
theorem ua:aH gl0 Try.prog 117 mr:=aS (c:=lB) (au cM aF) Try.func117 rfl rfl (by kernel_rfl)
@[reducible] def pk:Cx:={K:=[Y,.box 4 0 false,Y,Yr 1,Y,Y,Y,Yr 1,Y,Y,Y,Y,Yr 1,Y,Y,Y,Y,Yr 1,Y,Y,Y],T:=[(3,ty3),(9,ty9),(112,fg)],S:=[(67,cA),(116,ny),(117,mr)],H:=[],res:=[.tmp 2],ios:=[],G:=gl0}
def iL:List D→Option Out:=bQ pk Try.f101
@[reducible] def oO:FS:={pm:=[Y],rm:=[Y],f:=iL}
theorem xQ:aH gl0 Try.prog 101 oO:=aS (c:=pk) (au cM (au vt (au ua aF))) Try.func101 rfl rfl (by kernel_rfl)
@[reducible] def mh:Cx:={K:=[Yc,Y,Y,.no,.no,.no,Y,.no,.box 4 0 false,Yc,Y,Y,Y,Yc,Y,Yr 8,Y,Y,Y,Y,Yr 8,Y,Y,Y,Y,Y],T:=[(3,ty3),(9,ty9),(30,jO),(112,fg)],S:=[],H:=[(0,([1,2,9,10,11],[]))],res:=[.tmp 6],ios:=[],G:=gl0}
def gm:List D→Option Out:=bQ mh Try.f102
@[reducible] def mf:FS:={pm:=[Yc,Y,Y],rm:=[Y],f:=gm}
theorem sB:aH gl0 Try.prog 102 mf:=aS (c:=mh) aF Try.func102 rfl rfl (by kernel_rfl)
@[reducible] def nm:Cx:={K:=[Yc,.no,Y,Y,.box 4 0 false,Yc,Y,Y,Y,Y,Yc,Y,Y,Y,Y,Y,Y,Y,Y,Yc,Y,Y,Yc,Yc,Y,Yr 4,Y,Y,Y,Y,Y,Yc,Y,Yc,Yr 4,Y,Yr 4,Y,Y,Y,Y,Yc,Y,Y],T:=[(3,ty3),(9,ty9),(30,jO),(112,fg)],S:=[(67,cA),(101,oO),(102,mf)],H:=[(0,([0,5,6,7],[0]))],res:=[.tmp 2],ios:=[],G:=gl0}
def eh:List D→Option Out:=bQ nm Try.f66
@[reducible] def gR:FS:={pm:=[Yc],rm:=[Y],f:=eh}
theorem jM:aH gl0 Try.prog 66 gR:=aS (c:=nm) (au cM (au xQ (au sB aF))) Try.func66 rfl rfl (by kernel_rfl)
@[reducible] def kV:Cx:={K:=[Yc,Yc,.no,.no,Y,.no,Y,Yc,Y,Y,Y,Yc,Y,Yc,Y,Y,Y,Y,Yc,Y,Y,Yc,Y,Y,Y],T:=[(3,ty3),(9,ty9),(73,iU)],S:=[(66,gR),(113,kI)],H:=[(0,([0,1,7,8,9],[0,1]))],res:=[.tmp 4],ios:=[],G:=gl0}
def dV:List D→Option Out:=bQ kV Try.f100
@[reducible] def ig:FS:={pm:=[Yc,Yc],rm:=[Y],f:=dV}
theorem ll:aH gl0 Try.prog 100 ig:=aS (c:=kV) (au jM (au oU aF)) Try.func100 rfl rfl (by kernel_rfl)
@[reducible] def lP:Cx:={K:=[Yc,Yc,.no,.box 4 2 false,Y,Yr 3,Y,Y,Y,Yc,Yr 3,Yc,Y,Y,Y,Yr 3,Yc,Y,Y,Y,Y,Yr 3,Y,Y,Y,Y,Yr 3,Y,Y,Y,Yr 3,Yc,Y,Y,Y,Y],T:=[(3,ty3),(4,ty4),(9,ty9),(73,iU),(75,tc)],S:=[(67,cA),(92,gC),(100,ig)],H:=[],res:=[.tmp 4],ios:=[],G:=gl0}
def gc:List D→Option Out:=bQ lP Try.f65
@[reducible] def mj:FS:={pm:=[Yc,Yc],rm:=[Y],f:=gc}
theorem sk:aH gl0 Try.prog 65 mj:=aS (c:=lP) (au cM (au kq (au ll aF))) Try.func65 rfl rfl (by kernel_rfl)
@[reducible] def ni:Cx:={K:=[Yc,.box 4 2 false,Y,Y,Y,.box 4 2 false,Yr 1,Yc,Y,Y,Y,Y,Yc,Yc,Yr 1,Yc,Yc,Y,Y,Y,Y,Y,Y,Yr 1,Yc,Y,Y,Yc,Yc,Y,Yr 5,Y,Y,Y,Y,Y,Yr 5,Y,Y,Y,Yr 1,Yc,Y,Y,Yr 1,Yc,Y,Y,Y,Y,Yr 1,Y,Y,Y,Y,Yr 1,Y,Y,Y,Y,Yr 1,Y,Y,Y,Y],T:=[(3,ty3),(4,ty4),(30,jO),(31,yo),(33,BT),(73,iU),(75,tc),(112,fg)],S:=[(65,mj),(66,gR),(67,cA)],H:=[(0,([1,3,7,8,9],[1,3]))],res:=[.tmp 2],ios:=[],G:=gl0}
def jC:List D→Option Out:=bQ ni Try.f34
@[reducible] def vV:FS:={pm:=[Yc],rm:=[Y],f:=jC}
theorem uA:aH gl0 Try.prog 34 vV:=aS (c:=ni) (au sk (au jM (au cM aF))) Try.func34 rfl rfl (by kernel_rfl)
@[reducible] def nt:Cx:={K:=[Yc,.no,Yo 1 0,Yo 1 0,Yc,Yo 1 0],T:=[(9,ty9),(73,iU)],S:=[],H:=[],res:=[.tmp 2],ios:=[],G:=gl0}
def jI:List D→Option Out:=bQ nt Try.f86
@[reducible] def uI:FS:={pm:=[Yc],rm:=[Yo 1 0],f:=jI}
theorem vp:aH gl0 Try.prog 86 uI:=aS (c:=nt) aF Try.func86 rfl rfl (by kernel_rfl)
@[reducible] def nq:Cx:={K:=[Yc,Yc,Y,.no,.no,.no,Yo 4 0,Y,Yo 4 0,.no,Y,Yo 4 0,Yc,Yo 4 0,Yc,Y,Y,Y,Yc,Y,.via 8,.via 8,Y,Y,Yr 8,Yr 8,Y,Y,Y,Yr 8,Yr 8,Y,.via 8,Y,Y,Yo 4 0],T:=[(3,ty3),(9,ty9),(30,jO),(73,iU),(112,fg)],S:=[(79,jF),(87,jK)],H:=[(0,([2,8,14,15,16],[8]))],res:=[.tmp 6,.tmp 7],ios:=[],G:=gl0}
def jA:List D→Option Out:=bQ nq Try.f49
@[reducible] def vU:FS:={pm:=[Yc,Yc,Y],rm:=[Yo 4 0,Y],f:=jA}
theorem vg:aH gl0 Try.prog 49 vU:=aS (c:=nq) (au ng (au nj aF)) Try.func49 rfl rfl (by kernel_rfl)
open Go Go.V
theorem xG (x0 x1:D):iE [x0,x1]=((fF 4 x0).bind fun y=>(ae y (.ref 0 0)).bind fun z=>((atD y z).bind (an false 1)).bind fun z=>(lenD true z).bind fun z=>(bin .sub false [] x1 z).bind fun z=>(bin .lss false [] z (I 0)).bind fun c=>ifD c (some (.ret [I (-1)] [])) (some (.ret [z] []))):=by kernel_rfl
theorem vR (x0 x1:D):gT [x0,x1]=((lenD false x0).bind fun z=>(bin .sub false [] x1 z).bind fun z=>(bin .lss false [] z (I 0)).bind fun d=>ifD d (some (.ret [I (-1)] [])) ((bh (fun s=>(lenD false (sl s 0)).bind fun z=>(bin .lss false [] (sl s 2) z).bind fun z=>ifD z ((HB D.ptr (bj 4 (sl s 0) (sl s 2))).bind fun z=>((ldD true 4 z).bind bB).bind fun z=>aO (iE [z,sl s 1]) fun c _=>(bin .lss false [] (sl c 0) (I 0)).bind fun z=>ifD z (some (.ret [I (-1)] [])) ((bin .add false [] (sl s 2) (I 1)).bind fun z=>some (.nrm [sl s 0,sl c 0,z]))) (some (.ext 0 [sl s 1]))) [x0,z,I 0]).bind fun o=>de o (fun i s=>ifN (i.beq 0) (some (.ret [sl s 0] [])) none) fun a b=>some (.ret a b))):=by kernel_rfl
theorem kl (x0 x1:D):dB [x0,x1]=((lenD false x0).bind fun z=>(bin .sub false [] x1 z).bind fun z=>(bin .lss false [] z (I 0)).bind fun c=>ifD c (some (.ret [I (-1)] [])) ((bh (fun s=>(lenD false (sl s 0)).bind fun z=>(bin .lss false [] (sl s 2) z).bind fun z=>ifD z ((HB D.ptr (bj 1 (sl s 0) (sl s 2))).bind fun z=>((ldD false 1 z).bind bB).bind fun z=>(lenD true z).bind fun z=>(bin .sub false [] (sl s 1) z).bind fun z=>(bin .lss false [] z (I 0)).bind fun d=>ifD d (some (.ret [I (-1)] [])) ((bin .add false [] (sl s 2) (I 1)).bind fun e=>some (.nrm [sl s 0,z,e]))) (some (.ext 0 [sl s 1]))) [x0,z,I 0]).bind fun o=>de o (fun i s=>ifN (i.beq 0) (some (.ret [sl s 0] [])) none) fun a b=>some (.ret a b))):=by kernel_rfl
theorem lS (x0 x1:D):eE [x0,x1]=((fF 4 x0).bind fun y=>(ae y (.ref 0 1)).bind fun z=>((atD y z).bind (an false 1)).bind fun z=>aO (dB [z,x1]) fun c _=>(bin .lss false [] (sl c 0) (I 0)).bind fun z=>ifD z (some (.ret [I (-1)] [])) (some (.ret [sl c 0] []))):=by kernel_rfl
theorem kZ (x0 x1:D):dU [x0,x1]=((lenD false x0).bind fun z=>(bin .sub false [] x1 z).bind fun z=>(bin .lss false [] z (I 0)).bind fun d=>ifD d (some (.ret [I (-1)] [])) ((bh (fun s=>(lenD false (sl s 0)).bind fun z=>(bin .lss false [] (sl s 2) z).bind fun z=>ifD z ((HB D.ptr (bj 4 (sl s 0) (sl s 2))).bind fun z=>(ldD true 4 z).bind fun z=>aO (eE [z,sl s 1]) fun c _=>(bin .lss false [] (sl c 0) (I 0)).bind fun z=>ifD z (some (.ret [I (-1)] [])) ((bin .add false [] (sl s 2) (I 1)).bind fun z=>some (.nrm [sl s 0,sl c 0,z]))) (some (.ext 0 [sl s 1]))) [x0,z,I 0]).bind fun o=>de o (fun i s=>ifN (i.beq 0) (some (.ret [sl s 0] [])) none) fun a b=>some (.ret a b))):=by kernel_rfl
theorem mP (x0 x1:D):fb [x0,x1]=((fF 4 x0).bind fun y=>(ae y (.ref 0 0)).bind fun z=>((atD y z).bind (an false 1)).bind fun z=>aO (gT [z,x1]) fun c _=>(bin .lss false [] (sl c 0) (I 0)).bind fun z=>ifD z (some (.ret [I (-1)] [])) ((ae y (.ref 0 1)).bind fun z=>((atD y z).bind (an false 1)).bind fun z=>aO (dU [z,sl c 0]) fun c _=>(bin .lss false [] (sl c 0) (I 0)).bind fun z=>ifD z (some (.ret [I (-1)] [])) (some (.ret [sl c 0] [])))):=by kernel_rfl
theorem xo (x0:D):iM [x0]=((fF 4 x0).bind fun y=>(ae y (.ref 0 0)).bind fun z=>((atD y z).bind (an false 1)).bind fun z=>(ae (.agg [.v (.string ⟨⟨[]⟩⟩),I 0,I 0,I 0]) (.ref 0 0)).bind fun c=>(stD 1 (.agg [.v (.string ⟨⟨[]⟩⟩),I 0,I 0,I 0]) c z).bind fun b=>(ae y (.ref 0 1)).bind fun z=>((atD y z).bind (an false 1)).bind fun z=>(ae b (.ref 0 1)).bind fun d=>(stD 1 b d z).bind fun b=>(ae y (.ref 0 2)).bind fun z=>((atD y z).bind (an false 1)).bind fun z=>(ae b (.ref 0 2)).bind fun e=>(stD 1 b e z).bind fun b=>(ae y (.ref 0 3)).bind fun z=>((atD y z).bind (an false 1)).bind fun z=>(ae b (.ref 0 3)).bind fun f=>(stD 1 b f z).bind fun b=>(kK true 4 0 b).bind fun z=>(stD 4 (.agg [.v (.string ⟨⟨[]⟩⟩),I 0,I 0,I 0]) (.ref 0 0) z).bind fun b=>(kK true 4 0 b).bind fun y=>some (.ret [y] [])):=by kernel_rfl
theorem uy (x0:D):jP [x0]=((lenD false x0).bind fun z=>(BV 4 40 (.agg [.v (.string ⟨⟨[]⟩⟩),I 0,I 0,I 0]) z z).bind fun y=>(bh (fun s=>(lenD false (sl s 0)).bind fun z=>(bin .lss false [] (sl s 2) z).bind fun z=>ifD z ((ae (sl s 1) (.ref 0 0)).bind fun z=>(HB D.ptr (bj 4 (sl s 0) (sl s 2))).bind fun c=>((ldD true 4 c).bind bB).bind fun d=>aO (iM [d]) fun e _=>((ae z (sl s 1)).bind fun b=>kt 4 b (sl s 2)).bind fun z=>(stD 4 (sl s 1) z (sl e 0)).bind fun b=>(bin .add false [] (sl s 2) (I 1)).bind fun z=>some (.nrm [sl s 0,b,z])) (some (.ext 0 [sl s 1]))) [x0,y,I 0]).bind fun o=>de o (fun i s=>ifN (i.beq 0) (some (.ret [sl s 0] [])) none) fun a b=>some (.ret a b)):=by kernel_rfl
theorem qx (x0:D):gG [x0]=((lenD false x0).bind fun z=>(BV 1 16 (.v (.string ⟨⟨[]⟩⟩)) z z).bind fun y=>(bh (fun s=>(lenD false (sl s 0)).bind fun z=>(bin .lss false [] (sl s 2) z).bind fun z=>ifD z ((ae (sl s 1) (.ref 0 0)).bind fun z=>(HB D.ptr (bj 1 (sl s 0) (sl s 2))).bind fun c=>((ldD false 1 c).bind bB).bind fun d=>((ae z (sl s 1)).bind fun b=>kt 1 b (sl s 2)).bind fun z=>(stD 1 (sl s 1) z d).bind fun b=>(bin .add false [] (sl s 2) (I 1)).bind fun z=>some (.nrm [sl s 0,b,z])) (some (.ext 0 [sl s 1]))) [x0,y,I 0]).bind fun o=>de o (fun i s=>ifN (i.beq 0) (some (.ret [sl s 0] [])) none) fun a b=>some (.ret a b)):=by kernel_rfl
theorem xy (x0 x1:D):iK [x0,x1]=((fF 4 x0).bind fun y=>(fF 4 x1).bind fun c=>(ae y (.ref 0 0)).bind fun z=>((atD y z).bind (an false 1)).bind fun z=>(ae c (.ref 0 0)).bind fun d=>((atD c d).bind (an false 1)).bind fun e=>(bin .neq false [] z e).bind fun z=>ifD z (some (.ret [B false] [])) ((ae y (.ref 0 1)).bind fun z=>((atD y z).bind (an false 1)).bind fun z=>(ae c (.ref 0 1)).bind fun f=>((atD c f).bind (an false 1)).bind fun g=>(bin .neq false [] z g).bind fun z=>ifD z (some (.ret [B false] [])) ((ae y (.ref 0 2)).bind fun z=>((atD y z).bind (an false 1)).bind fun z=>(ae c (.ref 0 2)).bind fun h=>((atD c h).bind (an false 1)).bind fun j=>(bin .neq false [] z j).bind fun z=>ifD z (some (.ret [B false] [])) ((ae y (.ref 0 3)).bind fun z=>((atD y z).bind (an false 1)).bind fun z=>(ae c (.ref 0 3)).bind fun k=>((atD c k).bind (an false 1)).bind fun l=>(bin .neq false [] z l).bind fun z=>ifD z (some (.ret [B false] [])) (some (.ret [B true] [])))))):=by kernel_rfl
theorem uE (x0 x1:D):gV [x0,x1]=((lenD false x0).bind fun z=>(lenD false x1).bind fun c=>(bin .neq false [] z c).bind fun z=>ifD z (some (.ret [B false] [])) ((bh (fun s=>(lenD false (sl s 0)).bind fun z=>(bin .lss false [] (sl s 2) z).bind fun z=>ifD z ((HB D.ptr (bj 4 (sl s 0) (sl s 2))).bind fun z=>((ldD true 4 z).bind bB).bind fun z=>(HB D.ptr (bj 4 (sl s 1) (sl s 2))).bind fun d=>((ldD true 4 d).bind bB).bind fun e=>aO (iK [z,e]) fun f _=>(un .not (sl f 0)).bind fun z=>ifD z (some (.ret [B false] [])) ((bin .add false [] (sl s 2) (I 1)).bind fun z=>some (.nrm [sl s 0,sl s 1,z]))) (some (.ext 0 []))) [x0,x1,I 0]).bind fun o=>de o (fun i _=>ifN (i.beq 0) (some (.ret [B true] [])) none) fun a b=>some (.ret a b))):=by kernel_rfl
theorem qw (x0 x1:D):eV [x0,x1]=((lenD false x0).bind fun z=>(lenD false x1).bind fun c=>(bin .neq false [] z c).bind fun z=>ifD z (some (.ret [B false] [])) ((bh (fun s=>(lenD false (sl s 0)).bind fun z=>(bin .lss false [] (sl s 2) z).bind fun z=>ifD z ((HB D.ptr (bj 1 (sl s 0) (sl s 2))).bind fun z=>((ldD false 1 z).bind bB).bind fun z=>(HB D.ptr (bj 1 (sl s 1) (sl s 2))).bind fun d=>((ldD false 1 d).bind bB).bind fun e=>(bin .neq false [] z e).bind fun z=>ifD z (some (.ret [B false] [])) ((bin .add false [] (sl s 2) (I 1)).bind fun z=>some (.nrm [sl s 0,sl s 1,z]))) (some (.ext 0 []))) [x0,x1,I 0]).bind fun o=>de o (fun i _=>ifN (i.beq 0) (some (.ret [B true] [])) none) fun a b=>some (.ret a b))):=by kernel_rfl
theorem sT (x0 x1:D):fX [x0,x1]=((fF 4 x0).bind fun y=>(fF 4 x1).bind fun c=>(ae y (.ref 0 0)).bind fun z=>(((atD y z).bind (an false 1)).bind bB).bind fun z=>(ae c (.ref 0 0)).bind fun d=>(((atD c d).bind (an false 1)).bind bB).bind fun e=>(bin .neq false [] z e).bind fun z=>ifD z (some (.ret [B false] [])) ((ae y (.ref 0 1)).bind fun z=>((atD y z).bind (an false 1)).bind fun z=>(ae c (.ref 0 1)).bind fun f=>((atD c f).bind (an false 1)).bind fun g=>aO (eV [z,g]) fun h _=>(un .not (sl h 0)).bind fun z=>ifD z (some (.ret [B false] [])) ((ae y (.ref 0 2)).bind fun z=>(((atD y z).bind (an false 1)).bind bB).bind fun z=>(ae c (.ref 0 2)).bind fun j=>(((atD c j).bind (an false 1)).bind bB).bind fun k=>(bin .neq true [] z k).bind fun z=>ifD z (some (.ret [B false] [])) ((ae y (.ref 0 3)).bind fun z=>(((atD y z).bind (an false 1)).bind bB).bind fun z=>(ae c (.ref 0 3)).bind fun l=>(((atD c l).bind (an false 1)).bind bB).bind fun m=>(bin .neq false [] z m).bind fun z=>ifD z (some (.ret [B false] [])) (some (.ret [B true] [])))))):=by kernel_rfl
theorem rc (x0 x1:D):fr [x0,x1]=((lenD false x0).bind fun z=>(lenD false x1).bind fun c=>(bin .neq false [] z c).bind fun z=>ifD z (some (.ret [B false] [])) ((bh (fun s=>(lenD false (sl s 0)).bind fun z=>(bin .lss false [] (sl s 2) z).bind fun z=>ifD z ((HB D.ptr (bj 4 (sl s 0) (sl s 2))).bind fun z=>(ldD true 4 z).bind fun z=>(HB D.ptr (bj 4 (sl s 1) (sl s 2))).bind fun d=>(ldD true 4 d).bind fun e=>aO (fX [z,e]) fun f _=>(un .not (sl f 0)).bind fun z=>ifD z (some (.ret [B false] [])) ((bin .add false [] (sl s 2) (I 1)).bind fun z=>some (.nrm [sl s 0,sl s 1,z]))) (some (.ext 0 []))) [x0,x1,I 0]).bind fun o=>de o (fun i _=>ifN (i.beq 0) (some (.ret [B true] [])) none) fun a b=>some (.ret a b))):=by kernel_rfl
theorem uL (x0 x1:D):jG [x0,x1]=((fF 4 x0).bind fun y=>(fF 4 x1).bind fun c=>(ae y (.ref 0 0)).bind fun z=>((atD y z).bind (an false 1)).bind fun z=>(ae c (.ref 0 0)).bind fun e=>((atD c e).bind (an false 1)).bind fun f=>aO (gV [z,f]) fun d _=>(un .not (sl d 0)).bind fun z=>ifD z (some (.ret [B false] [])) ((ae y (.ref 0 1)).bind fun z=>((atD y z).bind (an false 1)).bind fun z=>(ae c (.ref 0 1)).bind fun g=>((atD c g).bind (an false 1)).bind fun h=>aO (fr [z,h]) fun d _=>(un .not (sl d 0)).bind fun z=>ifD z (some (.ret [B false] [])) ((ae y (.ref 0 2)).bind fun z=>(((atD y z).bind (an false 1)).bind bB).bind fun z=>(ae c (.ref 0 2)).bind fun j=>(((atD c j).bind (an false 1)).bind bB).bind fun k=>(bin .neq false [] z k).bind fun z=>ifD z (some (.ret [B false] [])) ((ae y (.ref 0 3)).bind fun z=>(((atD y z).bind (an false 1)).bind bB).bind fun z=>(ae c (.ref 0 3)).bind fun l=>(((atD c l).bind (an false 1)).bind bB).bind fun m=>(bin .neq false [] z m).bind fun z=>ifD z (some (.ret [B false] [])) (some (.ret [B true] [])))))):=by kernel_rfl
theorem rq (x0:D):cn [x0]=((bin .leq false [] x0 (I 0)).bind fun z=>ifD z (some (.ret [.v (.string ⟨⟨[109,48]⟩⟩)] [])) ((bh (fun s=>(bin .gtr false [] (sl s 0) (I 0)).bind fun z=>ifD z ((bin .rem false [] (sl s 0) (I 10)).bind fun z=>(bin .add false [] (I 48) z).bind fun z=>(wD (some .u8) false z).bind fun z=>(dA 1 [z]).bind fun a=>(xu a).bind fun z=>(bin .add false [] z (sl s 1)).bind fun z=>(bin .quo false [] (sl s 0) (I 10)).bind fun c=>some (.nrm [c,z])) (some (.ext 0 [sl s 1]))) [x0,.v (.string ⟨⟨[]⟩⟩)]).bind fun o=>de o (fun i s=>ifN (i.beq 0) ((bin .add false [] (.v (.string ⟨⟨[109]⟩⟩)) (sl s 0)).bind fun z=>some (.ret [z] [])) none) fun a b=>some (.ret a b))):=by kernel_rfl
theorem rO (x0 x1:D):ip [x0,x1]=((bh (fun s=>(ae (sl s 0) (.ref 0 0)).bind fun z=>((ae z (sl s 0)).bind (lenD false)).bind fun z=>(bin .lss false [] (sl s 2) z).bind fun z=>ifD z ((ae (sl s 0) (.ref 0 0)).bind fun z=>aO (cn [sl s 1]) fun c _=>((ae z (sl s 0)).bind fun b=>kt 4 b (sl s 2)).bind fun z=>(gI 0 z).bind fun z=>(stD 1 (sl s 0) z (sl c 0)).bind fun b=>(bin .add false [] (sl s 1) (I 1)).bind fun z=>(ae b (.ref 0 0)).bind fun d=>((ae d b).bind fun b=>kt 4 b (sl s 2)).bind fun e=>(gI 1 e).bind fun f=>(stD 1 b f z).bind fun b=>(bin .add false [] z (I 1)).bind fun z=>(ae b (.ref 0 0)).bind fun g=>((ae g b).bind fun b=>kt 4 b (sl s 2)).bind fun h=>(gI 2 h).bind fun j=>(stD 1 b j z).bind fun b=>(bin .add false [] z (I 1)).bind fun z=>(ae b (.ref 0 0)).bind fun k=>((ae k b).bind fun b=>kt 4 b (sl s 2)).bind fun l=>(gI 3 l).bind fun m=>(stD 1 b m z).bind fun b=>(bin .add false [] z (I 1)).bind fun z=>(bin .add false [] (sl s 2) (I 1)).bind fun n=>some (.nrm [b,z,n])) (some (.ext 0 [sl s 0,sl s 1]))) [x0,x1,I 0]).bind fun o=>de o (fun i s=>ifN (i.beq 0) ((ae (sl s 0) (sl s 0)).bind fun _=>some (.ret [sl s 1] [sl s 0])) none) fun a b=>some (.ret a b)):=by kernel_rfl
theorem nZ (x0 x1:D):fH [x0,x1]=((bh (fun s=>(ae (sl s 0) (.ref 0 0)).bind fun z=>((ae z (sl s 0)).bind (lenD false)).bind fun z=>(bin .lss false [] (sl s 2) z).bind fun z=>ifD z ((ae (sl s 0) (.ref 0 0)).bind fun z=>aO (cn [sl s 1]) fun c _=>((ae z (sl s 0)).bind fun b=>kt 1 b (sl s 2)).bind fun z=>(stD 1 (sl s 0) z (sl c 0)).bind fun b=>(bin .add false [] (sl s 1) (I 1)).bind fun z=>(bin .add false [] (sl s 2) (I 1)).bind fun d=>some (.nrm [b,z,d])) (some (.ext 0 [sl s 0,sl s 1]))) [x0,x1,I 0]).bind fun o=>de o (fun i s=>ifN (i.beq 0) ((ae (sl s 0) (sl s 0)).bind fun _=>some (.ret [sl s 1] [sl s 0])) none) fun a b=>some (.ret a b)):=by kernel_rfl
theorem nW (x0 x1:D):dQ [x0,x1]=((bh (fun s=>(lenD false (sl s 0)).bind fun z=>(bin .lss false [] (sl s 2) z).bind fun z=>ifD z ((HB D.ptr (bj 1 (sl s 0) (sl s 2))).bind fun z=>((ldD false 1 z).bind bB).bind fun z=>aO (cn [sl s 1]) fun c _=>(bin .neq false [] z (sl c 0)).bind fun z=>ifD z (some (.ret [I (-1)] [])) ((bin .add false [] (sl s 1) (I 1)).bind fun z=>(bin .add false [] (sl s 2) (I 1)).bind fun d=>some (.nrm [sl s 0,z,d]))) (some (.ext 0 [sl s 1]))) [x0,x1,I 0]).bind fun o=>de o (fun i s=>ifN (i.beq 0) (some (.ret [sl s 0] [])) none) fun a b=>some (.ret a b)):=by kernel_rfl
theorem qZ (x0 x1:D):fq [x0,x1]=((bh (fun s=>(lenD false (sl s 0)).bind fun z=>(bin .lss false [] (sl s 2) z).bind fun z=>ifD z ((HB D.ptr (bj 4 (sl s 0) (sl s 2))).bind fun z=>(jE 0 z).bind fun z=>((ldD false 1 z).bind bB).bind fun z=>aO (cn [sl s 1]) fun c _=>(bin .neq false [] z (sl c 0)).bind fun z=>ifD z (some (.ret [I (-1)] [])) ((bin .add false [] (sl s 1) (I 1)).bind fun z=>(HB D.ptr (bj 4 (sl s 0) (sl s 2))).bind fun d=>(jE 1 d).bind fun e=>((ldD false 1 e).bind bB).bind fun f=>(bin .neq false [] f z).bind fun g=>ifD g (some (.ret [I (-1)] [])) ((bin .add false [] z (I 1)).bind fun z=>(HB D.ptr (bj 4 (sl s 0) (sl s 2))).bind fun h=>(jE 2 h).bind fun j=>((ldD false 1 j).bind bB).bind fun k=>(bin .neq false [] k z).bind fun l=>ifD l (some (.ret [I (-1)] [])) ((bin .add false [] z (I 1)).bind fun z=>(HB D.ptr (bj 4 (sl s 0) (sl s 2))).bind fun m=>(jE 3 m).bind fun n=>((ldD false 1 n).bind bB).bind fun p=>(bin .neq false [] p z).bind fun q=>ifD q (some (.ret [I (-1)] [])) ((bin .add false [] z (I 1)).bind fun z=>(bin .add false [] (sl s 2) (I 1)).bind fun r=>some (.nrm [sl s 0,z,r])))))) (some (.ext 0 [sl s 1]))) [x0,x1,I 0]).bind fun o=>de o (fun i s=>ifN (i.beq 0) (some (.ret [sl s 0] [])) none) fun a b=>some (.ret a b)):=by kernel_rfl
theorem yX (x0 x1 x2:D):bW [x0,x1,x2]=((bin .geq false [] x0 x1).bind fun z=>(al (.tup []) z true (some x0)).bind fun c=>(al (.tup []) z true (some x2)).bind fun d=>(al (.tup []) z true (bin .leq false [] c d)).bind fun e=>(bg z e (B false)).bind fun z=>some (.ret [z] [])):=by kernel_rfl
theorem uJ (x0 x1:D):fe [x0,x1]=((lenD false x0).bind fun z=>(bh (fun s=>(bin .lss false [] (sl s 3) (sl s 2)).bind fun z=>ifD z ((HB D.ptr (bj 4 (sl s 1) (sl s 3))).bind fun z=>((ldD true 4 z).bind bB).bind fun z=>(stD 4 (.agg [.v (.string ⟨⟨[]⟩⟩),I 0,I 0,I 0]) (.ref 0 0) z).bind fun b=>(ae b (.ref 0 0)).bind fun z=>((atD b z).bind (an false 1)).bind fun z=>(bin .eql false [] z (sl s 0)).bind fun z=>ifD z (some (.ret [sl s 3] [])) ((bin .add false [] (sl s 3) (I 1)).bind fun z=>some (.nrm [sl s 0,sl s 1,sl s 2,z]))) (some (.ext 0 []))) [x1,x0,z,I 0]).bind fun o=>de o (fun i _=>ifN (i.beq 0) (some (.ret [I (-1)] [])) none) fun a b=>some (.ret a b)):=by kernel_rfl
theorem up (x0 x1:D):fT [x0,x1]=((fF 4 x1).bind fun y=>(ae y (.ref 0 0)).bind fun z=>(((atD y z).bind (an false 1)).bind bB).bind fun z=>aO (bW [z,I 1,I 99]) fun c _=>(un .not (sl c 0)).bind fun z=>(al D.bad z false (ae y (.ref 0 1))).bind fun e=>(al (.tup []) z false ((atD y e).bind (an false 1))).bind fun f=>(al (.tup []) z false (lenD false f)).bind fun g=>(al (.tup []) z false (bin .gtr false [] g (I 40))).bind fun h=>(bg z (B true) h).bind fun z=>(al D.bad z false (ae y (.ref 0 3))).bind fun j=>(al (.tup []) z false (((atD y j).bind (an false 1)).bind bB)).bind fun k=>eW z false (aO (bW [k,I 0,I 100000]) fun c _=>some (.nrm [sl c 0])) [.tup []] fun l=>(al (.tup []) z false (un .not (sl l 0))).bind fun m=>(bg z (B true) m).bind fun z=>(al D.bad z false (ae y (.ref 0 2))).bind fun n=>(al (.tup []) z false (((atD y n).bind (an false 1)).bind bB)).bind fun p=>(al (.tup []) z false (some p)).bind fun d=>(al D.bad d true (ae y (.ref 0 1))).bind fun q=>(al (.tup []) d true ((atD y q).bind (an false 1))).bind fun r=>(al (.tup []) d true (lenD false r)).bind fun t=>(al (.tup []) d true (bin .eql false [] t (I 0))).bind fun u=>(al (.tup []) z false (bg d u (B false))).bind fun v=>(bg z (B true) v).bind fun z=>ifD z (some (.ret [B false] [])) ((ae y (.ref 0 1)).bind fun z=>((atD y z).bind (an false 1)).bind fun z=>(lenD false z).bind fun w=>(bh (fun s=>(bin .lss false [] (sl s 3) (sl s 2)).bind fun z=>ifD z ((HB D.ptr (bj 1 (sl s 1) (sl s 3))).bind fun z=>((ldD false 1 z).bind bB).bind fun z=>aO (fe [sl s 0,z]) fun c _=>(bin .lss false [] (sl c 0) (I 0)).bind fun z=>ifD z (some (.ret [B false] [])) ((bin .add false [] (sl s 3) (I 1)).bind fun z=>some (.nrm [sl s 0,sl s 1,sl s 2,z]))) (some (.ext 0 []))) [x0,z,w,I 0]).bind fun o=>de o (fun i _=>ifN (i.beq 0) (some (.ret [B true] [])) none) fun a b=>some (.ret a b))):=by kernel_rfl
theorem qG (x0 x1:D):dD [x0,x1]=((bh (fun s=>(lenD true (sl s 0)).bind fun z=>(bin .lss false [] (sl s 2) z).bind fun z=>ifD z ((pf (sl s 0) (sl s 2)).bind fun z=>(bin .lss false [] z (.v (Ik HV 97))).bind fun z=>(al (.tup []) z false (some (sl s 0))).bind fun c=>(al (.tup []) z false (some (sl s 2))).bind fun d=>(al (.tup []) z false (pf c d)).bind fun e=>(al (.tup []) z false (bin .gtr false [] e (.v (Ik HV 122)))).bind fun f=>(bg z (B true) f).bind fun z=>ifD z (some (.ret [B false] [])) ((bin .add false [] (sl s 2) (I 1)).bind fun z=>some (.nrm [sl s 0,sl s 1,z]))) (some (.ext 0 [sl s 0,sl s 1]))) [x0,x1,I 0]).bind fun o=>de o (fun i s=>ifN (i.beq 0) ((lenD true (sl s 0)).bind fun z=>aO (bW [z,I 1,sl s 1]) fun g _=>some (.ret [sl g 0] [])) none) fun a b=>some (.ret a b)):=by kernel_rfl
theorem xU (x0:D):iJ [x0]=((fF 4 x0).bind fun y=>(ae y (.ref 0 0)).bind fun z=>((atD y z).bind (an false 1)).bind fun z=>aO (dD [z,I 3]) fun c _=>(al D.bad (sl c 0) true (ae y (.ref 0 1))).bind fun z=>(al (.tup []) (sl c 0) true ((atD y z).bind (an false 1))).bind fun z=>eW (sl c 0) true (aO (bW [z,I 0,I 9]) fun c _=>some (.nrm [sl c 0])) [.tup []] fun d=>(bg (sl c 0) (sl d 0) (B false)).bind fun z=>(al D.bad z true (ae y (.ref 0 2))).bind fun e=>(al (.tup []) z true ((atD y e).bind (an false 1))).bind fun f=>eW z true (aO (bW [f,I 0,I 9]) fun c _=>some (.nrm [sl c 0])) [.tup []] fun d=>(bg z (sl d 0) (B false)).bind fun z=>(al D.bad z true (ae y (.ref 0 3))).bind fun g=>(al (.tup []) z true ((atD y g).bind (an false 1))).bind fun h=>eW z true (aO (bW [h,I 0,I 9999]) fun c _=>some (.nrm [sl c 0])) [.tup []] fun d=>(bg z (sl d 0) (B false)).bind fun z=>some (.ret [z] [])):=by kernel_rfl
theorem vP (x0:D):fh [x0]=((lenD false x0).bind fun z=>(bh (fun s=>(bin .lss false [] (sl s 3) (sl s 2)).bind fun z=>ifD z ((HB D.ptr (bj 4 (sl s 1) (sl s 3))).bind fun z=>((ldD true 4 z).bind bB).bind fun z=>(stD 4 (.agg [.v (.string ⟨⟨[]⟩⟩),I 0,I 0,I 0]) (.ref 0 0) z).bind fun b=>(kK true 4 0 b).bind fun z=>aO (iJ [z]) fun d _=>(un .not (sl d 0)).bind fun z=>(al (.tup []) z false (some (sl s 3))).bind fun e=>(al (.tup []) z false (bin .gtr false [] e (I 0))).bind fun f=>(al (.tup []) z false (some f)).bind fun c=>(al (.tup []) c true (some (sl s 0))).bind fun g=>(al (.tup []) c true (some (sl s 3))).bind fun h=>(al (.tup []) c true (bin .sub false [] h (I 1))).bind fun j=>(al (.tup []) c true (HB D.ptr (bj 4 g j))).bind fun k=>(al (.tup []) c true (jE 0 k)).bind fun l=>(al (.tup []) c true ((ldD false 1 l).bind bB)).bind fun m=>(al D.bad c true (ae b (.ref 0 0))).bind fun n=>(al (.tup []) c true ((atD b n).bind (an false 1))).bind fun p=>(al (.tup []) c true (bin .geq false [] m p)).bind fun q=>(al (.tup []) z false (bg c q (B false))).bind fun r=>(bg z (B true) r).bind fun z=>ifD z (some (.ret [B false] [])) ((fa false 4 (sl s 0) (I 0) (sl s 3)).bind fun z=>(lenD false z).bind fun t=>(bh (fun s=>(bin .lss false [] (sl s 7) (sl s 6)).bind fun z=>ifD z ((HB D.ptr (bj 4 (sl s 5) (sl s 7))).bind fun z=>((ldD true 4 z).bind bB).bind fun z=>(stD 4 (.agg [.v (.string ⟨⟨[]⟩⟩),I 0,I 0,I 0]) (.ref 0 0) z).bind fun b=>(ae b (.ref 0 1)).bind fun z=>((atD b z).bind (an false 1)).bind fun z=>(ae (sl s 1) (.ref 0 1)).bind fun u=>((atD (sl s 1) u).bind (an false 1)).bind fun v=>(bin .eql false [] z v).bind fun z=>(al D.bad z true (ae b (.ref 0 2))).bind fun w=>(al (.tup []) z true ((atD b w).bind (an false 1))).bind fun za=>(al D.bad z true (ae (sl s 1) (.ref 0 2))).bind fun zb=>(al (.tup []) z true ((atD (sl s 1) zb).bind (an false 1))).bind fun zc=>(al (.tup []) z true (bin .eql false [] za zc)).bind fun zd=>(bg z zd (B false)).bind fun z=>ifD z (some (.ret [B false] [])) ((bin .add false [] (sl s 7) (I 1)).bind fun z=>some (.nrm [sl s 0,sl s 1,sl s 2,sl s 3,sl s 4,sl s 5,sl s 6,z]))) (some (.ext 2 [sl s 0,sl s 2,sl s 3,sl s 4]))) [sl s 0,b,sl s 1,sl s 2,sl s 3,z,t,I 0]).bind fun o=>de o (fun i s=>ifN (i.beq 2) ((bin .add false [] (sl s 3) (I 1)).bind fun z=>some (.nrm [sl s 0,sl s 1,sl s 2,z])) (ifN (i.beq 1) ((bin .add false [] (sl s 3) (I 1)).bind fun z=>some (.nrm [sl s 0,sl s 1,sl s 2,z])) (some (.ext i [sl s 0])))) fun a b=>some (.ret a b))) (some (.ext 0 [sl s 0]))) [x0,x0,z,I 0]).bind fun o=>de o (fun i s=>ifN (i.beq 0) ((lenD false (sl s 0)).bind fun z=>aO (bW [z,I 1,I 32]) fun d _=>some (.ret [sl d 0] [])) none) fun a b=>some (.ret a b)):=by kernel_rfl
theorem vu (x0:D):jL [x0]=((fF 4 x0).bind fun y=>(ae y (.ref 0 1)).bind fun z=>((atD y z).bind (an false 1)).bind fun z=>(lenD false z).bind fun k=>(bh (fun s=>(bin .lss false [] (sl s 4) (sl s 3)).bind fun z=>ifD z ((HB D.ptr (bj 4 (sl s 2) (sl s 4))).bind fun z=>(ldD true 4 z).bind fun z=>(stD 4 (.agg [I 0,.arr 1 [],B false,I 0]) (.ref 0 0) z).bind fun b=>(ae (sl s 0) (.ref 0 0)).bind fun z=>((atD (sl s 0) z).bind (an false 1)).bind fun z=>(kK true 4 0 b).bind fun e=>aO (fT [z,e]) fun d _=>(un .not (sl d 0)).bind fun z=>(al (.tup []) z false (some (sl s 4))).bind fun f=>(al (.tup []) z false (bin .gtr false [] f (I 0))).bind fun g=>(al (.tup []) z false (some g)).bind fun c=>(al D.bad c true (ae (sl s 0) (.ref 0 1))).bind fun h=>(al (.tup []) c true ((atD (sl s 0) h).bind (an false 1))).bind fun l=>(al (.tup []) c true (some (sl s 4))).bind fun m=>(al (.tup []) c true (bin .sub false [] m (I 1))).bind fun n=>(al (.tup []) c true (HB D.ptr (bj 4 l n))).bind fun p=>(al (.tup []) c true (jE 0 p)).bind fun q=>(al (.tup []) c true ((ldD false 1 q).bind bB)).bind fun r=>(al D.bad c true (ae b (.ref 0 0))).bind fun t=>(al (.tup []) c true (((atD b t).bind (an false 1)).bind bB)).bind fun u=>(al (.tup []) c true (bin .geq false [] r u)).bind fun v=>(al (.tup []) z false (bg c v (B false))).bind fun w=>(bg z (B true) w).bind fun z=>ifD z (some (.ret [B false] [])) ((ae b (.ref 0 3)).bind fun z=>(((atD b z).bind (an false 1)).bind bB).bind fun z=>(bin .add false [] (sl s 1) z).bind fun z=>(bin .add false [] (sl s 4) (I 1)).bind fun za=>some (.nrm [sl s 0,z,sl s 2,sl s 3,za]))) (some (.ext 0 [sl s 0,sl s 1]))) [y,I 0,z,k,I 0]).bind fun o=>de o (fun i s=>ifN (i.beq 0) ((ae (sl s 0) (.ref 0 0)).bind fun z=>((atD (sl s 0) z).bind (an false 1)).bind fun z=>aO (fh [z]) fun d _=>(al D.bad (sl d 0) true (ae (sl s 0) (.ref 0 1))).bind fun z=>(al (.tup []) (sl d 0) true ((atD (sl s 0) z).bind (an false 1))).bind fun z=>(al (.tup []) (sl d 0) true (lenD false z)).bind fun z=>(al (.tup []) (sl d 0) true (bin .leq false [] z (I 5))).bind fun z=>(bg (sl d 0) z (B false)).bind fun z=>(al D.bad z true (ae (sl s 0) (.ref 0 2))).bind fun e=>(al (.tup []) z true (((atD (sl s 0) e).bind (an false 1)).bind bB)).bind fun f=>eW z true (aO (bW [f,I 0,I 9999]) fun d _=>some (.nrm [sl d 0])) [.tup []] fun j=>(bg z (sl j 0) (B false)).bind fun z=>(al D.bad z true (ae (sl s 0) (.ref 0 3))).bind fun g=>(al (.tup []) z true (((atD (sl s 0) g).bind (an false 1)).bind bB)).bind fun c=>(al (.tup []) z true (some (sl s 1))).bind fun h=>eW z true (aO (bW [c,h,I 1000000]) fun d _=>some (.nrm [sl d 0])) [.tup []] fun j=>(bg z (sl j 0) (B false)).bind fun z=>some (.ret [z] [])) none) fun a b=>some (.ret a b)):=by kernel_rfl
theorem uX (x0 x1 x2:D):bP [x0,x1,x2]=((bin .geq false [] x0 x1).bind fun z=>(al (.tup []) z true (some x0)).bind fun c=>(al (.tup []) z true (some x2)).bind fun d=>(al (.tup []) z true (bin .leq false [] c d)).bind fun e=>(bg z e (B false)).bind fun z=>some (.ret [z] [])):=by kernel_rfl
theorem qa (x0:D):dC [x0]=(aO (bP [x0,I 1,I 99]) fun c _=>some (.ret [sl c 0] [])):=by kernel_rfl
theorem xe (x0 x1:D):fR [x0,x1]=((lenD false x0).bind fun z=>(bh (fun s=>(bin .lss false [] (sl s 3) (sl s 2)).bind fun z=>ifD z ((HB D.ptr (bj 4 (sl s 1) (sl s 3))).bind fun z=>((ldD true 4 z).bind bB).bind fun z=>(stD 4 (.agg [.v (.string ⟨⟨[]⟩⟩),I 0,I 0,I 0]) (.ref 0 0) z).bind fun b=>(ae b (.ref 0 0)).bind fun z=>((atD b z).bind (an false 1)).bind fun z=>(bin .eql false [] z (sl s 0)).bind fun z=>ifD z (some (.ret [sl s 3] [])) ((bin .add false [] (sl s 3) (I 1)).bind fun z=>some (.nrm [sl s 0,sl s 1,sl s 2,z]))) (some (.ext 0 []))) [x1,x0,z,I 0]).bind fun o=>de o (fun i _=>ifN (i.beq 0) (some (.ret [I (-1)] [])) none) fun a b=>some (.ret a b)):=by kernel_rfl
theorem pO (x0 x1 x2:D):dh [x0,x1,x2]=((bh (fun s=>(lenD true (sl s 0)).bind fun z=>(bin .lss false [] (sl s 3) z).bind fun z=>ifD z ((pf (sl s 0) (sl s 3)).bind fun z=>(bin .lss false [] z (.v (Ik HV 97))).bind fun z=>(al (.tup []) z false (some (sl s 0))).bind fun c=>(al (.tup []) z false (some (sl s 3))).bind fun d=>(al (.tup []) z false (pf c d)).bind fun e=>(al (.tup []) z false (bin .gtr false [] e (.v (Ik HV 122)))).bind fun f=>(bg z (B true) f).bind fun z=>ifD z (some (.ret [B false] [])) ((bin .add false [] (sl s 3) (I 1)).bind fun z=>some (.nrm [sl s 0,sl s 1,sl s 2,z]))) (some (.ext 0 [sl s 0,sl s 1,sl s 2]))) [x0,x1,x2,I 0]).bind fun o=>de o (fun i s=>ifN (i.beq 0) ((lenD true (sl s 0)).bind fun z=>aO (bP [z,sl s 1,sl s 2]) fun g _=>some (.ret [sl g 0] [])) none) fun a b=>some (.ret a b)):=by kernel_rfl
theorem uw (x0:D):gM [x0]=(aO (dh [x0,I 1,I 3]) fun c _=>some (.ret [sl c 0] [])):=by kernel_rfl
theorem uk (x0:D):eB [x0]=(aO (bP [x0,I 0,I 9]) fun c _=>some (.ret [sl c 0] [])):=by kernel_rfl
theorem xH (x0:D):iL [x0]=((fF 4 x0).bind fun y=>(ae y (.ref 0 0)).bind fun z=>((atD y z).bind (an false 1)).bind fun z=>aO (gM [z]) fun c _=>(al D.bad (sl c 0) true (ae y (.ref 0 1))).bind fun z=>(al (.tup []) (sl c 0) true ((atD y z).bind (an false 1))).bind fun z=>eW (sl c 0) true (aO (eB [z]) fun c _=>some (.nrm [sl c 0])) [.tup []] fun d=>(bg (sl c 0) (sl d 0) (B false)).bind fun z=>(al D.bad z true (ae y (.ref 0 2))).bind fun e=>(al (.tup []) z true ((atD y e).bind (an false 1))).bind fun f=>eW z true (aO (eB [f]) fun c _=>some (.nrm [sl c 0])) [.tup []] fun d=>(bg z (sl d 0) (B false)).bind fun z=>(al D.bad z true (ae y (.ref 0 3))).bind fun g=>(al (.tup []) z true ((atD y g).bind (an false 1))).bind fun h=>eW z true (aO (bP [h,I 0,I 9999]) fun c _=>some (.nrm [sl c 0])) [.tup []] fun d=>(bg z (sl d 0) (B false)).bind fun z=>some (.ret [z] [])):=by kernel_rfl
theorem sM (x0 x1 x2:D):gm [x0,x1,x2]=((lenD false x0).bind fun z=>(bh (fun s=>(bin .lss false [] (sl s 4) (sl s 3)).bind fun z=>ifD z ((HB D.ptr (bj 4 (sl s 2) (sl s 4))).bind fun z=>((ldD true 4 z).bind bB).bind fun z=>(stD 4 (.agg [.v (.string ⟨⟨[]⟩⟩),I 0,I 0,I 0]) (.ref 0 0) z).bind fun b=>(ae b (.ref 0 1)).bind fun z=>((atD b z).bind (an false 1)).bind fun z=>(bin .eql false [] z (sl s 0)).bind fun z=>(al D.bad z true (ae b (.ref 0 2))).bind fun c=>(al (.tup []) z true ((atD b c).bind (an false 1))).bind fun d=>(al (.tup []) z true (some (sl s 1))).bind fun e=>(al (.tup []) z true (bin .eql false [] d e)).bind fun f=>(bg z f (B false)).bind fun z=>ifD z (some (.ret [B true] [])) ((bin .add false [] (sl s 4) (I 1)).bind fun z=>some (.nrm [sl s 0,sl s 1,sl s 2,sl s 3,z]))) (some (.ext 0 []))) [x1,x2,x0,z,I 0]).bind fun o=>de o (fun i _=>ifN (i.beq 0) (some (.ret [B false] [])) none) fun a b=>some (.ret a b)):=by kernel_rfl
theorem uQ (x0:D):eh [x0]=((lenD false x0).bind fun z=>(bh (fun s=>(bin .lss false [] (sl s 3) (sl s 2)).bind fun z=>ifD z ((HB D.ptr (bj 4 (sl s 1) (sl s 3))).bind fun z=>((ldD true 4 z).bind bB).bind fun z=>(stD 4 (.agg [.v (.string ⟨⟨[]⟩⟩),I 0,I 0,I 0]) (.ref 0 0) z).bind fun b=>(kK true 4 0 b).bind fun z=>aO (iL [z]) fun d _=>(un .not (sl d 0)).bind fun z=>(al (.tup []) z false (some (sl s 3))).bind fun e=>(al (.tup []) z false (bin .gtr false [] e (I 0))).bind fun f=>(al (.tup []) z false (some f)).bind fun c=>(al (.tup []) c true (some (sl s 0))).bind fun g=>(al (.tup []) c true (some (sl s 3))).bind fun h=>(al (.tup []) c true (bin .sub false [] h (I 1))).bind fun j=>(al (.tup []) c true (HB D.ptr (bj 4 g j))).bind fun k=>(al (.tup []) c true (jE 0 k)).bind fun l=>(al (.tup []) c true ((ldD false 1 l).bind bB)).bind fun m=>(al D.bad c true (ae b (.ref 0 0))).bind fun n=>(al (.tup []) c true ((atD b n).bind (an false 1))).bind fun p=>(al (.tup []) c true (bin .geq false [] m p)).bind fun q=>(al (.tup []) z false (bg c q (B false))).bind fun r=>(bg z (B true) r).bind fun z=>(al (.tup []) z false (some (sl s 0))).bind fun t=>(al (.tup []) z false (some (sl s 3))).bind fun u=>(al (.tup []) z false (fa false 4 t (I 0) u)).bind fun v=>(al D.bad z false (ae b (.ref 0 1))).bind fun w=>(al (.tup []) z false ((atD b w).bind (an false 1))).bind fun za=>(al D.bad z false (ae b (.ref 0 2))).bind fun zb=>(al (.tup []) z false ((atD b zb).bind (an false 1))).bind fun zc=>eW z false (aO (gm [v,za,zc]) fun d _=>some (.nrm [sl d 0])) [.tup []] fun zd=>(bg z (B true) (sl zd 0)).bind fun z=>ifD z (some (.ret [B false] [])) ((bin .add false [] (sl s 3) (I 1)).bind fun z=>some (.nrm [sl s 0,sl s 1,sl s 2,z]))) (some (.ext 0 [sl s 0]))) [x0,x0,z,I 0]).bind fun o=>de o (fun i s=>ifN (i.beq 0) ((lenD false (sl s 0)).bind fun z=>aO (bP [z,I 1,I 32]) fun d _=>some (.ret [sl d 0] [])) none) fun a b=>some (.ret a b)):=by kernel_rfl
theorem rD (x0 x1:D):dV [x0,x1]=((lenD false x1).bind fun z=>(bh (fun s=>(bin .lss false [] (sl s 4) (sl s 3)).bind fun z=>ifD z ((HB D.ptr (bj 1 (sl s 2) (sl s 4))).bind fun z=>((ldD false 1 z).bind bB).bind fun z=>aO (fR [sl s 0,z]) fun c _=>(bin .lss false [] (sl c 0) (I 0)).bind fun z=>ifD z (some (.ret [B false] [])) ((bin .add false [] (sl s 4) (I 1)).bind fun z=>some (.nrm [sl s 0,sl s 1,sl s 2,sl s 3,z]))) (some (.ext 0 [sl s 0,sl s 1]))) [x0,x1,x1,z,I 0]).bind fun o=>de o (fun i s=>ifN (i.beq 0) (aO (eh [sl s 0]) fun c _=>(al (.tup []) (sl c 0) true (some (sl s 1))).bind fun z=>(al (.tup []) (sl c 0) true (lenD false z)).bind fun z=>(al (.tup []) (sl c 0) true (bin .leq false [] z (I 60))).bind fun z=>(bg (sl c 0) z (B false)).bind fun z=>some (.ret [z] [])) none) fun a b=>some (.ret a b)):=by kernel_rfl
theorem tE (x0 x1:D):gc [x0,x1]=((fF 4 x1).bind fun y=>(ae y (.ref 0 0)).bind fun z=>(((atD y z).bind (an false 1)).bind bB).bind fun z=>aO (dC [z]) fun c _=>(al (.tup []) (sl c 0) true (some x0)).bind fun z=>(al D.bad (sl c 0) true (ae y (.ref 0 1))).bind fun f=>(al (.tup []) (sl c 0) true ((atD y f).bind (an false 1))).bind fun g=>eW (sl c 0) true (aO (dV [z,g]) fun c _=>some (.nrm [sl c 0])) [.tup []] fun e=>(bg (sl c 0) (sl e 0) (B false)).bind fun z=>(al D.bad z true (ae y (.ref 0 1))).bind fun h=>(al (.tup []) z true ((atD y h).bind (an false 1))).bind fun j=>(al (.tup []) z true (lenD false j)).bind fun k=>(al (.tup []) z true (bin .leq false [] k (I 40))).bind fun l=>(bg z l (B false)).bind fun z=>(al D.bad z true (ae y (.ref 0 3))).bind fun m=>(al (.tup []) z true (((atD y m).bind (an false 1)).bind bB)).bind fun n=>eW z true (aO (bP [n,I 0,I 100000]) fun c _=>some (.nrm [sl c 0])) [.tup []] fun e=>(bg z (sl e 0) (B false)).bind fun z=>(al D.bad z true (ae y (.ref 0 2))).bind fun p=>(al (.tup []) z true (((atD y p).bind (an false 1)).bind bB)).bind fun q=>(al (.tup []) z true (un .not q)).bind fun r=>(al (.tup []) z true (some r)).bind fun d=>(al D.bad d false (ae y (.ref 0 1))).bind fun t=>(al (.tup []) d false ((atD y t).bind (an false 1))).bind fun u=>(al (.tup []) d false (lenD false u)).bind fun v=>(al (.tup []) d false (bin .gtr false [] v (I 0))).bind fun w=>(al (.tup []) z true (bg d (B true) w)).bind fun za=>(bg z za (B false)).bind fun z=>some (.ret [z] [])):=by kernel_rfl
theorem vE (x0:D):jC [x0]=((fF 4 x0).bind fun y=>(ae y (.ref 0 1)).bind fun z=>((atD y z).bind (an false 1)).bind fun z=>(lenD false z).bind fun n=>(bh (fun s=>(bin .lss false [] (sl s 4) (sl s 3)).bind fun z=>ifD z ((HB D.ptr (bj 4 (sl s 2) (sl s 4))).bind fun z=>(ldD true 4 z).bind fun z=>(stD 4 (.agg [I 0,.arr 1 [],B false,I 0]) (.ref 0 0) z).bind fun b=>(ae (sl s 0) (.ref 0 0)).bind fun z=>((atD (sl s 0) z).bind (an false 1)).bind fun z=>(kK true 4 0 b).bind fun e=>aO (gc [z,e]) fun d _=>(un .not (sl d 0)).bind fun z=>(al (.tup []) z false (some (sl s 4))).bind fun f=>(al (.tup []) z false (bin .gtr false [] f (I 0))).bind fun g=>(al (.tup []) z false (some g)).bind fun c=>(al D.bad c true (ae (sl s 0) (.ref 0 1))).bind fun h=>(al (.tup []) c true ((atD (sl s 0) h).bind (an false 1))).bind fun j=>(al (.tup []) c true (some (sl s 4))).bind fun k=>(al (.tup []) c true (bin .sub false [] k (I 1))).bind fun l=>(al (.tup []) c true (HB D.ptr (bj 4 j l))).bind fun p=>(al (.tup []) c true (jE 0 p)).bind fun q=>(al (.tup []) c true ((ldD false 1 q).bind bB)).bind fun r=>(al D.bad c true (ae b (.ref 0 0))).bind fun t=>(al (.tup []) c true (((atD b t).bind (an false 1)).bind bB)).bind fun u=>(al (.tup []) c true (bin .geq false [] r u)).bind fun v=>(al (.tup []) z false (bg c v (B false))).bind fun w=>(bg z (B true) w).bind fun z=>ifD z (some (.ret [B false] [])) ((ae b (.ref 0 3)).bind fun z=>(((atD b z).bind (an false 1)).bind bB).bind fun z=>(bin .add false [] (sl s 1) z).bind fun z=>(bin .add false [] (sl s 4) (I 1)).bind fun za=>some (.nrm [sl s 0,z,sl s 2,sl s 3,za]))) (some (.ext 0 [sl s 0,sl s 1]))) [y,I 0,z,n,I 0]).bind fun o=>de o (fun i s=>ifN (i.beq 0) ((ae (sl s 0) (.ref 0 0)).bind fun z=>((atD (sl s 0) z).bind (an false 1)).bind fun z=>aO (eh [z]) fun d _=>(al D.bad (sl d 0) true (ae (sl s 0) (.ref 0 1))).bind fun z=>(al (.tup []) (sl d 0) true ((atD (sl s 0) z).bind (an false 1))).bind fun z=>(al (.tup []) (sl d 0) true (lenD false z)).bind fun z=>(al (.tup []) (sl d 0) true (bin .leq false [] z (I 5))).bind fun z=>(bg (sl d 0) z (B false)).bind fun z=>(al D.bad z true (ae (sl s 0) (.ref 0 2))).bind fun e=>(al (.tup []) z true (((atD (sl s 0) e).bind (an false 1)).bind bB)).bind fun f=>eW z true (aO (bP [f,I 0,I 9999]) fun d _=>some (.nrm [sl d 0])) [.tup []] fun m=>(bg z (sl m 0) (B false)).bind fun z=>(al D.bad z true (ae (sl s 0) (.ref 0 3))).bind fun g=>(al (.tup []) z true (((atD (sl s 0) g).bind (an false 1)).bind bB)).bind fun c=>eW z true (aO (bP [c,I 0,I 1000000]) fun d _=>some (.nrm [sl d 0])) [.tup []] fun m=>(bg z (sl m 0) (B false)).bind fun z=>(al D.bad z true (ae (sl s 0) (.ref 0 3))).bind fun h=>(al (.tup []) z true (((atD (sl s 0) h).bind (an false 1)).bind bB)).bind fun j=>(al (.tup []) z true (some (sl s 1))).bind fun k=>(al (.tup []) z true (bin .geq false [] j k)).bind fun l=>(bg z l (B false)).bind fun z=>some (.ret [z] [])) none) fun a b=>some (.ret a b)):=by kernel_rfl
theorem uY (x0:D):jI [x0]=((dA 1 []).bind fun a=>(kz x0).bind fun b=>(je 1 16 a b).bind fun y=>some (.ret [y] [])):=by kernel_rfl
theorem uG (x0 x1 x2:D):jA [x0,x1,x2]=((dA 4 []).bind fun a=>(kz x0).bind fun b=>(je 4 40 a b).bind fun y=>(lenD false x1).bind fun z=>(bh (fun s=>(bin .lss false [] (sl s 4) (sl s 3)).bind fun z=>ifD z ((HB D.ptr (bj 1 (sl s 2) (sl s 4))).bind fun z=>((ldD false 1 z).bind bB).bind fun z=>(ae (sl s 1) (.ref 0 0)).bind fun d=>(ae (sl s 1) (.ref 0 0)).bind fun e=>(ae e (sl s 1)).bind fun i=>aO (fe [i,z]) fun c _=>((ae d (sl s 1)).bind fun b=>kt 4 b (sl c 0)).bind fun z=>(gI 3 z).bind fun z=>((atD (sl s 1) z).bind (an false 1)).bind fun z=>(bin .add false [] z (sl s 0)).bind fun z=>((ae d (sl s 1)).bind fun b=>kt 4 b (sl c 0)).bind fun f=>(gI 3 f).bind fun g=>(stD 1 (sl s 1) g z).bind fun b=>(bin .add false [] (sl s 4) (I 1)).bind fun z=>some (.nrm [sl s 0,b,sl s 2,sl s 3,z])) (some (.ext 0 [sl s 1]))) [x2,y,x1,z,I 0]).bind fun o=>de o (fun i s=>ifN (i.beq 0) ((ae (sl s 0) (.ref 0 0)).bind fun z=>(ae z (sl s 0)).bind fun i=>aO (fh [i]) fun c _=>(un .not (sl c 0)).bind fun z=>ifD z (some (.ret [.arr 4 [],B false] [])) (some (.ret [sl s 0,B true] []))) none) fun a b=>some (.ret a b)):=by kernel_rfl
theorem bu (a b c:Int):bW [I a,I b,I c]=some (.ret [B (decide (b≤a∧a≤c))] []):=by
 rw [yX];by_cases h:b≤a<;>simp [h]
theorem bH (a b c:Int):bP [I a,I b,I c]=some (.ret [B (decide (b≤a∧a≤c))] []):=by
 rw [uX];by_cases h:b≤a<;>simp [h]
def dJ {β:Type} (p:β→Bool):Nat→List β→Option Nat
 | _,[]=>none
 | i,x::l=>if p x=true then some i else dJ p (i+1) l
theorem mF {β:Type} {body:List D→Option Out} (l:List β) (st:Nat→List D) (p:β→Bool) (o1:Nat→Out) (o2:Out) (hs:∀(i:Nat) (hi:i<l.length),body (st i)=some (if p l[i]=true then o1 i else .nrm (st (i+1)))) (he:body (st l.length)=some o2)
  (h1:∀i,(o1 i).ends=true) (h2:o2.ends=true) {s0:List D} (h:s0=st 0):bh body s0=some ((dJ p 0 l).elim o2 o1):=by
 have e:∀(m:List β) (i:Nat),goL (fun i x (_:Unit)=>if p x=true then .inr (o1 i) else .inl ()) (fun _=>o2) i m ()=(dJ p i m).elim o2 o1:=by
  intro m;induction m with
  | nil=>intro i;simp [goL,dJ]
  | cons x m ih =>
   intro i;simp only [goL,dJ];by_cases hp:p x=true
   ·simp [hp]
   ·simp [hp,ih]
 rw [←e];refine mE l (fun i _=>st i) (fun _ _=>True) _ _ (fun i x a hx _=>?_) (fun _ _=>⟨he,h2⟩) () trivial h
 have hi:i<l.length:=(HD.1 hx).1;have hxe:l[i]=x:=(HD.1 hx).2;have:=hs i hi;rw [hxe] at this;by_cases hp:p x=true
 ·simpa [hp,h1] using this
 ·simpa [hp] using this
theorem qf {α β:Type} {body:List D→Option Out} (l:List β) (st:Nat→α→List D) (Inv:Nat→α→Prop) (p:Nat→β→Bool) (f:α→β→α) (o1:Out) (fin:α→Out) (a:α) (hs:∀(i:Nat) (a:α) (hi:i<l.length),Inv i a→body (st i a)=some (if p i l[i]=true then .nrm (st (i+1) (f a l[i])) else o1)∧(p i l[i]=true→Inv (i+1) (f a l[i])))
  (he:∀a,Inv l.length a→body (st l.length a)=some (fin a)) (h1:o1.ends=true) (h2:∀a,(fin a).ends=true) (h0:Inv 0 a) {s0:List D} (h:s0=st 0 a):bh body s0=some (if dr p 0 l=true then fin (l.foldl f a) else o1):=by
 have e:∀(m:List β) (i:Nat) (a:α),goL (fun i x (a:α)=>if p i x=true then .inl (f a x) else .inr o1) fin i m a=if dr p i m=true then fin (m.foldl f a) else o1:=by
  intro m;induction m with
  | nil=>intro i a;simp [goL,dr]
  | cons x m ih =>
   intro i a;simp only [goL,dr,List.foldl_cons];by_cases hp:p i x=true
   ·simp [hp,ih]
   ·simp [hp]
 rw [←e];refine mE l st Inv _ _ (fun i x a hx hI=>?_) (fun a hI=>⟨he a hI,h2 a⟩) a h0 h
 have hi:i<l.length:=(HD.1 hx).1;have hxe:l[i]=x:=(HD.1 hx).2;have:=hs i a hi hI;rw [hxe] at this;by_cases hp:p i x=true
 ·simpa [hp] using this
 ·simpa [hp,h1] using this
theorem rU {β:Type} {body:List D→Option Out} {K:Out→Option Out} {R:Option Out→Prop} (l:List β) (st:Nat→Int→List D) (P:β→Prop)
  (hs:∀(i:Nat) (hi:i<l.length) (m:Int),0≤m→m≤1048576→body (st i m)=some (.ret [I (-1)] [])∨∃m',body (st i m)=some (.nrm (st (i+1) m'))∧0≤m'∧m'≤m∧P l[i])
  (he:∀m,body (st l.length m)=some (.ext 0 [I m])) (m0:Int) (h0:0≤m0) (h1:m0≤1048576) {s0:List D} (h:s0=st 0 m0)
  (hk1:R (K (.ret [I (-1)] []))) (hk2:∀m,0≤m→m≤m0→(∀x∈l,P x)→R (K (.ext 0 [I m]))):R ((bh body s0).bind K):=by
 have key:∀(n i:Nat) (m:Int),i+n=l.length→0≤m→m≤m0→(∀(j:Nat) (hj:j<l.length),j<i→P l[j])→∃o,Runs body (st i m) o∧(o = .ret [I (-1)] []∨∃m',o = .ext 0 [I m']∧0≤m'∧m'≤m0∧∀x∈l,P x):=by
  intro n;induction n with
  | zero =>
   intro i m hi g0 g1 hP;have:i=l.length:=by omega
   subst this;refine⟨_,Runs.one (he m) rfl,.inr ⟨m,rfl,g0,g1,fun x hx=>?_⟩⟩
   obtain⟨j,hj,rfl⟩:=List.mem_iff_getElem.1 hx;exact hP j hj hj
  | succ n ih =>
   intro i m hi g0 g1 hP;have hlt:i<l.length:=by omega
   rcases hs i hlt m g0 (by omega) with e | ⟨m',e,k0,k1,kP⟩
   ·exact⟨_,Runs.one e rfl,.inl rfl⟩
   ·obtain⟨o,r1,r2⟩:=ih (i+1) m' (by omega) k0 (by omega) (fun j hj hji=>by
     rcases Nat.lt_or_ge j i with h | h
     ·exact hP j hj h
     ·have:j=i:=by omega
      subst this;exact kP)
    exact⟨o,.nrm e r1,r2⟩
 obtain⟨o,r1,r2⟩:=key l.length 0 m0 (by omega) h0 (Int.le_refl _) (fun _ _ h=>absurd h (by omega));rw [h,r1.loop];rcases r2 with rfl | ⟨m,rfl,g0,g1,gP⟩
 ·exact hk1
 ·exact hk2 m g0 g1 gP
def aw (s:ByteArray):List UInt8:=s.data.toList
theorem iP {s:ByteArray} {k:IntKind} {i:Nat}:pf (T s) (.v (.int k (i:Int)))=((aw s)[i]?).map fun b=>U b.toNat:=by simp [pf,aw]
theorem dG (s:ByteArray):s.size=(aw s).length:=rfl
theorem jZ {a b:ByteArray} {bl:Bool} {eq:List Nat}:bin .geq bl eq (T a) (T b)=some (B (!Ir a.toList b.toList)):=by simp [bin,nQ]
def az (b:UInt8):Bool:=decide (97≤(b.toNat:Int))&&decide ((b.toNat:Int)≤122)
def dO (s:ByteArray) (lo hi:Int):Bool:=dr (fun _ b=>az b) 0 (aw s)&&decide (lo≤(s.size:Int)∧(s.size:Int)≤hi)
theorem ko (s:ByteArray) (n:Int) (h:s.size≤9223372036854775807):dD [T s,I n]=some (.ret [B (dO s 1 n)] []):=by
 rw [qG];rw [dG] at h;refine aT _ (gd (aw s) (fun i=>[T s,I n,I i]) (fun _ b=>az b) (.ret [B false] []) (.ext 0 [T s,I n]) (fun i hi=>?_) ?_ rfl rfl rfl) ?_
 ·have hw:HA.wrap ((i:Int)+1)=(i:Int)+1:=ao (by omega) (by omega)
  by_cases h1:97≤(((aw s)[i]).toNat:Int)
  ·by_cases h2:(((aw s)[i]).toNat:Int)≤122
   ·simp -implicitDefEqProofs [dG,iP,hi,hw,az,h1,h2,Ie.2 h1,Ie.2 h2]
   ·simp -implicitDefEqProofs [dG,iP,hi,hw,az,h1,h2,Ie.2 h1,Io.1 h2]
  ·simp -implicitDefEqProofs [dG,iP,hi,hw,az,h1,Io.1 h1]
 ·simp -implicitDefEqProofs [dG]
 ·by_cases hg:dr (fun _ b=>az b) 0 (aw s)=true<;>simp -implicitDefEqProofs [hg,dO,bu]
theorem jz (s:ByteArray) (m n:Int) (h:s.size≤9223372036854775807):dh [T s,I m,I n]=some (.ret [B (dO s m n)] []):=by
 rw [pO];rw [dG] at h;refine aT _ (gd (aw s) (fun i=>[T s,I m,I n,I i]) (fun _ b=>az b) (.ret [B false] []) (.ext 0 [T s,I m,I n]) (fun i hi=>?_) ?_ rfl rfl rfl) ?_
 ·have hw:HA.wrap ((i:Int)+1)=(i:Int)+1:=ao (by omega) (by omega)
  by_cases h1:97≤(((aw s)[i]).toNat:Int)
  ·by_cases h2:(((aw s)[i]).toNat:Int)≤122
   ·simp -implicitDefEqProofs [dG,iP,hi,hw,az,h1,h2,Ie.2 h1,Ie.2 h2]
   ·simp -implicitDefEqProofs [dG,iP,hi,hw,az,h1,h2,Ie.2 h1,Io.1 h2]
  ·simp -implicitDefEqProofs [dG,iP,hi,hw,az,h1,Io.1 h1]
 ·simp -implicitDefEqProofs [dG]
 ·by_cases hg:dr (fun _ b=>az b) 0 (aw s)=true<;>simp -implicitDefEqProofs [hg,dO,bH]
theorem vK (s:ByteArray) (h:s.size≤9223372036854775807):gM [T s]=some (.ret [B (dO s 1 3)] []):=by
 rw [uw];simp [jz s 1 3 h]
theorem tB (n:Int):eB [I n]=some (.ret [B (decide (0≤n∧n≤9))] []):=by
 rw [uk];simp [bH]
abbrev Bx:=ByteArray × Int × Int × Int
abbrev bx (x:Bx):D:=.agg [T x.1,I x.2.1,I x.2.2.1,I x.2.2.2]
abbrev bxs (l:List Bx):D:=.arr 4 (l.map bx)
theorem De (x:Bx):(bx x).isV=true:=rfl
def lH (l:List Bx):Prop:=l.length≤1048576∧∀x∈l,x.1.size≤1048576
def uO (x:Bx):Bool:=dO x.1 1 3&&decide (0≤x.2.1∧x.2.1≤9)&&decide (0≤x.2.2.1∧x.2.2.1≤9)&&decide (0≤x.2.2.2∧x.2.2.2≤9999)
theorem xh (x:Bx) (h:x.1.size≤1048576):iJ [bx x]=some (.ret [B (uO x)] []):=by
 rw [xU];have e:=ko x.1 3 (by omega);cases h0:dO x.1 1 3<;>rw [h0] at e
 ·simp -implicitDefEqProofs [e,uO,h0]
 ·by_cases h1:0≤x.2.1∧x.2.1≤9<;>by_cases h2:0≤x.2.2.1∧x.2.2.1≤9<;>simp -implicitDefEqProofs [e,bu,uO,h0,h1,h2]
theorem xg (x:Bx) (h:x.1.size≤1048576):iL [bx x]=some (.ret [B (uO x)] []):=by
 rw [xH];have e:=vK x.1 (by omega);cases h0:dO x.1 1 3<;>rw [h0] at e
 ·simp -implicitDefEqProofs [e,uO,h0]
 ·by_cases h1:0≤x.2.1∧x.2.1≤9<;>by_cases h2:0≤x.2.2.1∧x.2.2.1≤9<;>simp -implicitDefEqProofs [e,tB,bH,uO,h0,h1,h2]
def gX (x y:Bx):Bool:=decide (y.2.1=x.2.1)&&decide (y.2.2.1=x.2.2.1)
def pBx (l:List Bx) (i:Nat) (x:Bx):Bool:=uO x && !(decide (0<i) && !Ir (l.getD (i - 1) (ByteArray.empty,0,0,0)).1.toList x.1.toList)&&dr (fun _ y=>!gX x y) 0 (l.take i)
def bI (l:List Bx):Bool:=dr (pBx l) 0 l&&decide (1≤(l.length:Int)∧(l.length:Int)≤32)
theorem zJ {l:List Bx} {i:Nat} (hi:i≤l.length):fa false 4 (bxs l) (I 0) (I (i:Int))=some (bxs (l.take i)):=by
 have:=AM (z:=4) (l:=l.map bx) (k:=.i64) (k':=.i64) (Nat.zero_le i) (by simpa using hi);rw [IB,←HJ] at this;exact this
theorem gU (l:List Bx) (h:lH l):fh [bxs l]=some (.ret [B (bI l)] []):=by
 rw [vP];have hl:=h.1;simp only [cu,HE,HG];refine aT _ (gd l (fun i=>[bxs l,bxs l,I l.length,I i]) (pBx l) (.ret [B false] []) (.ext 0 [bxs l]) (fun i hi=>?_) ?_ rfl rfl rfl) ?_
 ·have hw:HA.wrap ((i:Int)+1)=(i:Int)+1:=ao (by omega) (by omega)
  have eb:=xh l[i] (h.2 _ (HH hi));have ht:=zJ (HO hi);cases h1:uO l[i]
  ·rw [h1] at eb
   simp -implicitDefEqProofs [hi,eb,h1,pBx]
  ·rw [h1] at eb
   by_cases h0:0<i
   ·have hw2:HA.wrap ((i:Int) - 1)=((i - 1:Nat):Int):=by rw [ao (by omega) (by omega)];omega
    have hy:i - 1<l.length:=by omega
    cases h2:Ir l[i - 1].1.toList l[i].1.toList
    ·simp -implicitDefEqProofs [hi,hy,eb,h1,pBx,hw2,h0,h2,jZ]
    ·have hp:pBx l i l[i]=dr (fun _ y=>!gX l[i] y) 0 (l.take i):=by simp [pBx,h1,h0,h2,hy]
     rw [hp];have htl:(l.take i).length≤1048576:=by simp;omega
     simp -implicitDefEqProofs [hi,hy,eb,hw2,h0,h2,jZ,ht,hw,←HJ,-HQ,-HJ];generalize l.take i=t at ht htl;refine aT _ (gd t (fun j=>[bxs l,bx l[i],bxs l,I l.length,I i,bxs t,I t.length,I j]) (fun _ y=>!gX l[i] y) (.ret [B false] []) (.ext 2 [bxs l,bxs l,I l.length,I i]) (fun j hj=>?_) ?_ rfl rfl rfl) ?_
     ·have hwj:HA.wrap ((j:Int)+1)=(j:Int)+1:=ao (by omega) (by omega)
      by_cases c1:t[j].2.1=l[i].2.1<;>by_cases c2:t[j].2.2.1=l[i].2.2.1<;>simp -implicitDefEqProofs [hj,hwj,c1,c2,gX]
     ·simp -implicitDefEqProofs
     ·cases ha:dr (fun _ y=>!gX l[i] y) 0 t<;>simp -implicitDefEqProofs [hw]
   ·have hp:pBx l i l[i]=dr (fun _ y=>!gX l[i] y) 0 (l.take i):=by simp [pBx,h1,h0]
    rw [hp];have htl:(l.take i).length≤1048576:=by simp;omega
    simp -implicitDefEqProofs [hi,eb,h0,jZ,ht,hw,←HJ,-HQ,-HJ];generalize l.take i=t at ht htl;refine aT _ (gd t (fun j=>[bxs l,bx l[i],bxs l,I l.length,I i,bxs t,I t.length,I j]) (fun _ y=>!gX l[i] y) (.ret [B false] []) (.ext 2 [bxs l,bxs l,I l.length,I i]) (fun j hj=>?_) ?_ rfl rfl rfl) ?_
    ·have hwj:HA.wrap ((j:Int)+1)=(j:Int)+1:=ao (by omega) (by omega)
     by_cases c1:t[j].2.1=l[i].2.1<;>by_cases c2:t[j].2.2.1=l[i].2.2.1<;>simp -implicitDefEqProofs [hj,hwj,c1,c2,gX]
    ·simp -implicitDefEqProofs
    ·cases ha:dr (fun _ y=>!gX l[i] y) 0 t<;>simp -implicitDefEqProofs [hw]
 ·simp
 ·by_cases hg:dr (pBx l) 0 l=true<;>simp -implicitDefEqProofs [hg,bI,bu]
theorem tl (t:List Bx) (x:Bx) (h:t.length≤1048576):gm [bxs t,I x.2.1,I x.2.2.1]=some (.ret [B (!dr (fun _ y=>!gX x y) 0 t)] []):=by
 rw [sM];simp only [cu,HE,HG];refine aT _ (gd t (fun j=>[I x.2.1,I x.2.2.1,bxs t,I t.length,I j]) (fun _ y=>!gX x y) (.ret [B true] []) (.ext 0 []) (fun j hj=>?_) ?_ rfl rfl rfl) ?_
 ·have hwj:HA.wrap ((j:Int)+1)=(j:Int)+1:=ao (by omega) (by omega)
  by_cases c1:t[j].2.1=x.2.1<;>by_cases c2:t[j].2.2.1=x.2.2.1<;>simp -implicitDefEqProofs [hj,hwj,c1,c2,gX]
 ·simp -implicitDefEqProofs
 ·cases ha:dr (fun _ y=>!gX x y) 0 t<;>simp -implicitDefEqProofs
theorem dj (l:List Bx) (h:lH l):eh [bxs l]=some (.ret [B (bI l)] []):=by
 rw [uQ];have hl:=h.1;simp only [cu,HE,HG];refine aT _ (gd l (fun i=>[bxs l,bxs l,I l.length,I i]) (pBx l) (.ret [B false] []) (.ext 0 [bxs l]) (fun i hi=>?_) ?_ rfl rfl rfl) ?_
 ·have hw:HA.wrap ((i:Int)+1)=(i:Int)+1:=ao (by omega) (by omega)
  have eb:=xg l[i] (h.2 _ (HH hi));have ht:=zJ (HO hi);have et:=tl (l.take i) l[i] (by simp;omega);cases h1:uO l[i]
  ·rw [h1] at eb
   simp -implicitDefEqProofs [hi,eb,h1,pBx]
  ·rw [h1] at eb
   by_cases h0:0<i
   ·have hw2:HA.wrap ((i:Int) - 1)=((i - 1:Nat):Int):=by rw [ao (by omega) (by omega)];omega
    have hy:i - 1<l.length:=by omega
    cases h2:Ir l[i - 1].1.toList l[i].1.toList
    ·simp -implicitDefEqProofs [hi,hy,eb,h1,pBx,hw2,h0,h2,jZ]
    ·have hp:pBx l i l[i]=dr (fun _ y=>!gX l[i] y) 0 (l.take i):=by simp [pBx,h1,h0,h2,hy]
     rw [hp];cases ha:dr (fun _ y=>!gX l[i] y) 0 (l.take i)<;>rw [ha] at et<;>simp -implicitDefEqProofs [hi,hy,eb,hw2,h0,h2,jZ,ht,hw,et,←HJ,-HJ]
   ·have hp:pBx l i l[i]=dr (fun _ y=>!gX l[i] y) 0 (l.take i):=by simp [pBx,h1,h0]
    rw [hp];cases ha:dr (fun _ y=>!gX l[i] y) 0 (l.take i)<;>rw [ha] at et<;>simp -implicitDefEqProofs [hi,eb,h0,jZ,ht,hw,et,←HJ,-HJ]
 ·simp
 ·by_cases hg:dr (pBx l) 0 l=true<;>simp -implicitDefEqProofs [hg,bI,bH]
def fB (l:List Bx) (c:ByteArray):Int:=(dJ (fun b:Bx=>decide (b.1=c)) 0 l).elim (-1) fun j=>(j:Int)
theorem jD (l:List Bx) (c:ByteArray) (h:l.length≤1048576):fe [bxs l,T c]=some (.ret [I (fB l c)] []):=by
 rw [uJ];simp only [cu,HE,HG];refine aT _ (mF l (fun i=>[T c,bxs l,I l.length,I i]) (fun b:Bx=>decide (b.1=c)) (fun j=>.ret [I j] []) (.ext 0 []) (fun i hi=>?_) ?_ (fun _=>rfl) rfl rfl) ?_
 ·have hw:HA.wrap ((i:Int)+1)=(i:Int)+1:=ao (by omega) (by omega)
  by_cases hc:l[i].1=c<;>simp -implicitDefEqProofs [hi,hw,hc]
 ·simp
 ·unfold fB
  cases dJ (fun b:Bx=>decide (b.1=c)) 0 l<;>simp -implicitDefEqProofs
theorem oW (l:List Bx) (c:ByteArray) (h:l.length≤1048576):fR [bxs l,T c]=some (.ret [I (fB l c)] []):=by
 rw [xe];simp only [cu,HE,HG];refine aT _ (mF l (fun i=>[T c,bxs l,I l.length,I i]) (fun b:Bx=>decide (b.1=c)) (fun j=>.ret [I j] []) (.ext 0 []) (fun i hi=>?_) ?_ (fun _=>rfl) rfl rfl) ?_
 ·have hw:HA.wrap ((i:Int)+1)=(i:Int)+1:=ao (by omega) (by omega)
  by_cases hc:l[i].1=c<;>simp -implicitDefEqProofs [hi,hw,hc]
 ·simp
 ·unfold fB
  cases dJ (fun b:Bx=>decide (b.1=c)) 0 l<;>simp -implicitDefEqProofs
abbrev txs (l:List ByteArray):D:=.arr 1 (l.map T)
def jH (l:List Bx) (cs:List ByteArray):Bool:=dr (fun _ c=>!decide (fB l c<0)) 0 cs
theorem lf (l:List Bx) (cs:List ByteArray) (h:lH l) (hc:cs.length≤1048576):dV [bxs l,txs cs]=some (.ret [B (jH l cs&&bI l&&decide ((cs.length:Int)≤60))] []):=by
 rw [rD];simp only [cu,HE,HG];refine aT _ (gd cs (fun i=>[bxs l,txs cs,txs cs,I cs.length,I i]) (fun _ c=>!decide (fB l c<0)) (.ret [B false] []) (.ext 0 [bxs l,txs cs]) (fun i hi=>?_) ?_ rfl rfl rfl) ?_
 ·have hw:HA.wrap ((i:Int)+1)=(i:Int)+1:=ao (by omega) (by omega)
  have eb:=oW l cs[i] h.1;by_cases hb:fB l cs[i]<0<;>simp -implicitDefEqProofs [hi,hw,eb,hb]
 ·simp
 ·cases ha:dr (fun _ c=>!decide (fB l c<0)) 0 cs
  ·simp -implicitDefEqProofs [jH,ha]
  ·cases hg:bI l<;>simp -implicitDefEqProofs [jH,ha,dj l h,hg]
abbrev Fm:=Int × List ByteArray × Bool × Int
abbrev fm (x:Fm):D:=.agg [I x.1,txs x.2.1,B x.2.2.1,I x.2.2.2]
abbrev fms (l:List Fm):D:=.arr 4 (l.map fm)
def Az (l:List Fm):Prop:=l.length≤1048576∧∀x∈l,x.2.1.length≤1048576
def fE (l:List Bx) (x:Fm):Bool:=decide (1≤x.1∧x.1≤99) && !decide (40<(x.2.1.length:Int))&&decide (0≤x.2.2.2∧x.2.2.2≤100000) && !(x.2.2.1&&decide ((x.2.1.length:Int)=0))&&jH l x.2.1
theorem sJ (l:List Bx) (x:Fm) (h:l.length≤1048576) (hx:x.2.1.length≤1048576):fT [bxs l,fm x]=some (.ret [B (fE l x)] []):=by
 rw [up];by_cases h1:1≤x.1∧x.1≤99
 case neg=>simp -implicitDefEqProofs [bu,fE,h1]
 by_cases h2:40<(x.2.1.length:Int)
 case pos=>simp -implicitDefEqProofs [bu,fE,h1,h2]
 by_cases h3:0≤x.2.2.2∧x.2.2.2≤100000
 case neg=>simp -implicitDefEqProofs [bu,fE,h1,h2,h3]
 have main:∀(body:List D→Option Out) (K:Out→Option Out) (r:Option Out),(∀(i:Nat) (hi:i<x.2.1.length),body [bxs l,txs x.2.1,I x.2.1.length,I i]=some (if (!decide (fB l x.2.1[i]<0))=true then .nrm [bxs l,txs x.2.1,I x.2.1.length,I (i+1:Nat)] else .ret [B false] [])) →
   body [bxs l,txs x.2.1,I x.2.1.length,I x.2.1.length]=some (.ext 0 [])→K (if jH l x.2.1=true then .ext 0 [] else .ret [B false] [])=r→(bh body [bxs l,txs x.2.1,I x.2.1.length,I 0]).bind K=r:=fun body K r g1 g2 g3 =>
  aT _ (gd x.2.1 (fun i=>[bxs l,txs x.2.1,I x.2.1.length,I i]) (fun _ c=>!decide (fB l c<0)) (.ret [B false] []) (.ext 0 []) g1 g2 rfl rfl rfl) g3
 cases h4:x.2.2.1
 ·simp -implicitDefEqProofs [bu,fE,h1,h2,h3,h4]
  refine main _ _ _ (fun i hi=>?_) ?_ ?_
  ·have hw:HA.wrap ((i:Int)+1)=(i:Int)+1:=ao (by omega) (by omega)
   have eb:=jD l x.2.1[i] h;by_cases hb:fB l x.2.1[i]<0<;>simp -implicitDefEqProofs [hi,hw,eb,hb]
  ·simp
  ·cases jH l x.2.1<;>simp -implicitDefEqProofs
 ·by_cases h5:(x.2.1.length:Int)=0
  ·have h5':x.2.1=[]:=Ig (by omega)
   simp -implicitDefEqProofs [bu,fE,h1,h3,h4,h5']
  ·have h5':¬x.2.1=[]:=fun e=>h5 (by simp [e])
   simp -implicitDefEqProofs [bu,fE,h1,h2,h3,h4,h5,h5'];refine main _ _ _ (fun i hi=>?_) ?_ ?_
   ·have hw:HA.wrap ((i:Int)+1)=(i:Int)+1:=ao (by omega) (by omega)
    have eb:=jD l x.2.1[i] h;by_cases hb:fB l x.2.1[i]<0<;>simp -implicitDefEqProofs [hi,hw,eb,hb]
   ·simp
   ·cases jH l x.2.1<;>simp -implicitDefEqProofs
theorem aR (a:Int):dC [I a]=some (.ret [B (decide (1≤a∧a≤99))] []):=by
 rw [qa];simp [bH]
theorem lM (l:List Bx) (x:Fm) (h:lH l) (hx:x.2.1.length≤1048576):gc [bxs l,fm x]=some (.ret [B (fE l x&&bI l)] []):=by
 rw [tE];have ec:=lf l x.2.1 h hx;by_cases h1:1≤x.1∧x.1≤99
 case neg=>simp -implicitDefEqProofs [aR,fE,h1]
 cases ha:jH l x.2.1
 ·simp -implicitDefEqProofs [aR,fE,h1,ec,ha]
 cases hg:bI l
 ·simp -implicitDefEqProofs [aR,fE,h1,ec,ha,hg]
 by_cases h60:(x.2.1.length:Int)≤60
 case neg =>
  have h40:40<(x.2.1.length:Int):=by omega
  simp -implicitDefEqProofs [aR,fE,h1,ec,ha,hg,h60,h40]
 by_cases h2:40<(x.2.1.length:Int)
 case pos=>simp -implicitDefEqProofs [aR,fE,h1,ec,ha,hg,h60,h2,Io.2 h2]
 have h2':(x.2.1.length:Int)≤40:=by omega
 by_cases h3:0≤x.2.2.2∧x.2.2.2≤100000
 case neg=>simp -implicitDefEqProofs [aR,bH,fE,h1,ec,ha,hg,h60,h2,h2',h3]
 cases h4:x.2.2.1
 ·simp -implicitDefEqProofs [aR,bH,fE,h1,ec,ha,hg,h60,h2,h2',h3,h4]
 ·by_cases h5:(x.2.1.length:Int)=0
  ·have h5':x.2.1=[]:=Ig (by omega)
   rw [h5'] at ec ha;simp -implicitDefEqProofs [aR,bH,fE,h1,ec,ha,hg,h3,h4,h5']
  ·have h5':¬x.2.1=[]:=fun e=>h5 (by simp [e])
   have h6:0<(x.2.1.length:Int):=by omega
   have h6':0<x.2.1.length:=by omega
   simp -implicitDefEqProofs [aR,bH,fE,h1,ec,ha,hg,h60,h2,h2',h3,h4,h5,h5',h6,h6']
abbrev Sp:=List Bx × List Fm × Int × Int
abbrev sp (s:Sp):D:=.agg [bxs s.1,fms s.2.1,I s.2.2.1,I s.2.2.2]
def cK (s:Sp):Prop:=lH s.1∧Az s.2.1
def Cg (s:Sp):Prop:=(s.1.length≤9223372036854775807∧∀x∈s.1,x.1.size≤9223372036854775807)∧s.2.1.length≤9223372036854775807∧∀x∈s.2.1,x.2.1.length≤9223372036854775807∧∀c∈x.2.1,c.size≤9223372036854775807
def pS (s:Sp) (i:Nat) (x:Fm):Bool:=fE s.1 x && !(decide (0<i)&&decide (x.1≤(s.2.1.getD (i - 1) (0,[],false,0)).1))
def pQ (l:List Fm):Int:=l.foldl (fun a x=>a+x.2.2.2) 0
def aW (s:Sp):Bool:=dr (pS s) 0 s.2.1&&bI s.1&&decide ((s.2.1.length:Int)≤5)&&decide (0≤s.2.2.1∧s.2.2.1≤9999)&&decide (pQ s.2.1≤s.2.2.2∧s.2.2.2≤1000000)
theorem bL {l:List Bx} {x:Fm} (h:fE l x=true):0≤x.2.2.2∧x.2.2.2≤100000:=by
 simp only [fE,HU,decide_eq_true_eq] at h;exact h.1.1.2
theorem vd (s:Sp) (h:cK s):jL [sp s]=some (.ret [B (aW s)] []):=by
 rw [vu];have hl:=h.2.1;have hb:=h.1.1;simp -implicitDefEqProofs;refine aT _ (qf s.2.1 (fun i a=>[sp s,I a,fms s.2.1,I s.2.1.length,I i]) (fun i a=>0≤a∧a≤100000*(i:Int)) (pS s) (fun a x=>a+x.2.2.2) (.ret [B false] []) (fun a=>.ext 0 [sp s,I a]) 0 (fun i a hi hI=>?_) (fun a _=>?_) rfl (fun _=>rfl) (by simp) rfl) ?_
 ·have hw:HA.wrap ((i:Int)+1)=(i:Int)+1:=ao (by omega) (by omega)
  have ef:=sJ s.1 s.2.1[i] hb (h.2.2 _ (HH hi));cases h1:fE s.1 s.2.1[i]
  ·rw [h1] at ef
   exact⟨by simp -implicitDefEqProofs [hi,ef,h1,pS],fun hc=>by simp [pS,h1] at hc⟩
  ·rw [h1] at ef
   have hpr:=bL h1;have hwa:HA.wrap (a+s.2.1[i].2.2.2)=a+s.2.1[i].2.2.2:=ao (by omega) (by omega);refine⟨?_,fun _=>by omega⟩
   by_cases h0:0<i
   ·have hw2:HA.wrap ((i:Int) - 1)=((i - 1:Nat):Int):=by rw [ao (by omega) (by omega)];omega
    have hy:i - 1<s.2.1.length:=by omega
    by_cases h2:s.2.1[i].1≤s.2.1[i - 1].1<;>simp -implicitDefEqProofs [hi,hy,ef,h1,pS,hw,hw2,hwa,h0,h2]
   ·simp -implicitDefEqProofs [hi,ef,h1,pS,hw,hwa,h0]
 ·simp -implicitDefEqProofs
 ·unfold aW pQ
  cases ha:dr (pS s) 0 s.2.1
  ·simp -implicitDefEqProofs
  generalize List.foldl (fun a (x:Fm)=>a+x.2.2.2) 0 s.2.1=S;cases hg:bI s.1
  ·simp -implicitDefEqProofs [gU s.1 h.1,hg]
  by_cases h5:s.2.1.length≤5
  case neg=>simp -implicitDefEqProofs [gU s.1 h.1,hg,h5,show ¬(s.2.1.length:Int)≤5 by omega]
  have h5':(s.2.1.length:Int)≤5:=by omega
  by_cases h6:0≤s.2.2.1∧s.2.2.1≤9999<;>simp -implicitDefEqProofs [gU s.1 h.1,bu,hg,h5,h5',h6]
theorem uT (s:Sp) (h:cK s):jC [sp s]=some (.ret [B (aW s)] []):=by
 rw [vE];have hl:=h.2.1;have hb:=h.1.1;simp -implicitDefEqProofs;cases hg:bI s.1
 ·refine aT _ (qf s.2.1 (fun i a=>[sp s,I a,fms s.2.1,I s.2.1.length,I i]) (fun i a=>True) (fun _ _=>false) (fun a x=>a+x.2.2.2) (.ret [B false] []) (fun a=>.ext 0 [sp s,I a]) 0 (fun i a hi hI=>⟨?_,fun _=>trivial⟩) (fun a _=>?_) rfl (fun _=>rfl) trivial rfl) ?_
  ·have ef:=lM s.1 s.2.1[i] h.1 (h.2.2 _ (HH hi))
   rw [hg,Bool.and_false] at ef;simp -implicitDefEqProofs [hi,ef]
  ·simp -implicitDefEqProofs
  ·cases dr (fun _ (_:Fm)=>false) 0 s.2.1<;>simp -implicitDefEqProofs [aW,hg,dj s.1 h.1]
 refine aT _ (qf s.2.1 (fun i a=>[sp s,I a,fms s.2.1,I s.2.1.length,I i]) (fun i a=>0≤a∧a≤100000*(i:Int)) (pS s) (fun a x=>a+x.2.2.2) (.ret [B false] []) (fun a=>.ext 0 [sp s,I a]) 0 (fun i a hi hI=>?_) (fun a _=>?_) rfl (fun _=>rfl) (by simp) rfl) ?_
 ·have hw:HA.wrap ((i:Int)+1)=(i:Int)+1:=ao (by omega) (by omega)
  have ef:=lM s.1 s.2.1[i] h.1 (h.2.2 _ (HH hi));rw [hg,Bool.and_true] at ef;cases h1:fE s.1 s.2.1[i]
  ·rw [h1] at ef
   exact⟨by simp -implicitDefEqProofs [hi,ef,h1,pS],fun hc=>by simp [pS,h1] at hc⟩
  ·rw [h1] at ef
   have hpr:=bL h1;have hwa:HA.wrap (a+s.2.1[i].2.2.2)=a+s.2.1[i].2.2.2:=ao (by omega) (by omega);refine⟨?_,fun _=>by omega⟩
   by_cases h0:0<i
   ·have hw2:HA.wrap ((i:Int) - 1)=((i - 1:Nat):Int):=by rw [ao (by omega) (by omega)];omega
    have hy:i - 1<s.2.1.length:=by omega
    by_cases h2:s.2.1[i].1≤s.2.1[i - 1].1<;>simp -implicitDefEqProofs [hi,hy,ef,h1,pS,hw,hw2,hwa,h0,h2]
   ·simp -implicitDefEqProofs [hi,ef,h1,pS,hw,hwa,h0]
 ·simp -implicitDefEqProofs
 ·unfold aW
  cases ha:dr (pS s) 0 s.2.1
  ·simp -implicitDefEqProofs
  have hS:0≤pQ s.2.1:=by
   have key:∀(l:List Fm) (i:Nat) (a:Int),0≤a→dr (pS s) i l=true→0≤l.foldl (fun a x=>a+x.2.2.2) a:=by
    intro l;induction l with
    | nil=>intro i a ha _;exact ha
    | cons x l ih =>
     intro i a h0 hp;simp only [dr,HU] at hp;have:=bL (l:=s.1) (x:=x) (by
      have:=hp.1;simp only [pS,HU] at this;exact this.1)
     exact ih (i+1) _ (show(0:Int)≤a+x.2.2.2 by omega) hp.2
   exact key s.2.1 0 0 (by omega) ha
  unfold pQ at hS ⊢;generalize List.foldl (fun a (x:Fm)=>a+x.2.2.2) 0 s.2.1=S at hS;by_cases h5:s.2.1.length≤5
  case neg=>simp -implicitDefEqProofs [dj s.1 h.1,hg,h5,show ¬(s.2.1.length:Int)≤5 by omega]
  have h5':(s.2.1.length:Int)≤5:=by omega
  by_cases h6:0≤s.2.2.1∧s.2.2.1≤9999
  case neg=>simp -implicitDefEqProofs [dj s.1 h.1,bH,hg,h5,h5',h6]
  by_cases h7:0≤s.2.2.2∧s.2.2.2≤1000000
  case neg =>
   have h8:¬(S≤s.2.2.2∧s.2.2.2≤1000000):=by omega
   simp -implicitDefEqProofs [dj s.1 h.1,bH,hg,h5,h5',h6,h7,h8]
  by_cases h8:S≤s.2.2.2<;>simp -implicitDefEqProofs [dj s.1 h.1,bH,hg,h5,h5',h6,h7,h8]
theorem wX (x:Bx):iK [bx x,bx x]=some (.ret [B true] []):=by
 rw [xy];simp -implicitDefEqProofs
theorem uC (l:List Bx) (h:l.length≤1048577):gV [bxs l,bxs l]=some (.ret [B true] []):=by
 rw [uE];simp only [cu,HE,HG,oF,decide_true,Ia,wm,HS,if_false];refine aT _ (cH l.length (fun i=>[bxs l,bxs l,I i]) (.ext 0 []) (fun i hi=>?_) ?_ rfl rfl) ?_
 ·have hw:HA.wrap ((i:Int)+1)=(i:Int)+1:=ao (by omega) (by omega)
  simp -implicitDefEqProofs [hi,wX,hw]
 ·simp
 ·simp
theorem qd (l:List ByteArray) (h:l.length≤1048577):eV [txs l,txs l]=some (.ret [B true] []):=by
 rw [qw];simp only [cu,HE,HG,oF,decide_true,Ia,wm,HS,if_false];refine aT _ (cH l.length (fun i=>[txs l,txs l,I i]) (.ext 0 []) (fun i hi=>?_) ?_ rfl rfl) ?_
 ·have hw:HA.wrap ((i:Int)+1)=(i:Int)+1:=ao (by omega) (by omega)
  simp -implicitDefEqProofs [hi,hw]
 ·simp
 ·simp
theorem tK (x:Fm) (h:x.2.1.length≤1048577):fX [fm x,fm x]=some (.ret [B true] []):=by
 rw [sT];simp -implicitDefEqProofs [qd x.2.1 h]
theorem rf (l:List Fm) (h:Az l):fr [fms l,fms l]=some (.ret [B true] []):=by
 rw [rc];have hl:=h.1;simp only [cu,HE,HG,oF,decide_true,Ia,wm,HS,if_false];refine aT _ (cH l.length (fun i=>[fms l,fms l,I i]) (.ext 0 []) (fun i hi=>?_) ?_ rfl rfl) ?_
 ·have hw:HA.wrap ((i:Int)+1)=(i:Int)+1:=ao (by omega) (by omega)
  have ef:=tK l[i] (Nat.le_trans (h.2 _ (HH hi)) (by omega));simp -implicitDefEqProofs [hi,ef,hw]
 ·simp
 ·simp
theorem vy (s:Sp) (h:cK s):jG [sp s,sp s]=some (.ret [B true] []):=by
 rw [uL];have:=h.1.1;simp -implicitDefEqProofs [uC s.1 (by omega),rf s.2.1 h.2]
theorem xN (x:Bx):iM [bx x]=some (.ret [bx x] []):=by
 rw [xo];simp -implicitDefEqProofs
theorem uW (l:List Bx) (h:l.length≤1048576):jP [bxs l]=some (.ret [bxs l] []):=by
 rw [uy];have h1:l.length*40≤140737488355328:=by omega
 have h2:l.length≤140737488355328:=by omega
 simp only [cu,HE,HG,yZ,Ii,h1,h2,and_self,if_true];rw [sw (f:=bx) (l:=l)];refine aT (.ext 0 [bxs l]) (cH l.length (fun i=>[bxs l,.arr 4 (jl bx (bx (⟨#[]⟩,0,0,0)) l i),I i]) _ (fun i hi=>?_) ?_ rfl rfl) ?_
 ·have hx:=HN hi
  have hg:=wC (f:=bx) (z:=bx (⟨#[]⟩,0,0,0)) hi;have hs:=wG (f:=bx) (z:=bx (⟨#[]⟩,0,0,0)) hx;have hw:HA.wrap ((i:Int)+1)=(i:Int)+1:=ao (by omega) (by omega);simp -implicitDefEqProofs [hi,xN,HO hi,Fo hg,hs,hw]
 ·simp [ue]
 ·simp
theorem qr (l:List ByteArray) (h:l.length≤1048576):gG [txs l]=some (.ret [txs l] []):=by
 rw [qx];have h1:l.length*16≤140737488355328:=by omega
 have h2:l.length≤140737488355328:=by omega
 simp only [cu,HE,HG,yZ,Ii,h1,h2,and_self,if_true];rw [sw (f:=T) (l:=l)];refine aT (.ext 0 [txs l]) (cH l.length (fun i=>[txs l,.arr 1 (jl T (T ⟨#[]⟩) l i),I i]) _ (fun i hi=>?_) ?_ rfl rfl) ?_
 ·have hx:=HN hi
  have hg:=wC (f:=T) (z:=T ⟨#[]⟩) hi;have hs:=wG (f:=T) (z:=T ⟨#[]⟩) hx;have hw:HA.wrap ((i:Int)+1)=(i:Int)+1:=ao (by omega) (by omega);simp -implicitDefEqProofs [hi,HO hi,zw hg,hs,hw]
 ·simp [ue]
 ·simp
theorem xJ (x:Bx) (n:Int) (h:x.1.size≤9223372036854775807) (h0:0≤n) (h1:n≤1048576):∃m,iE [bx x,I n]=some (.ret [I m] [])∧m≤n∧(0≤m→x.1.size≤1048576):=by
 rw [xG];have hw:HA.wrap (n - x.1.size)=n - x.1.size:=ao (by omega) (by omega);by_cases hn:n - (x.1.size:Int)<0
 ·exact⟨-1,by simp -implicitDefEqProofs [hw,hn],by omega,by omega⟩
 ·exact⟨n - x.1.size,by simp -implicitDefEqProofs [hw,hn],by omega,by omega⟩
theorem mW (l:List Bx) (n:Int) (h:l.length≤9223372036854775807∧∀x∈l,x.1.size≤9223372036854775807) (h0:0≤n) (h1:n≤1048576):∃m,gT [bxs l,I n]=some (.ret [I m] [])∧m≤n∧(0≤m→lH l):=by
 have hl:=h.1;rw [vR];have hw:HA.wrap (n - l.length)=n - l.length:=ao (by omega) (by omega);by_cases hn:n - (l.length:Int)<0
 ·exact⟨-1,by simp -implicitDefEqProofs [hw,hn],by omega,by omega⟩
 simp -implicitDefEqProofs [hw,hn];refine rU (R:=fun X=>∃m,X=some (.ret [I m] [])∧m≤n∧(0≤m→lH l)) l (fun i m=>[bxs l,I m,I i]) (fun x=>x.1.size≤1048576) (fun i hi m g0 g1=>?_) (fun m=>?_) (n - l.length) (by omega) (by omega) rfl ?_ (fun m g0 g1 gP=>?_)
 ·have hwi:HA.wrap ((i:Int)+1)=(i:Int)+1:=ao (by omega) (by omega)
  obtain⟨m',e,k1,k2⟩:=xJ l[i] m (h.2 _ (HH hi)) g0 g1;by_cases hm:m'<0
  ·exact .inl (by simp -implicitDefEqProofs [hi,e,hm])
  ·exact .inr ⟨m',by simp -implicitDefEqProofs [hi,e,hm,hwi],by omega,k1,k2 (by omega)⟩
 ·simp -implicitDefEqProofs
 ·exact⟨-1,by simp -implicitDefEqProofs,by omega,by omega⟩
 ·exact⟨m,by simp -implicitDefEqProofs,by omega,fun _=>⟨by omega,gP⟩⟩
theorem qA (l:List ByteArray) (n:Int) (h:l.length≤9223372036854775807∧∀x∈l,x.size≤9223372036854775807) (h0:0≤n) (h1:n≤1048576):∃m,dB [txs l,I n]=some (.ret [I m] [])∧m≤n∧(0≤m→l.length≤1048576):=by
 have hl:=h.1;rw [kl];have hw:HA.wrap (n - l.length)=n - l.length:=ao (by omega) (by omega);by_cases hn:n - (l.length:Int)<0
 ·exact⟨-1,by simp -implicitDefEqProofs [hw,hn],by omega,by omega⟩
 simp -implicitDefEqProofs [hw,hn];refine rU (R:=fun X=>∃m,X=some (.ret [I m] [])∧m≤n∧(0≤m→l.length≤1048576)) l (fun i m=>[txs l,I m,I i]) (fun _=>True) (fun i hi m g0 g1=>?_) (fun m=>?_) (n - l.length) (by omega) (by omega) rfl ?_ (fun m g0 g1 gP=>?_)
 ·have hwi:HA.wrap ((i:Int)+1)=(i:Int)+1:=ao (by omega) (by omega)
  have hs:=h.2 l[i] (HH hi);have hwm:HA.wrap (m - l[i].size)=m - l[i].size:=ao (by omega) (by omega);by_cases hm:m - (l[i].size:Int)<0
  ·exact .inl (by simp -implicitDefEqProofs [hi,hwm,hm])
  ·exact .inr ⟨m - l[i].size,by simp -implicitDefEqProofs [hi,hwm,hm,hwi],by omega,by omega,trivial⟩
 ·simp -implicitDefEqProofs
 ·exact⟨-1,by simp -implicitDefEqProofs,by omega,by omega⟩
 ·exact⟨m,by simp -implicitDefEqProofs,by omega,fun _=>by omega⟩
theorem tG (x:Fm) (n:Int) (h:x.2.1.length≤9223372036854775807∧∀c∈x.2.1,c.size≤9223372036854775807) (h0:0≤n) (h1:n≤1048576):∃m,eE [fm x,I n]=some (.ret [I m] [])∧m≤n∧(0≤m→x.2.1.length≤1048576):=by
 rw [lS];obtain⟨m,e,k1,k2⟩:=qA x.2.1 n h h0 h1;by_cases hm:m<0
 ·exact⟨-1,by simp -implicitDefEqProofs [e,hm],by omega,by omega⟩
 ·exact⟨m,by simp -implicitDefEqProofs [e,hm],k1,k2⟩
theorem rA (l:List Fm) (n:Int) (h:l.length≤9223372036854775807∧∀x∈l,x.2.1.length≤9223372036854775807∧∀c∈x.2.1,c.size≤9223372036854775807) (h0:0≤n) (h1:n≤1048576):∃m,dU [fms l,I n]=some (.ret [I m] [])∧m≤n∧(0≤m→Az l):=by
 have hl:=h.1;rw [kZ];have hw:HA.wrap (n - l.length)=n - l.length:=ao (by omega) (by omega);by_cases hn:n - (l.length:Int)<0
 ·exact⟨-1,by simp -implicitDefEqProofs [hw,hn],by omega,by omega⟩
 simp -implicitDefEqProofs [hw,hn];refine rU (R:=fun X=>∃m,X=some (.ret [I m] [])∧m≤n∧(0≤m→Az l)) l (fun i m=>[fms l,I m,I i]) (fun x=>x.2.1.length≤1048576) (fun i hi m g0 g1=>?_) (fun m=>?_) (n - l.length) (by omega) (by omega) rfl ?_ (fun m g0 g1 gP=>?_)
 ·have hwi:HA.wrap ((i:Int)+1)=(i:Int)+1:=ao (by omega) (by omega)
  obtain⟨m',e,k1,k2⟩:=tG l[i] m (h.2 _ (HH hi)) g0 g1;by_cases hm:m'<0
  ·exact .inl (by simp -implicitDefEqProofs [hi,e,hm])
  ·exact .inr ⟨m',by simp -implicitDefEqProofs [hi,e,hm,hwi],by omega,k1,k2 (by omega)⟩
 ·simp -implicitDefEqProofs
 ·exact⟨-1,by simp -implicitDefEqProofs,by omega,by omega⟩
 ·exact⟨m,by simp -implicitDefEqProofs,by omega,fun _=>⟨by omega,gP⟩⟩
theorem vC (s:Sp) (h:Cg s):∃m,fb [sp s,I 1048576]=some (.ret [I m] [])∧m≤1048576∧(0≤m→cK s):=by
 rw [mP];obtain⟨m1,e1,k1,k2⟩:=mW s.1 1048576 h.1 (by omega) (by omega);by_cases h1:m1<0
 ·exact⟨-1,by simp -implicitDefEqProofs [e1,h1],by omega,by omega⟩
 obtain⟨m2,e2,g1,g2⟩:=rA s.2.1 m1 h.2 (by omega) k1;by_cases h2:m2<0
 ·exact⟨-1,by simp -implicitDefEqProofs [e1,h1,e2,h2],by omega,by omega⟩
 ·exact⟨m2,by simp -implicitDefEqProofs [e1,h1,e2,h2],by omega,fun h=>⟨k2 (by omega),g2 h⟩⟩
open Go Go.Proofs Go.V Go.RowKit
def dn (x:Fm) (y:Value):List Value:=[.int .i64 x.1,y,.bool x.2.2.1,.int .i64 x.2.2.2]
def aV:List Fm→List Value→List Value
 | x::l,y::ys=>dn x y++aV l ys
 | _,_=>[]
theorem bD:∀(l:List Fm) (ys:List Value),ys.length=l.length→(aV l ys).length=l.length*4
 | [],[],_=>rfl
 | x::l,y::ys,h=>by
  simp only [aV,List.length_append,bD l ys (by simpa using h),dn,IM,IQ];omega
 | [],_::_,h=>by simp at h
 | _::_,[],h=>by simp at h
theorem aE:∀(l:List Fm) (ys:List Value) (i:Nat) (x:Fm) (y:Value),l[i]?=some x→ys[i]?=some y→∀f,f<4→(aV l ys)[i*4+f]?=(dn x y)[f]?
 | a::l,b::ys,0,x,y,h1,h2,f,hf=>by
  simp only [HY,HT] at h1 h2;subst h1 h2;simp only [aV];rw [Nat.zero_mul,Ip,List.getElem?_append_left (by simpa [dn] using hf)]
 | a::l,b::ys,i+1,x,y,h1,h2,f,hf=>by
  simp only [HR] at h1 h2;simp only [aV];rw [show(i+1)*4+f=4+(i*4+f) by omega,HK (by simp [dn])];simp only [dn,IM,IQ];rw [show 4+(i*4+f) - (0+1+1+1+1)=i*4+f by omega];exact aE l ys i x y h1 h2 f hf
 | [],_,_,_,_,h1,_,_,_=>by simp at h1
 | _::_,[],_,_,_,_,h2,_,_=>by simp at h2
theorem wg:∀(l:List Fm) (ys:List Value) (i:Nat) (x x':Fm) (y:Value),l[i]?=some x→ys[i]?=some y→aV (l.set i x') ys=(((aV l ys).set (i*4) (.int .i64 x'.1)).set (i*4+2) (.bool x'.2.2.1)).set (i*4+3) (.int .i64 x'.2.2.2)
 | a::l,b::ys,0,x,x',y,h1,h2=>by
  simp [aV,dn]
 | a::l,b::ys,i+1,x,x',y,h1,h2=>by
  simp only [HR] at h1 h2;have ih:=wg l ys i x x' y h1 h2;simp only [aV,IH,dn,Ib,Iw];rw [ih];have e0:(i+1)*4=i*4+4:=by omega
  simp [e0,Nat.add_assoc,IH]
 | [],_,_,_,_,_,h1,_=>by simp at h1
 | _::_,[],_,_,_,_,_,h2=>by simp at h2
theorem bN {w:World} {base e size n:Nat} {v:Value} {xs:List Value} (h:w.ownsRow base e size v n xs) {g cap:Nat} (hv:v = .slice (some ⟨g,0,none⟩) n cap) (j:Nat) (u:Value):(w.setCell ⟨g,j,none⟩ u).ownsRow base e size v n (xs.set j u):=by
 obtain⟨h1,⟨hn,_⟩ | ⟨g',cap',cur,hg',h2,h3,h4,h5,h6,h7⟩⟩:=h
 ·rw [hn] at hv
  cases hv
 ·have e1:=hg'.symm.trans hv
  simp only [IK,HT,Addr.mk.injEq,and_true,true_and] at e1;obtain⟨rfl,rfl⟩:=e1;refine⟨by rw [List.length_set];exact h1,.inr ⟨g',cap',cur.setIfInBounds j u,hg',h2,heap_setCell_same _ _ _ _ _ _ h3,h4,h5,by rw [Array.size_setIfInBounds];exact h6,?_⟩⟩
  rw [Array.toList_setIfInBounds,List.take_set,h7]
structure FmsAt (w:World) (B:Nat) (V:Value) (ys:List Value) (l:List Fm):Prop where
 len:ys.length=l.length
 own:w.ownsRow B 75 4 V l.length (aV l ys)
 row:∀(i:Nat) (x:Fm) (y:Value),l[i]?=some x→ys[i]?=some y→bf w (fun _=>False) (fun b=>y.ownBlock=some b) 1 (txs x.2.1) y
 blk:∀(i:Nat) (y:Value) (b:Nat),ys[i]?=some y→y.ownBlock=some b→B≤b∧V.ownBlock≠some b
 dis:∀(i j:Nat) (y z:Value),i≠j→ys[i]?=some y→ys[j]?=some z→y.ownBlock=none∨y.ownBlock≠z.ownBlock
end Go.Proofs.Ytkcojipciiakdaa

namespace Go.Proofs.Ytkcojipciiakdaa
open Go Go.V
theorem GD {l:List Fm} {i:Nat} (h:i<l.length):bj 4 (fms l) (I (i:Int))=some [I l[i].1,txs l[i].2.1,B l[i].2.2.1,I l[i].2.2.2]:=by
 rw [Cf (by omega)];simp [h,D.cells]
theorem wR {a b:ByteArray} (h:a.size+b.size≤1000000000000):bin .add false [] (T a) (T b)=some (T (a++b)):=by
 rw [ED,if_pos (by omega)]
theorem Hd (k:Int):bin .rem false [] (I k) (I 10)=some (I (k.tmod 10)):=by simp [bin,eH]
theorem GL (k:Int):bin .quo false [] (I k) (I 10)=some (I (HA.wrap (k.tdiv 10))):=by simp [bin,eH]
theorem FI (n:Int):wD (some .u8) false (I n)=some (U (HV.wrap n)):=by simp [wD]
theorem Gf (n:Int):dA 1 [U n]=some (.arr 1 [U n]):=by simp [dA,nV]
theorem Gx (n:Int):xu (.arr 1 [U n])=some (T ⟨#[Iy n.toNat]⟩):=by simp [xu,kH]
theorem wh (k:Int) (h1:0<k) (h2:k≤100000000000):∃s,cn [I k]=some (.ret [T s] []):=by
 rw [rq];have hk:¬k≤0:=by omega
 simp -implicitDefEqProofs only [FQ,It,Iu,Iv,hk];refine kB (fun r=>∃s,r=some (.ret [T s] [])) (fun a:Int × ByteArray=>[I a.1,T a.2]) (fun a=>0≤a.1∧a.1≤100000000000∧(a.2.size:Int)+a.1≤100000000000) (fun a=>a.1.toNat)
  (fun o=>∃s:ByteArray,o = .ext 0 [T s]∧s.size≤100000000000) (fun a ha=>?_) (k,⟨⟨[]⟩⟩) ⟨by omega,h2,by show(0:Int)+k≤_;omega⟩ rfl (fun o ho=>?_)
 ·obtain⟨n,out⟩:=a
  obtain⟨a1,a2,a3⟩:=ha;simp only at a1 a2 a3;by_cases hn:0<n
  ·left
   have ed:n.tdiv 10=n / 10:=Int.tdiv_eq_ediv_of_nonneg a1;have em:n.tmod 10=n % 10:=Int.tmod_eq_emod_of_nonneg a1;have w1:HA.wrap (n.tdiv 10)=n / 10:=by rw [ed,ao (by omega) (by omega)]
   have w2:HA.wrap (48+n.tmod 10)=48+n % 10:=by rw [em,ao (by omega) (by omega)]
   have hsz:(ByteArray.mk #[Iy (HV.wrap (48+n % 10)).toNat]).size=1:=rfl;have ha:=wR (a:=⟨#[Iy (HV.wrap (48+n % 10)).toNat]⟩) (b:=out) (by rw [hsz];omega);refine⟨(n / 10,⟨#[Iy (HV.wrap (48+n % 10)).toNat]⟩++out),?_,⟨by show 0≤n / 10;omega,by show n / 10≤_;omega,?_⟩,?_⟩
   ·simp -implicitDefEqProofs only [FQ,It,Iu,Iv,hn,Hd,w2,FI,Gf,Gx,ha,GL,w1]
   ·show((_++out:ByteArray).size:Int)+n / 10≤_
    rw [ByteArray.size_append,hsz];omega
   ·show(n / 10).toNat<n.toNat
    omega
  ·right
   exact⟨.ext 0 [T out],by simp -implicitDefEqProofs only [FQ,It,Iu,Iv,hn],rfl,out,rfl,by omega⟩
 ·obtain⟨s,rfl,hs⟩:=ho
  have ha:=wR (a:=⟨⟨[109]⟩⟩) (b:=s) (by show 1+s.size≤_;omega);exact⟨⟨⟨[109]⟩⟩++s,by simp -implicitDefEqProofs only [FQ,It,Iu,Iv,ha]⟩
def mtx (k:Int):ByteArray:=if h:0<k∧k≤100000000000 then Iq (wh k h.1 h.2) else⟨#[]⟩
theorem kG (k:Int) (h1:0<k) (h2:k≤100000000000):cn [I k]=some (.ret [T (mtx k)] []):=by
 unfold mtx;rw [dif_pos ⟨h1,h2⟩];exact IA (wh k h1 h2)
def xV (k:Int) (n:Nat):List ByteArray:=(ID n).map fun(j:Nat)=>mtx (k+j)
theorem nO (l:List ByteArray) (k:Int) (h:l.length≤1048577) (h1:0<k) (h2:k≤10000000000):fH [txs l,I k]=some (.ret [I (k+l.length)] [txs (xV k l.length)]):=by
 rw [nZ];refine aT _ (cH l.length (fun i=>[.arr 1 (iA (fun(j:Nat)=>T (mtx (k+(j:Int)))) T l i),I (k+i),I i]) (.ext 0 [txs (xV k l.length),I (k+l.length)]) (fun i hi=>?_) ?_ rfl ?_) ?_
 ·have hw:HA.wrap ((i:Int)+1)=(i:Int)+1:=ao (by omega) (by omega)
  have w1:HA.wrap (k+(i:Int)+1)=k+(i+1):=by rw [ao (by omega) (by omega)];omega
  have hm:=kG (k+i) (by omega) (by omega);have hg:=wE (g:=fun(j:Nat)=>T (mtx (k+(j:Int)))) (f:=T) hi;have hs:=wl (g:=fun(j:Nat)=>T (mtx (k+(j:Int)))) (f:=T) hi;have hl:=ou (g:=fun(j:Nat)=>T (mtx (k+(j:Int)))) (f:=T) (HO hi);generalize iA (fun(j:Nat)=>T (mtx (k+(j:Int)))) T l i=L at *;have s1:=zw (z:=1) (v:=.string (mtx (k+i))) hg;simp [hi,hl,hw,w1,hm,s1];exact hs
 ·simp [tX,xV]
 ·simp [su (g:=fun(j:Nat)=>T (mtx (k+(j:Int)))) (f:=T)]
 ·simp
def wW (k:Int) (j:Nat):Bx:=(mtx (k+4*j),k+4*j+1,k+4*j+2,k+4*j+3)
def xn (k:Int) (n:Nat):List Bx:=(ID n).map (wW k)
theorem rl (l:List Bx) (k:Int) (h:l.length≤1048577) (h1:0<k) (h2:k≤1000000000):ip [bxs l,I k]=some (.ret [I (k+4*l.length)] [bxs (xn k l.length)]):=by
 rw [rO];refine aT _ (cH l.length (fun i=>[.arr 4 (iA (fun j=>bx (wW k j)) bx l i),I (k+4*i),I i]) (.ext 0 [bxs (xn k l.length),I (k+4*l.length)]) (fun i hi=>?_) ?_ rfl ?_) ?_
 ·have hw:HA.wrap ((i:Int)+1)=(i:Int)+1:=ao (by omega) (by omega)
  have w1:HA.wrap (k+4*(i:Int)+1)=k+4*i+1:=ao (by omega) (by omega);have w2:HA.wrap (k+4*(i:Int)+1+1)=k+4*i+2:=by rw [ao (by omega) (by omega)];omega
  have w3:HA.wrap (k+4*(i:Int)+2+1)=k+4*i+3:=by rw [ao (by omega) (by omega)];omega
  have w4:HA.wrap (k+4*(i:Int)+3+1)=k+4*(i+1):=by rw [ao (by omega) (by omega)];omega
  have hm:=kG (k+4*i) (by omega) (by omega);have hg:=wE (g:=fun j=>bx (wW k j)) (f:=bx) hi;have hs:=wl (g:=fun j=>bx (wW k j)) (f:=bx) hi;have hl:=ou (g:=fun j=>bx (wW k j)) (f:=bx) (HO hi);generalize iA (fun j=>bx (wW k j)) bx l i=L at *;have s1:=lY (z:=4) (f:=0) (v:=.string (mtx (k+4*i))) hg (by simp);have s2:=lY (z:=4) (L:=L.set i (.agg [T (mtx (k+4*i)),I l[i].2.1,I l[i].2.2.1,I l[i].2.2.2])) (i:=i) (f:=1) (v:=.int .i64 (k+4*i+1)) (c:=[T (mtx (k+4*i)),I l[i].2.1,I l[i].2.2.1,I l[i].2.2.2]) (by simp [hl,hi]) (by simp);have s3:=lY (z:=4) (L:=L.set i (.agg [T (mtx (k+4*i)),I (k+4*i+1),I l[i].2.2.1,I l[i].2.2.2])) (i:=i) (f:=2) (v:=.int .i64 (k+4*i+2)) (c:=[T (mtx (k+4*i)),I (k+4*i+1),I l[i].2.2.1,I l[i].2.2.2]) (by simp [hl,hi]) (by simp);have s4:=lY (z:=4) (L:=L.set i (.agg [T (mtx (k+4*i)),I (k+4*i+1),I (k+4*i+2),I l[i].2.2.2])) (i:=i) (f:=3) (v:=.int .i64 (k+4*i+3)) (c:=[T (mtx (k+4*i)),I (k+4*i+1),I (k+4*i+2),I l[i].2.2.2]) (by simp [hl,hi]) (by simp);simp only [zT,IW,Iw,List.length_singleton,Ip,IE,IB,List.singleton_append,List.take_succ_cons,Ib,Nat.reduceAdd,List.set_set,List.drop_nil] at s1 s2 s3 s4;simp [hi,hl,hw,hm,w1,w2,w3,w4,s1,s2,s3,s4];exact hs
 ·simp [tX,xn,wW]
 ·simp [su (g:=fun j=>bx (wW k j)) (f:=bx)]
 ·simp
end Go.Proofs.Ytkcojipciiakdaa

namespace Go.V
open Go.RowKit
section
variable {P:Program} {G:List (Nat × (Obj→Prop))}
theorem tP {f:FuncId} {S:FS} (he:∀args w,(callFunc f args).run P w = .ok (.enter f args) w)
  (h:∀ds rs us,S.f ds=some (.ret rs us)→∀(args:Array Value) (w:World) (F:Nat→Prop) (ow:Nat→Option Nat),gOk G w F→dM w F ow 0 S.pm ds args.toList→(∀b,F b→b<w.heap.size∧ow b=none)→(∀b i,ow b=some i→b<w.heap.size) →
   Calls P f args w fun e w'=>∃v,e = .returned v∧∃F' R vs,v=lw vs∧CallPost S args rs us w F ow F' R vs w'):aH G P f S:=by
 intro ds rs us hd args w F ow hg ha hF hO o a next Q hn
 rw [he,IU];refine Calls.mono (h ds rs us hd args w F ow hg ha hF hO) (fun e w' hv=>?_)
 obtain⟨v,rfl,F',R,vs,h1,h2⟩:=hv;exact hn v w' ⟨F',R,vs,h1,h2⟩
theorem wF {w:World} {F:Nat→Prop}:∀(ks:List Kd) (ys:List Value),(ks.all fun k=>!mo k)=true→ks.length=ys.length→jR w F ks [] ys
 | [],[],_,_=>trivial
 | k::ks,y::ys,h,hl=>by
  simp only [List.all_cons,HU,IJ] at h;simp only [jR,h.1];exact wF ks ys h.2 (by simpa using hl)
 | [],_::_,_,hl=>by cases hl
 | _::_,[],_,hl=>by cases hl
theorem sK {w:World} {F:Nat→Prop} {ow:Nat→Option Nat}:∀(ks:List Kd) (ds:List D) (ys:List Value) (i:Nat),dM w F ow i ks ds ys→ds.length=ks.length∧ys.length=ks.length
 | [],[],[],_,_=>⟨rfl,rfl⟩
 | k::ks,d::ds,y::ys,i,h=>by
  obtain⟨h1,h2⟩:=sK ks ds ys (i+1) h.2;exact⟨by simp [h1],by simp [h2]⟩
 | [],_::_,_,_,h=>h.elim
 | [],[],_::_,_,h=>h.elim
 | _::_,[],_,_,h=>by cases ‹List Value›<;>exact h.elim
 | _::_,_::_,[],_,h=>h.elim
theorem Dr {w:World} {F:Nat→Prop} {ow:Nat→Option Nat} {k k':Kd} {ds:List D} {l:List Value} (h:dM w F ow 0 [k,k'] ds l) :
  ∃d y d' y',ds=[d,d']∧l=[y,y']∧ct w F (fun g=>ow g=some 0) k d y∧ct w F (fun g=>ow g=some 1) k' d' y':=by
 obtain⟨h1,h2⟩:=sK _ _ _ _ h
 match ds,l,h1,h2,h with
 | [d,d'],[y,y'],_,_,h=>exact⟨d,y,d',y',rfl,rfl,h.1,h.2.1⟩
theorem EB {S:FS} {args:Array Value} {rs:List D} {vs:List Value} {w w':World} {F:Nat→Prop} {ow:Nat→Option Nat} (R:Nat→Option Nat) (hB:Below w.heap.size w w') (hF:∀b,F b→b<w.heap.size∧ow b=none)
  (hR:∀b j,R b=some j→w.heap.size≤b∧b<w'.heap.size) (hio:(S.pm.all fun k=>!mo k)=true) (hl:S.pm.length=args.size) (h1:vs.length=S.rm.length) (h2:rs.length=S.rm.length)
  (hres:∀j,zI w' F w.heap.size (fun g=>R g=some j) (ak S.rm j) (nth rs j) (vs.getD j undef)):CallPost S args rs [] w F ow F R vs w' :=
 ⟨hB.os,hB.tape,hB.output,hB.size,fun b hb _=>hB.block b hb,fun _ h=>h,fun b hb=>⟨.inl hb,Il (hF b hb).1 hB.size,by
  cases h:R b with
  | none=>rfl
  | some j=>exact absurd (hR b j h).1 (Nat.not_le.2 (hF b hb).1)⟩,hR,h1,h2,hres,wF _ _ hio (by simpa using hl)⟩
theorem CQ {S:FS} {args:Array Value} {w w':World} {F:Nat→Prop} {ow:Nat→Option Nat} (hB:Below w.heap.size w w') (hF:∀b,F b→b<w.heap.size∧ow b=none) (hio:(S.pm.all fun k=>!mo k)=true) (hl:S.pm.length=args.size)
  (rs:List D) (vs:List Value) (hrm:S.rm=rs.map fun _=>.dat 0) (hv:vs.length=rs.length) (h:∀(j:Nat) (d:D),rs[j]?=some d→∃y:Value,vs[j]?=some y∧aQ w' (fun _=>False) d y):CallPost S args rs [] w F ow F (fun _=>none) vs w':=by
 refine EB _ hB hF (fun b j h=>by cases h) hio hl (by rw [hrm,hv];simp) (by rw [hrm];simp) (fun j=>?_)
 rw [eK,Im];cases hj:rs[j]? with
 | none=>exact .inl rfl
 | some d =>
  obtain⟨y,h1,h2⟩:=h j d hj;have hk:ak S.rm j = .dat 0:=by
   rw [hrm];clear hrm h hv h1 h2;induction rs generalizing j with
   | nil=>simp at hj
   | cons r rs ih =>
    cases j with
    | zero=>rfl
    | succ j=>exact ih j (by simpa using hj)
  refine .inr ?_
  rw [hk,Im,h1];exact aI (fun b hb=>hb.elim) (fun _ _=>rfl) h2
end
end Go.V

namespace Go.Proofs.Ytkcojipciiakdaa
open Go Go.Proofs Go.V Go.RowKit
set_option maxRecDepth 100000
theorem cE {P:Program} {G:List (Nat × (Obj→Prop))} {f:FuncId} {S:FS} (he:∀args w,(callFunc f args).run P w = .ok (.enter f args) w) (hm:aH G P f S) {ds rs us:List D} (hd:S.f ds=some (.ret rs us)) {args:Array Value} {w:World} {F:Nat→Prop} {ow:Nat→Option Nat}
  (hgl:gOk G w F) (ha:dM w F ow 0 S.pm ds args.toList) (hF:∀b,F b→b<w.heap.size∧ow b=none) (hO:∀b i,ow b=some i→b<w.heap.size) :
  Calls P f args w fun e w'=>∃v,e = .returned v∧∃F' R vs,v=lw vs∧CallPost S args rs us w F ow F' R vs w':=by
 have h2:=hm ds rs us hd args w F ow hgl ha hF hO {(default:Oper) with dst:=some 0} {tmps:=#[undef],defers:=[]} (fun a w'=>∃F' R vs,a.tmps.getD 0 undef=lw vs∧CallPost S args rs us w F ow F' R vs w') (fun _ _ _=>False) (fun v w' h=>by
  obtain⟨F',R,vs,rfl,h⟩:=h;exact⟨F',R,vs,by simp [Act.put],h⟩)
 rw [he,IU] at h2;refine Calls.mono h2 fun e w' he=>?_
 cases e with
 | returned v =>
  obtain⟨F',R,vs,h3,h4⟩:=he;exact⟨v,rfl,F',R,vs,by simpa [Act.put] using h3,h4⟩
 | panicked c=>exact he.elim
 | outgrown=>obtain⟨_,_,h⟩:=he;exact h.elim
theorem fO {P:Program} {G:List (Nat × (Obj→Prop))} {f:FuncId} {S:FS} (he:∀args w,(callFunc f args).run P w = .ok (.enter f args) w) (hm:aH G P f S) {ds:List D} {y:Value} (f':List D→Option Out) (hf':S.f=f') (hd:f' ds=some (.ret [.v y] [])) (hrm:S.rm=[.dat 0]) {args:Array Value} {w:World} {F:Nat→Prop}
  (hgl:gOk G w F) (ha:dM w F (fun _=>none) 0 S.pm ds args.toList) (hF:∀b,F b→b<w.heap.size):Calls P f args w fun e w'=>e = .returned y∧Below w.heap.size w w':=by
 refine(cE he hm (hf' ▸ hd) hgl ha (fun b hb=>⟨hF b hb,rfl⟩) (fun b i h=>by cases h)).mono ?_
 rintro e w' ⟨v,rfl,F',R,vs,rfl,hpost⟩;have hl:=hpost.len;rw [hrm] at hl;obtain⟨u,rfl⟩:=HZ.1 hl;have h0:=hpost.res 0;rw [hrm] at h0;simp only [ak,nth,IF] at h0;rcases h0 with h0 | h0
 ·cases h0
 exact⟨by rw [lw,(dL.1 h0).1],⟨hpost.os,hpost.tape,hpost.output,hpost.size,fun b hb=>hpost.keep b hb rfl⟩⟩
structure KeptX (S:Nat→Prop) (w w':World):Prop where
 os:w'.os=w.os
 tape:w'.tape=w.tape
 output:w'.output=w.output
 size:w.heap.size≤w'.heap.size
 block:∀b,b<w.heap.size→¬S b→w'.heap[b]?=w.heap[b]?
theorem KeptX.trans {S:Nat→Prop} {a b c:World} (h:KeptX S a b) (k:KeptX S b c):KeptX S a c :=
 ⟨k.os.trans h.os,k.tape.trans h.tape,k.output.trans h.output,Nat.le_trans h.size k.size,fun i hi hs=>(k.block i (Il hi h.size) hs).trans (h.block i hi hs)⟩
theorem KeptX.refl (S:Nat→Prop) (w:World):KeptX S w w:=⟨rfl,rfl,rfl,Ii _,fun _ _ _=>rfl⟩
theorem KeptX.mono {S T:Nat→Prop} {w w':World} (h:KeptX S w w') (hst:∀b,S b→T b):KeptX T w w':=⟨h.os,h.tape,h.output,h.size,fun b hb ht=>h.block b hb fun hs=>ht (hst b hs)⟩
theorem KeptX.set {S:Nat→Prop} {w w':World} (h:KeptX S w w') (a:Addr) (v:Value) (ha:S a.block):KeptX S w (w'.setCell a v) :=
 h.trans ⟨rfl,rfl,rfl,by simp [In],fun b _ hs=>heap_setCell_other _ _ _ _ fun e=>hs (e ▸ ha)⟩
theorem KeptX.below {S:Nat→Prop} {w w':World} {B:Nat} (h:KeptX S w w') (hb:∀b,S b→B≤b) (hs:B≤w.heap.size):Below B w w':=⟨h.os,h.tape,h.output,h.size,fun b hlt=>h.block b (by omega) fun hS=>by have:=hb b hS;omega⟩
abbrev aA (y:Value):Nat→Prop:=fun b=>y.ownBlock=some b
theorem Gl {w':World} {F':Nat→Prop} {z:Nat} {d:D} {y:Value} (h:bf w' (FB F' 0 0) (fun _=>True) z d y):bf w' (fun _=>False) (aA y) z d y:=by
 obtain⟨l,rfl,h2,h3⟩:=h;refine⟨l,rfl,h2,?_⟩
 rcases h3 with h3 | ⟨g,o,c,us,cs,e,h4,h5,h6,h7,h8,h9,_⟩
 ·exact .inl h3
 ·exact .inr ⟨g,o,c,us,cs,e,h4,h5,h6,h7,aX (fun b hb=>hb.elim) (fun b hb=>hb.elim) _ _ h8,h9,by rw [h4];rfl⟩
theorem sC {f:Nat} {z:Nat} {ff:List D→Option Out} {d d':D} {k k':Int} (he:∀args w,(callFunc f args).run Try.prog w = .ok (.enter f args) w) (hm:aH gl0 Try.prog f {pm:=[.own z 0 true,.dat 0],rm:=[.dat 0],f:=ff}) (hd:ff [d,I k]=some (.ret [I k'] [d'])) {w:World} {y:Value}
  (hy:bf w (fun _=>False) (aA y) z d y) (hb:∀b,aA y b→b<w.heap.size) :
  Calls Try.prog f #[y,.int .i64 k] w fun e w'=>e = .returned (.int .i64 k')∧bf w' (fun _=>False) (aA y) z d' y∧KeptX (aA y) w w':=by
 refine(cE (ow:=fun b=>if y.ownBlock=some b then some 0 else none) (F:=fun _=>False) (ds:=[d,I k]) (rs:=[I k']) (us:=[d']) (args:=#[y,.int .i64 k]) he hm hd eP
  (show ct w _ _ (.own z 0 true) d y∧ct w _ _ (.dat 0) (I k) (.int .i64 k)∧True from⟨.inr ?_,.inr (dL.2 ⟨rfl,rfl⟩),trivial⟩) (fun b hb=>hb.elim) (fun b i h=>?_)).mono ?_
 ·obtain⟨l,rfl,h2,h3⟩:=hy
  refine⟨l,rfl,h2,?_⟩
  rcases h3 with h3 | ⟨g,o,c,us,cs,e,h4,h5,h6,h7,h8,h9,h10⟩
  ·exact .inl h3
  ·exact .inr ⟨g,o,c,us,cs,e,h4,h5,h6,h7,aX (fun b hb=>hb.elim) (fun b hb=>hb.elim) _ _ h8,h9,by simp [h10]⟩
 ·split at h
  ·rename_i e
   exact hb b e
  ·cases h
 ·rintro e w' ⟨v,rfl,F',R,vs,rfl,hp⟩
  have hl:=hp.len;obtain⟨u,rfl⟩:=HZ.1 (hl.trans rfl);have h0:=hp.res 0;simp only [ak,nth,IF] at h0;rcases h0 with h0 | h0
  ·cases h0
  obtain⟨rfl,_⟩:=dL.1 h0;have hu:=hp.us;simp only [jR,mo,if_true] at hu;obtain⟨hu1,hu2,_⟩:=hu;rcases hu2 with hu2 | hu2
  ·exact absurd hu2 hu1
  ·exact⟨rfl,Gl hu2,⟨hp.os,hp.tape,hp.output,hp.size,fun b hlt hS=>hp.keep b hlt (if_neg hS)⟩⟩
theorem pY (l:List ByteArray) (k:Int) (h:l.length≤1048577) (h1:0<k) (h2:k≤10000000000) {w:World} {y:Value} (hy:bf w (fun _=>False) (aA y) 1 (txs l) y) (hb:∀b,aA y b→b<w.heap.size) :
  Calls Try.prog 85 #[y,.int .i64 k] w fun e w'=>e = .returned (.int .i64 (k+l.length))∧bf w' (fun _=>False) (aA y) 1 (txs (xV k l.length)) y∧KeptX (aA y) w w' :=
 sC (Ih Try.func85 (by kernel_rfl) rfl) om (nO l k h h1 h2) hy hb
theorem vB (l:List Bx) (k:Int) (h:l.length≤1048577) (h1:0<k) (h2:k≤1000000000) {w:World} {y:Value} (hy:bf w (fun _=>False) (aA y) 4 (bxs l) y) (hb:∀b,aA y b→b<w.heap.size) :
  Calls Try.prog 46 #[y,.int .i64 k] w fun e w'=>e = .returned (.int .i64 (k+4*l.length))∧bf w' (fun _=>False) (aA y) 4 (bxs (xn k l.length)) y∧KeptX (aA y) w w' :=
 sC (Ih Try.func46 (by kernel_rfl) rfl) rb (rl l k h h1 h2) hy hb
set_option maxRecDepth 100000
def CD (k:Int) (x:Fm):Fm:=(k,xV (k+1) x.2.1.length,(k+1+x.2.1.length) % 3==0,k+1+x.2.1.length+1)
def mkF (k:Int):List Fm→List Fm
 | []=>[]
 | x::l=>CD k x::mkF (k+3+x.2.1.length) l
def bZ:List Fm→Int
 | []=>0
 | x::l=>3+x.2.1.length+bZ l
theorem iC:∀l,0≤bZ l
 | []=>Int.le_refl _
 | x::l=>by have:=iC l;simp only [bZ];omega
theorem sR:∀(l m:List Fm),bZ (l++m)=bZ l+bZ m
 | [],m=>by simp [bZ]
 | x::l,m=>by simp only [Ib,bZ,sR l m];omega
theorem Bs:∀(l m:List Fm) (k:Int),mkF k (l++m)=mkF k l++mkF (k+bZ l) m
 | [],m,k=>by simp [mkF,bZ]
 | x::l,m,k=>by
  simp only [Ib,mkF,bZ,Bs l m];rw [show k+3+(x.2.1.length:Int)+bZ l=k+(3+x.2.1.length+bZ l) by omega]
theorem jo:∀(l:List Fm) (k:Int),(mkF k l).length=l.length
 | [],_=>rfl
 | x::l,k=>by simp [mkF,jo l]
def stF (k:Int) (l:List Fm) (i:Nat):List Fm:=mkF k (l.take i)++l.drop i
theorem kS (k:Int) (l:List Fm) (i:Nat):(stF k l i).length=l.length:=by simp [stF,jo];omega
theorem FP (k:Int) (l:List Fm) {i:Nat} (h:i<l.length):(stF k l i)[i]?=some l[i]:=by
 unfold stF;rw [HK (by rw [jo,HQ];omega),jo,HQ,IV (HO h),IG,List.getElem?_drop];simp [h]
theorem zx (k:Int) (l:List Fm) {i:Nat} (h:i<l.length):stF k l (i+1)=(stF k l i).set i (CD (k+bZ (l.take i)) l[i]):=by
 unfold stF;rw [HM h,Bs,HX h,Ic _ _ (by rw [jo,HQ];omega),jo,HQ,IV (HO h),IG,Ij];simp [mkF]
theorem yk (l:List Fm) {i:Nat} (h:i<l.length):bZ (l.take (i+1))=bZ (l.take i)+3+l[i].2.1.length:=by
 rw [HM h,sR];simp [bZ];omega
theorem DR (l:List Fm) (i:Nat):bZ (l.take i)+bZ (l.drop i)=bZ l:=by rw [←sR,List.take_append_drop]
def FmS (V:Value) (ys:List Value):Nat→Prop:=fun b=>aA V b∨∃y∈ys,aA y b
theorem aJ {w w':World} {z:Nat} {d:D} {y:Value} (h:bf w (fun _=>False) (aA y) z d y) (hb:∀b,aA y b→w'.heap[b]?=w.heap[b]?):bf w' (fun _=>False) (aA y) z d y :=
 cV (fun b hb=>hb.elim) (fun b hb=>hb.elim) (fun g _ ho=>⟨ho,hb g ho⟩) h
theorem aN {w:World} {base e size n g cap:Nat} {xs:List Value} (h:w.ownsRow base e size (.slice (some ⟨g,0,none⟩) n cap) n xs) (j:Nat):w.frozen? ⟨g,j,none⟩=false:=by
 obtain⟨_,⟨hn,_⟩ | ⟨g',cap',cur,hg',_,h3,_⟩⟩:=h
 ·cases hn
 ·simp only [IK,HT,Addr.mk.injEq,and_true,true_and] at hg'
  obtain⟨rfl,rfl⟩:=hg';exact HI h3 j
theorem zH (g j:Nat):((⟨g,0,none⟩:Addr).add j)=⟨g,j,none⟩:=by cases j<;>simp [Addr.add]
theorem ax {w:World} {base e size n g cap:Nat} {xs:List Value} (h:w.ownsRow base e size (.slice (some ⟨g,0,none⟩) n cap) n xs) {j:Nat} {u:Value} (hj:xs[j]?=some u):w.cell? ⟨g,j,none⟩=some u:=by
 have:=h.cells (g:=g) rfl j u hj;rwa [zH] at this
theorem cd {w:World} {z:Nat} {d:D} {y:Value} (h:bf w (fun _=>False) (aA y) z d y):∀b,aA y b→b<w.heap.size:=fun b hb=>by
 obtain⟨l,_,_,h3⟩:=h;rcases h3 with ⟨rfl,_⟩ | ⟨g,o,c,us,cs,e,h4,_,h6,_⟩
 ·simp [aA,IY] at hb
 ·rw [h4] at hb
  simp only [aA,IY,HT] at hb;subst hb;exact(HW.1 h6).1
set_option maxHeartbeats 4000000 in
set_option maxRecDepth 1000000 in
theorem AK (l:List Fm) (k:Int) (hk:0<k) (hK:k+bZ l≤1000000000) (hln:l.length≤1048576) (hls:∀x∈l,x.2.1.length≤1048576) (w:World) (B g cap:Nat) (ys:List Value) (h:FmsAt w B (.slice (some ⟨g,0,none⟩) l.length cap) ys l) :
  Calls Try.prog 47 #[.slice (some ⟨g,0,none⟩) l.length cap,.int .i64 k] w fun e w'=>e = .returned (.int .i64 (k+bZ l))∧FmsAt w' B (.slice (some ⟨g,0,none⟩) l.length cap) ys (mkF k l)∧KeptX (FmS (.slice (some ⟨g,0,none⟩) l.length cap) ys) w w':=by
 go_enter Try.func47,Try.ntmps47
 go_wp2
 go_loopw [1,5] (fun vk vi wr=>∃i:Nat,vi = .int .i64 i∧i≤l.length∧vk = .int .i64 (k+bZ (l.take i))∧FmsAt wr B (.slice (some ⟨g,0,none⟩) l.length cap) ys (stF k l i)∧KeptX (FmS (.slice (some ⟨g,0,none⟩) l.length cap) ys) w wr) (fun _ vi _=>l.length - (intOf vi).toNat)
 case atStart =>
  exact⟨0,rfl,Nat.zero_le _,by simp [bZ],by simpa [stF,mkF] using h,KeptX.refl _ _⟩
 case round =>
  obtain⟨i,rfl,hin,rfl,hF,hX⟩:=hrel;by_cases hp:i<l.length
  ·have hpi:(i:Int)<(l.length:Int):=by omega
   have hx:=FP k l hp;have ht0:=iC (l.take i);have ht1:=yk l hp;have ht2:=DR l (i+1);have ht3:=iC (l.drop (i+1));have hxl:=hls l[i] (HH hp);obtain⟨y,hy⟩:∃y,ys[i]?=some y:=⟨ys[i]'(by rw [hF.len,kS];exact hp),HN _⟩
   have hcells:=fun f hf=>(aE _ _ i l[i] y hx hy f hf)
   have hown:=hF.own;rw [kS] at hown;have hrow:=hF.row i l[i] y hx hy;have hblk:=fun b hb=>(hF.blk i y b hy hb).2
   have hyg:∀b,aA y b→b≠g:=fun b hb e=>hblk b hb (by rw [e];rfl)
   have hlen4:(aV (stF k l i) ys).length=l.length*4:=by rw [bD _ _ hF.len,kS]
   have hset:=wg (stF k l i) ys i l[i] (CD (k+bZ (l.take i)) l[i]) y hx hy;rw [←zx k l hp] at hset;have hw1:∀b,b≠g→(wr.setCell ⟨g,i*4,none⟩ (.int .i64 (k+bZ (l.take i)))).heap[b]?=wr.heap[b]?:=fun b hb=>heap_setCell_other _ _ _ _ (by simpa using hb)
   have hown1:=bN hown rfl (i*4) (.int .i64 (k+bZ (l.take i)));have f0:=aN hown (i*4);have c1:=ax hown1 (j:=i*4+1) (u:=y) (by rw [HL (by omega),hcells 1 (by omega)];rfl);have c0:=ax hown (j:=i*4) (u:=.int .i64 l[i].1) (by have:=hcells 0 (by omega);simpa [dn] using this);have hrow1:=aJ (w':=wr.setCell ⟨g,i*4,none⟩ (.int .i64 (k+bZ (l.take i)))) hrow (fun b hb=>hw1 b (hyg b hb));have hcm:=pY l[i].2.1 (k+bZ (l.take i)+1) (by omega) (by omega) (by omega) hrow1 (cd hrow1);generalize hxe:l[i]=x at *
   go_wp2_with (go_at_call 85;refine hcm.mono ?_)
   rintro e w2 ⟨rfl,hy2,hx2⟩;have hown2:=hown1.kept (row:=y.ownBlock) ⟨hx2.os,hx2.tape,hx2.output,hx2.size,fun b hb hn=>hx2.block b hb fun e=>hn e.symm⟩ (.inr fun e=>hyg g e.symm rfl);have hown3:=fun v=>bN hown2 rfl (i*4+2) v
   have f2:=aN hown2 (i*4+2);have f3:=fun v=>aN (hown3 v) (i*4+3)
   have c2:=ax hown2 (j:=i*4+2) (u:=.bool x.2.2.1) (by rw [HL (by omega),hcells 2 (by omega)];rfl);have c3:=fun v=>ax (hown3 v) (j:=i*4+3) (u:=.int .i64 x.2.2.2) (by rw [HL (by omega),HL (by omega),hcells 3 (by omega)];rfl)
   go_wp2
   refine⟨⟨i+1,congrArg (Ik .i64) (by omega),by omega,congrArg (Ik .i64) (by omega),?_,?_⟩,?_⟩
   ·have hw4:∀(v u:Value) (b:Nat),b≠g→((w2.setCell ⟨g,i*4+2,none⟩ v).setCell ⟨g,i*4+3,none⟩ u).heap[b]?=w2.heap[b]?:=fun v u b hb=>by
     rw [heap_setCell_other _ _ _ _ (by simpa using hb),heap_setCell_other _ _ _ _ (by simpa using hb)]
    have hss:=zx k l hp;rw [hxe] at hss;refine⟨by rw [kS];exact hF.len.trans (kS k l i),?_,fun j x' y' hj hyj=>?_,hF.blk,hF.dis⟩
    ·rw [kS,hset]
     exact bN (hown3 _) rfl (i*4+3) _
    ·by_cases e:j=i
     ·subst e
      rw [hss,List.getElem?_set_self (by rw [kS];exact hp)] at hj;obtain rfl:=Ix hj;obtain rfl:y=y':=Ix (hy.symm.trans hyj);exact aJ hy2 fun b hb=>hw4 _ _ b (hyg b hb)
     ·rw [hss,HL (fun h=>e h.symm)] at hj
      have hr:=hF.row j x' y' hj hyj;refine aJ hr fun b hb=>?_
      have hbg:b≠g:=fun h=>(hF.blk j y' b hyj hb).2 (by rw [h];rfl)
      have hby:¬aA y b:=fun h=>by
       rcases hF.dis j i y' y e hyj hy with h1 | h1
       ·rw [aA,h1] at hb
        cases hb
       ·exact h1 (hb.trans h.symm)
      have hlt:=cd hr b hb;rw [hw4 _ _ b hbg,hx2.block b (by simpa [In] using hlt) hby,hw1 b hbg]
   ·have hS:FmS (.slice (some ⟨g,0,none⟩) l.length cap) ys g:=.inl rfl
    have hm:∀b,aA y b→FmS (.slice (some ⟨g,0,none⟩) l.length cap) ys b:=fun b hb=>.inr ⟨y,List.mem_of_getElem? hy,hb⟩
    exact(((hX.set _ _ hS).trans (hx2.mono hm)).set _ _ hS).set _ _ hS
   ·show l.length - ((i:Int)+1).toNat<l.length - (i:Int).toNat
    omega
  ·have hpi:¬(i:Int)<(l.length:Int):=by omega
   have hie:i=l.length:=by omega
   subst hie;rw [List.take_length];have hst:stF k l l.length=mkF k l:=by simp [stF]
   rw [hst] at hF
   go_wp2
   go_ret
   exact⟨rfl,hF,hX⟩
set_option maxRecDepth 100000
theorem ac {w:World} (o:Obj) {n:Nat} (h:n=w.heap.size):(w.alloc o).heap[n]?=some o:=by
 subst h;exact Array.getElem?_push_size
theorem ah {w:World} (o:Obj) {n:Nat} {x:Obj} (h:w.heap[n]?=some x):(w.alloc o).heap[n]?=some x :=
 ((World.grownBy_alloc w o none).block n (HW.1 h).1 (by simp)).trans h
theorem aU {w:World} {F own:Nat→Prop} {z:Nat} {d:D} {y:Value} (h:bf w F own z d y):∃A n c,y = .slice A n c:=by
 obtain⟨l,_,_,h3⟩:=h;rcases h3 with ⟨rfl,_⟩ | ⟨g,o,c,us,cs,e,h4,_⟩
 ·exact⟨_,_,_,rfl⟩
 ·exact⟨_,_,_,h4⟩
theorem sS (l:List ByteArray) (h:l.length≤1048576) {w:World} {F:Nat→Prop} {y:Value} (hr:aQ w F (txs l) y) (hF:∀b,F b→b<w.heap.size) :
  Calls Try.prog 111 #[y] w fun e w'=>∃v,e = .returned v∧bf w' (fun _=>False) (aA v) 1 (txs l) v∧(∀b,aA v b→w.heap.size≤b∧b<w'.heap.size)∧Below w.heap.size w w':=by
 refine(cE (ow:=fun _=>none) (F:=F) (ds:=[txs l]) (rs:=[txs l]) (us:=[]) (args:=#[y]) (Ih Try.func111 (by kernel_rfl) rfl) qF (qr l h) eP
  (show ct w _ _ (.dat 2) (txs l) y∧True from⟨.inr hr,trivial⟩) (fun b hb=>⟨hF b hb,rfl⟩) (fun b i h=>by cases h)).mono ?_
 rintro e w' ⟨v,rfl,F',R,vs,rfl,hp⟩;have hl:=hp.len;obtain⟨u,rfl⟩:=HZ.1 (hl.trans rfl);have h0:=hp.res 0;rcases h0 with h0 | h0
 ·cases h0
 obtain⟨m,e1,h2,h3⟩:=h0;refine⟨u,rfl,⟨m,e1,h2,?_⟩,fun b hb=>?_,⟨hp.os,hp.tape,hp.output,hp.size,fun b hb=>hp.keep b hb rfl⟩⟩
 ·rcases h3 with h3 | ⟨g,o,c,us,cs,e,h4,h5,h6,h7,h8,h9,_⟩
  ·exact .inl h3
  ·have h4':u = .slice (some ⟨g,o,none⟩) m.length c:=h4
   exact .inr ⟨g,o,c,us,cs,e,h4,h5,h6,h7,aX (fun b hb=>hb.elim) (fun b hb=>hb.elim) _ _ h8,h9,by show aA u g;rw [h4'];rfl⟩
 ·rcases h3 with ⟨h3,_⟩ | ⟨g,o,c,us,cs,e,h4,h5,h6,h7,h8,h9,h10,h11⟩
  ·have h3':u = .slice none 0 0:=h3
   rw [aA,h3'] at hb;cases hb
  ·have h4':u = .slice (some ⟨g,o,none⟩) m.length c:=h4
   rw [aA,h4'] at hb;have hb':g=b:=Ix hb;subst hb';exact⟨h11,(HW.1 h6).1⟩
set_option maxHeartbeats 4000000 in
set_option maxRecDepth 1000000 in
theorem xO (x:Fm) (hx:x.2.1.length≤1048576) (y:Value) (w:World) (F:Nat→Prop) (hr:aQ w F (txs x.2.1) y) (hF:∀b,F b→b<w.heap.size) :
  Calls Try.prog 82 #[.agg #[.int .i64 x.1,y,.bool x.2.2.1,.int .i64 x.2.2.2]] w fun e w'=>∃v,e = .returned (.agg #[.int .i64 x.1,v,.bool x.2.2.1,.int .i64 x.2.2.2])∧bf w' (fun _=>False) (aA v) 1 (txs x.2.1) v∧(∀b,aA v b→w.heap.size≤b∧b<w'.heap.size)∧Below w.heap.size w w':=by
 go_enter Try.func82,Try.ntmps82
 have hb3:∀a b c,Below w.heap.size w (((w.alloc a).alloc b).alloc c):=fun a b c=>(((Below.refl _ w).alloc (Ii _) _).alloc (by simp) _).alloc (by simp;omega) _
 have hc:=fun(a b c:Obj)=>sS x.2.1 hx (w:=((w.alloc a).alloc b).alloc c) (F:=F) (y:=y) (aI (fun _ h=>h) (fun i hi=>(hb3 a b c).block i (hF i hi)) hr) (fun i hi=>Il (hF i hi) (hb3 a b c).size)
 go_wp2_with (go_at_call 111;refine(hc _ _ _).mono ?_)
 rintro e w4 ⟨v,rfl,hv,hvb,b4⟩;obtain⟨vA,vn,vc,rfl⟩:=aU hv;have H1:w4.heap[w.heap.size]?=some (.cells #[.int .i64 x.1,y,.bool x.2.2.1,.int .i64 x.2.2.2] 111 (0,0)):=(b4.block _ (by simp;omega)).trans (ah _ (ah _ (ac _ rfl)));have H2:w4.heap[w.heap.size+1]?=some (.cells #[.int .i64 0,.slice none 0 0,.bool false,.int .i64 0] 75 (0,0)):=(b4.block _ (by simp)).trans (ah _ (ac _ (by simp)));have H3:w4.heap[w.heap.size+1+1]?=some (.cells #[.int .i64 x.1,.slice none 0 0,.bool false,.int .i64 0] 75 (0,0)):=(b4.block _ (by simp)).trans (ac _ (by simp));have c12:w4.cell? ⟨w.heap.size,2,none⟩=some (.bool x.2.2.1):=by rw [HC H1];rfl
 have c13:w4.cell? ⟨w.heap.size,3,none⟩=some (.int .i64 x.2.2.2):=by rw [HC H1];rfl
 have c31:w4.cell? ⟨w.heap.size+1+1,1,none⟩=some (.slice none 0 0):=by rw [HC H3];rfl
 have f31:=HI H3 1;have f32:=HI H3 2;have f33:=HI H3 3;have c32:w4.cell? ⟨w.heap.size+1+1,2,none⟩=some (.bool false):=by rw [HC H3];rfl
 have c33:w4.cell? ⟨w.heap.size+1+1,3,none⟩=some (.int .i64 0):=by rw [HC H3];rfl
 have H7:(((w4.setCell ⟨w.heap.size+1+1,1,none⟩ (.slice vA vn vc)).setCell ⟨w.heap.size+1+1,2,none⟩ (.bool x.2.2.1)).setCell ⟨w.heap.size+1+1,3,none⟩ (.int .i64 x.2.2.2)).heap[w.heap.size+1+1]?=some (.cells #[.int .i64 x.1,.slice vA vn vc,.bool x.2.2.1,.int .i64 x.2.2.2] 75 (0,0)):=by
  rw [heap_setCell_same _ _ _ _ _ _ (heap_setCell_same _ _ _ _ _ _ (heap_setCell_same _ _ _ _ _ _ H3))];rfl
 have H72:(((w4.setCell ⟨w.heap.size+1+1,1,none⟩ (.slice vA vn vc)).setCell ⟨w.heap.size+1+1,2,none⟩ (.bool x.2.2.1)).setCell ⟨w.heap.size+1+1,3,none⟩ (.int .i64 x.2.2.2)).heap[w.heap.size+1]?=some (.cells #[.int .i64 0,.slice none 0 0,.bool false,.int .i64 0] 75 (0,0)):=by
  rw [heap_setCell_other _ _ _ _ (by simp),heap_setCell_other _ _ _ _ (by simp),heap_setCell_other _ _ _ _ (by simp),H2]
 have B7:Below w.heap.size w (((w4.setCell ⟨w.heap.size+1+1,1,none⟩ (.slice vA vn vc)).setCell ⟨w.heap.size+1+1,2,none⟩ (.bool x.2.2.1)).setCell ⟨w.heap.size+1+1,3,none⟩ (.int .i64 x.2.2.2)) :=
  ((((hb3 _ _ _).trans (b4.mono (hb3 _ _ _).size)).setCell (by simp;omega) _).setCell (by simp;omega) _).setCell (by simp;omega) _
 have O7:=aJ (w':=((w4.setCell ⟨w.heap.size+1+1,1,none⟩ (.slice vA vn vc)).setCell ⟨w.heap.size+1+1,2,none⟩ (.bool x.2.2.1)).setCell ⟨w.heap.size+1+1,3,none⟩ (.int .i64 x.2.2.2)) hv (fun b hb=>by
  have:=(hvb b hb).1;simp at this;rw [heap_setCell_other _ _ _ _ (by simp;omega),heap_setCell_other _ _ _ _ (by simp;omega),heap_setCell_other _ _ _ _ (by simp;omega)])
 have L7:∀b,aA (.slice vA vn vc) b→w.heap.size+1+1<b∧b<w4.heap.size:=fun b hb=>by
  have:=hvb b hb;simp at this;omega
 have S7:(((w4.setCell ⟨w.heap.size+1+1,1,none⟩ (.slice vA vn vc)).setCell ⟨w.heap.size+1+1,2,none⟩ (.bool x.2.2.1)).setCell ⟨w.heap.size+1+1,3,none⟩ (.int .i64 x.2.2.2)).heap.size=w4.heap.size:=by simp [In]
 have d0:=HC H7 0;have d1:=HC H7 1;have d2:=HC H7 2;have d3:=HC H7 3;have e0:=HC H72 0;have e1:=HC H72 1;have e2:=HC H72 2;have e3:=HC H72 3;have g0:=HI H72 0;have g1:=HI H72 1;have g2:=HI H72 2;have g3:=HI H72 3;simp only [IC,HY,HR] at d0 d1 d2 d3 e0 e1 e2 e3
 go_wp2
 generalize ((w4.setCell ⟨w.heap.size+1+1,1,none⟩ (.slice vA vn vc)).setCell ⟨w.heap.size+1+1,2,none⟩ (.bool x.2.2.1)).setCell ⟨w.heap.size+1+1,3,none⟩ (.int .i64 x.2.2.2)=W7 at *;have H11:((((W7.setCell ⟨w.heap.size+1,0,none⟩ (.int .i64 x.1)).setCell ⟨w.heap.size+1,1,none⟩ (.slice vA vn vc)).setCell ⟨w.heap.size+1,2,none⟩ (.bool x.2.2.1)).setCell ⟨w.heap.size+1,3,none⟩ (.int .i64 x.2.2.2)).heap[w.heap.size+1]?=some (.cells #[.int .i64 x.1,.slice vA vn vc,.bool x.2.2.1,.int .i64 x.2.2.2] 75 (0,0)):=by
  rw [heap_setCell_same _ _ _ _ _ _ (heap_setCell_same _ _ _ _ _ _ (heap_setCell_same _ _ _ _ _ _ (heap_setCell_same _ _ _ _ _ _ H72)))];rfl
 have d0:=HC H11 0;have d1:=HC H11 1;have d2:=HC H11 2;have d3:=HC H11 3;simp only [IC,HY,HR] at d0 d1 d2 d3;refine bodyPost_ret (by simp [results,Try.results82,go_sem,d0,d1,d2,d3];try rfl) rfl ?_
 refine⟨_,rfl,aJ O7 (fun b hb=>?_),fun b hb=>?_,(((B7.setCell (by simp) _).setCell (by simp) _).setCell (by simp) _).setCell (by simp) _⟩
 ·have:=(L7 b hb).1
  rw [heap_setCell_other _ _ _ _ (by simp;omega),heap_setCell_other _ _ _ _ (by simp;omega),heap_setCell_other _ _ _ _ (by simp;omega),heap_setCell_other _ _ _ _ (by simp;omega)]
 ·have:=L7 b hb
  simp [In,S7];omega
end Go.Proofs.Ytkcojipciiakdaa

end
