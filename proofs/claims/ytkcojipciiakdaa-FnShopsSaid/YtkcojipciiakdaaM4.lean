/-
  A part of the proof: contracts and plain forms of functions beneath the statement, made small by a program (names shortened, what is not needed left out).
-/
import Derived.Test.YtkcojipciiakdaaRows
import Derived.Test.YtkcojipciiakdaaM3
import Derived.Maps.AppendAt
import Derived.Lib.Builder
import Derived.OwnWalk
import Derived.Below
import Derived.Shelf.Abstract
import Derived.WalkKit
import Derived.Handy
open Option renaming map → Ji, bind_some → Jq
open Go.IntKind renaming i64 → Jj, u8 → JF
open List renaming getElem?_eq_some_iff → Jk, length_map → Jo, map_take → Jp, eq_nil_of_length_eq_zero → Jr, getElem_mem → Js, getD_eq_getElem?_getD → Jy, getElem?_append_right → Jz, length_eq_one_iff → JE, mem_of_getElem? → JG, length_take → JM, length_cons → JN, length_nil → JP, replicate → JQ
open Bool renaming and_eq_true → Jl, not_eq_true' → JK
open Option.some renaming injEq → Jm
open Array renaming getElem?_eq_some_iff → Jn, replicate → Jv
open Nat renaming mul → Jt, le_refl → Ju, zero_add → Jw, le_trans → JI, add → JR
open Int renaming not_lt → Jx, not_le → JA, toNat_natCast → JJ
open Classical renaming choose → JB
open Go.Op renaming bytesLess → JC
open Go.Oper renaming upon_enter → JD
open Go.Value renaming int → JH, ownBlock → JS
open Go.Value.slice renaming injEq → JL
open Go.Calls renaming mono → JO
open Go.Addr.mk renaming injEq → JT
set_option maxRecDepth 100000
set_option linter.unusedSimpArgs false
set_option linter.unusedVariables false
noncomputable section
namespace Go.V
section
variable {k:IntKind} {a b:Int} {bl:Bool} {eq:List Nat}
@[simp] theorem pc:bin .add bl eq (.v (.int k a)) (.v (.int k b))=some (.v (.int k (k.wrap (a+b)))):=by simp [bin,gA]
@[simp] theorem IG:bin .sub bl eq (.v (.int k a)) (.v (.int k b))=some (.v (.int k (k.wrap (a - b)))):=by simp [bin,gA]
@[simp] theorem IC:bin .mul bl eq (.v (.int k a)) (.v (.int k b))=some (.v (.int k (k.wrap (a*b)))):=by simp [bin,gA]
@[simp] theorem IK:bin .quo bl eq (.v (.int k a)) (.v (.int k b))=if b=0 then none else some (.v (.int k (k.wrap (a.tdiv b)))):=by simp [bin,gA]
@[simp] theorem IA:bin .rem bl eq (.v (.int k a)) (.v (.int k b))=if b=0 then none else some (.v (.int k (a.tmod b))):=by simp [bin,gA]
@[simp] theorem lh:bin .lss bl eq (.v (.int k a)) (.v (.int k b))=some (B (decide (a<b))):=by simp [bin,gA]
@[simp] theorem IH:bin .leq bl eq (.v (.int k a)) (.v (.int k b))=some (B (decide (a≤b))):=by simp [bin,gA]
@[simp] theorem Cd:bin .gtr bl eq (.v (.int k a)) (.v (.int k b))=some (B (decide (b<a))):=by simp [bin,gA]
@[simp] theorem IJ:bin .geq bl eq (.v (.int k a)) (.v (.int k b))=some (B (decide (b≤a))):=by simp [bin,gA]
@[simp] theorem sj:bin .eql bl eq (.v (.int k a)) (.v (.int k b))=some (B (decide (a=b))):=by
 have:(a==b)=decide (a=b):=rfl;simp [bin,gA,this]
@[simp] theorem kO:bin .neq bl eq (.v (.int k a)) (.v (.int k b))=some (B (!decide (a=b))):=by
 have:(a != b) = !decide (a=b):=rfl;simp [bin,gA,this]
@[simp] theorem HW {a b:Bool}:bin .eql true eq (B a) (B b)=some (B (a==b)):=by simp [bin]
@[simp] theorem su {a b:Bool}:bin .neq true eq (B a) (B b)=some (B !(a==b)):=by simp [bin]
@[simp] theorem Fq {a b:ByteArray}:bin .add bl eq (T a) (T b)=if a.size+b.size≤1152921504606846976 then some (T (a++b)) else none:=by simp [bin,qG]
@[simp] theorem EY {a b:ByteArray}:bin .eql bl eq (T a) (T b)=some (B (decide (a=b))):=by
 have:(a.toList==b.toList)=decide (a=b):=by
  rw [Bool.eq_iff_iff,beq_iff_eq,decide_eq_true_eq];constructor
  ·intro h
   have h1:∀s:ByteArray,s.toList=s.data.toList:=fun s=>by simp [ByteArray.toList_eq]
   rw [h1,h1] at h;cases a;cases b;simp at h;simp [h]
  ·rintro rfl;rfl
 simp [bin,qG,this]
@[simp] theorem Iy {a b:ByteArray}:bin .neq bl eq (T a) (T b)=some (B (!decide (a=b))):=by
 have h:=EY (a:=a) (b:=b) (bl:=bl) (eq:=eq);simp only [bin,qG,Jm,D.v.injEq,Value.bool.injEq] at h ⊢;rw [h]
@[simp] theorem mw {b:Bool}:un .not (B b)=some (B !b):=rfl
@[simp] theorem IV:un .neg (.v (.int k a))=some (.v (.int k (k.wrap (-a)))):=by simp [un]
theorem ay (h1 : -9223372036854775808≤a) (h2:a<9223372036854775808):Jj.wrap a=a:=by
 simp [IntKind.wrap,IntKind.bits,IntKind.signed];split<;>omega
end
@[simp] theorem eX {c:Bool} {t e:Option Out}:ifD (B c) t e=if c=true then t else e:=by cases c<;>rfl
@[simp] theorem DO {c:Bool} {t e:Option Out}:ifN c t e=if c=true then t else e:=by cases c<;>rfl
@[simp] theorem Ja {v:D} {c:Bool} {r:Option D}:af v (B c) true r=if c=true then r else some v:=by cases c<;>rfl
@[simp] theorem qv {v:D} {c:Bool} {r:Option D}:af v (B c) false r=if c=true then some v else r:=by cases c<;>rfl
@[simp] theorem Jc {v:D} {p:Bool} {l:List D} {r:Option D}:af v (.tup l) p r=some v:=rfl
@[simp] theorem IM {p:Bool} {l:List D} {r:Option Out} {alt:List D} {k:List D→Option Out}:dD (.tup l) p r alt k=k alt:=rfl
def Hx (r:Option Out) (k:List D→Option Out):Option Out :=
 match r with
 | some (.nrm l)=>k l
 | _=>none
@[simp] theorem oR {l:List D} {k:List D→Option Out}:Hx (some (.nrm l)) k=k l:=rfl
@[simp] theorem IP {c:Bool} {r:Option Out} {alt:List D} {k:List D→Option Out}:dD (B c) true r alt k=if c=true then Hx r k else k alt:=by cases c<;>rfl
@[simp] theorem uo {c:Bool} {r:Option Out} {alt:List D} {k:List D→Option Out}:dD (B c) false r alt k=if c=true then k alt else Hx r k:=by cases c<;>rfl
@[simp] theorem mG {c:Bool} {a b:D}:aR (B c) a b=some (if c=true then a else b):=by cases c<;>rfl
@[simp] theorem aO {rs us:List D} {k:List D→List D→Option Out}:aq (some (.ret rs us)) k=k rs us:=rfl
@[simp] theorem wb {i:Nat} {s:List D} {x:Nat→List D→Option Out} {r:List D→List D→Option Out}:dH (.ext i s) x r=x i s:=rfl
@[simp] theorem Ia {a b:List D} {x:Nat→List D→Option Out} {r:List D→List D→Option Out}:dH (.ret a b) x r=r a b:=rfl
@[simp] theorem ID {v:Value} {x:D}:ab (.v v) x=some x:=rfl
@[simp] theorem xu {z:Nat} {l:List D} {x:D}:ab (.arr z l) x=some x:=rfl
@[simp] theorem aT {l:List D} {x:D}:ab (.agg l) x=some x:=rfl
@[simp] theorem kf {i f:Nat} {x:D}:ab (.ref i f) x=some x:=rfl
@[simp] theorem HR {l:List D} {x:D}:ab (.tup l) x=some x:=rfl
@[simp] theorem cn {z:Nat} {l:List D}:lenD false (.arr z l)=some (I l.length):=rfl
@[simp] theorem sg {s:ByteArray}:lenD true (T s)=some (I s.size):=rfl
@[simp] theorem aY {a:D} {l:List D}:sl (a::l) 0=a:=rfl
@[simp] theorem jg {a:D} {l:List D} {n:Nat}:sl (a::l) (n+1)=sl l n:=rfl
@[simp] theorem HY {ag:Bool} {n off:Nat} {l:List D}:bM ag n off (.agg l)=an ag n (l.drop off):=rfl
@[simp] theorem IL {ag:Bool} {n:Nat} {l:List D}:ldD ag n (.ptr l)=an ag n l:=rfl
@[simp] theorem Iq {off:Nat} {l:List D}:td off (.ptr l)=some (.ptr (l.drop off)):=rfl
@[simp] theorem IF {n:Nat} {l:List D}:an true n l=if n≤l.length then some (.agg (l.take n)) else none:=rfl
@[simp] theorem yD {n:Nat} {a:D} {l:List D}:an false n (a::l)=some a:=rfl
@[simp] theorem yJ {l:List D} {i f:Nat}:atD (.agg l) (.ref i f)=some (l.drop f):=rfl
@[simp] theorem IE {z:Nat} {l:List D} {i f:Nat}:atD (.arr z l) (.ref i f)=(l[i]?).map fun d=>d.cells.drop f:=rfl
@[simp] theorem HJ {off i f:Nat}:cU off (.ref i f)=some (.ref i (f+off)):=rfl
@[simp] theorem xM {z:Nat} {l:List D} {k:IntKind} {i:Nat}:bO z (.arr z l) (.v (.int k (i:Int)))=(l[i]?).map D.cells:=by simp [bO]
theorem CL {z:Nat} {l:List D} {k:IntKind} {n:Int} (h:0≤n):bO z (.arr z l) (.v (.int k n))=(l[n.toNat]?).map D.cells:=by simp [bO,h]
@[simp] theorem Im {z:Nat} {l:List D} {k:IntKind} {i:Nat}:tp z (.arr z l) (.v (.int k (i:Int)))=if i<l.length then some (.ref i 0) else none:=by simp [tp]
@[simp] theorem GV {l:List D}:(D.agg l).cells=l:=rfl
@[simp] theorem HO {v:Value}:(D.v v).cells=[.v v]:=rfl
@[simp] theorem GU {z:Nat} {l:List D}:(D.arr z l).cells=[.arr z l]:=rfl
@[simp] theorem Be {v:Value}:bw (.v v)=some (.v v):=rfl
@[simp] theorem HX {l:List D}:bw (.agg l)=if l.all yQ=true then some (.agg l) else none:=by
 have:(D.agg l).isV=l.all yQ:=by
  simp only [D.isV];congr 1
 simp [bw,this]
@[simp] theorem IX {v:Value}:yQ (.v v)=true:=rfl
@[simp] theorem Io {z:Nat} {l:List D}:yQ (.arr z l)=false:=rfl
@[simp] theorem HU {v:Value}:(D.v v).single=true:=rfl
@[simp] theorem Hp {z:Nat} {l:List D}:(D.arr z l).single=true:=rfl
@[simp] theorem HS {l:List D}:(D.agg l).width=l.length:=rfl
@[simp] theorem Iz {v:Value}:(D.v v).width=1:=rfl
@[simp] theorem HN {z:Nat} {l:List D}:(D.arr z l).width=1:=rfl
@[simp] theorem II {n:Nat} {x:D}:gT n x=if x.cells.length=n∧x.cells.all D.single=true then some (.agg x.cells) else none:=rfl
@[simp] theorem IB {n i f:Nat} {l:List D} {x:D}:stD n (.agg l) (.ref i f) x=if x.cells.length=n∧f+n≤l.length∧x.cells.all D.single=true then some (.agg (cd l f x.cells)) else none:=rfl
@[simp] theorem Hd {l:List D} {f:Nat} {vs:List D}:cd l f vs=l.take f++vs++l.drop (f+vs.length):=rfl
@[simp] theorem HQ {l:List D} {i:Nat}:bz (.tup l) i=match l[i]? with
  | some .bad=>none
  | some (.tup _)=>none
  | r=>r:=rfl
@[simp] theorem HB {l:List D} {i:Nat}:lB (.tup l) i = .tup (l.set i .bad):=rfl
@[simp] theorem fV {x:D}:cQ (.ref 0 0) x=some x:=rfl
@[simp] theorem dK {z eb:Nat} {l m:List D}:gx z eb (.arr z l) (.arr z m)=if (l.length+m.length)*eb≤140737488355328∧l.length+m.length≤1152921504606846976 then some (.arr z (l++m)) else none:=by simp [gx]
@[simp] theorem HA {z:Nat} {l:List D} {k:IntKind} {i:Nat}:bO z (.arr z l) (.v (.int k ((i:Int)+1)))=(l[i+1]?).map D.cells:=xM (i:=i+1)
@[simp] theorem HI {z:Nat} {l:List D} {k:IntKind}:bO z (.arr z l) (.v (.int k 0))=(l[0]?).map D.cells:=xM (i:=0)
@[simp] theorem Ih {z eb:Nat} {x:D} {k k':IntKind} {n m:Nat}:FQ z eb x (.v (.int k (n:Int))) (.v (.int k' (m:Int)))=if n≤m∧m*eb≤140737488355328∧m≤140737488355328 then some (.arr z (JQ n x)) else none:=by
 have h:((n:Int)≤m∧(m:Int)*(eb:Int)≤140737488355328∧(m:Int)≤140737488355328)↔(n≤m∧m*eb≤140737488355328∧m≤140737488355328):=by
  rw [←Int.natCast_mul];omega
 simp only [FQ,Int.natCast_nonneg,true_and,h,JJ]
def GX {β:Type} (f:β→D) (z:D) (l:List β) (i:Nat):List D:=(l.take i).map f++JQ (l.length - i) z
section
variable {β:Type} {f:β→D} {z:D} {l:List β} {i:Nat}
@[simp] theorem GE (h:i≤l.length):(GX f z l i).length=l.length:=by simp [GX];omega
end
theorem EH {z i f:Nat} {L c:List D} {v:Value} (h:L[i]?=some (.agg c)) (hf:f<c.length):stD 1 (.arr z L) (.ref i f) (.v v)=some (.arr z (L.set i (.agg (cd c f [.v v])))):=by
 have h2:(D.v v).cells=[.v v]:=rfl;have h3:f+1≤c.length:=hf;simp [stD,h,h2,h3,D.ofCells]
def Hb {β:Type} (g:Nat→D) (f:β→D) (l:List β) (i:Nat):List D:=(List.range i).map g++(l.drop i).map f
section
variable {β:Type} {g:Nat→D} {f:β→D} {l:List β} {i:Nat}
@[simp] theorem FJ (h:i≤l.length):(Hb g f l i).length=l.length:=by simp [Hb];omega
end
theorem gD {z:Nat}:bC z []=some (.arr z []):=rfl
@[simp] theorem kw {β:Type} {z:Nat} {l:List β} {f:β→D} (h:∀x,(f x).isV=true):iE (.arr z (l.map f))=some (.arr z (l.map f)):=by
 have:(l.map f).all D.isV=true:=by simp [h]
 simp only [iE,this,if_true]
theorem BO {z i j:Nat} {l:List D} {k k':IntKind} (h1:i≤j) (h2:j≤l.length):ga false z (.arr z l) (.v (.int k (i:Int))) (.v (.int k' (j:Int)))=some (.arr z ((l.take j).drop i)):=by
 simp only [ga,JJ,true_and];rw [if_pos];omega
@[simp] theorem Jh {p:Prop} [Decidable p] {a b:Bool}:(if p then D.v (.bool a) else D.v (.bool b))=D.v (.bool (if p then a else b)):=by split<;>rfl
theorem tg {body:List D→Option Out}:∀(n:Nat) (s:List D) (o:Out),iter body n s=some o→∀m,n≤m→iter body m s=some o
 | 0,_,_,h,_,_=>by simp [iter] at h
 | n+1,s,o,h,m,hm=>by
  obtain⟨m,rfl⟩:∃q,m=q+1:=⟨m - 1,by omega⟩
  simp only [iter] at h ⊢;split at h
  ·rename_i s' hb
   exact tg n s' o h m (by omega)
  ·exact h
theorem Fv {body:List D→Option Out} {s:List D} {o:Out} (n:Nat) (h:iter body n s=some o):bD body s=some o:=by
 have hex:∃n,(iter body n s).isSome=true:=⟨n,by rw [h];rfl⟩
 unfold bD;rw [dif_pos hex];obtain⟨o',ho⟩:=Option.isSome_iff_exists.1 (Classical.choose_spec hex);rw [ho];have h1:=tg _ _ _ ho (max n (JB hex)) (by omega);have h2:=tg _ _ _ h (max n (JB hex)) (by omega);rw [h1] at h2;exact h2
inductive Runs (body:List D→Option Out):List D→Out→Prop where
 | ext {s:List D} {i:Nat} {δ:List D}:body s=some (.ext i δ)→Runs body s (.ext i δ)
 | ret {s:List D} {rs us:List D}:body s=some (.ret rs us)→Runs body s (.ret rs us)
 | nrm {s s':List D} {o:Out}:body s=some (.nrm s')→Runs body s' o→Runs body s o
theorem Runs.iter {body:List D→Option Out} {s:List D} {o:Out} (h:Runs body s o):∃n,V.iter body n s=some o:=by
 induction h with
 | ext h=>exact⟨1,by simp [V.iter,h]⟩
 | ret h=>exact⟨1,by simp [V.iter,h]⟩
 | nrm h _ ih =>
  obtain⟨n,hn⟩:=ih;exact⟨n+1,by simp [V.iter,h,hn]⟩
theorem Runs.loop {body:List D→Option Out} {s:List D} {o:Out} (h:Runs body s o):bD body s=some o:=by
 obtain⟨n,hn⟩:=h.iter;exact Fv n hn
def goL {α β:Type} (g:Nat→β→α→α ⊕ Out) (fin:α→Out):Nat→List β→α→Out
 | _,[],a=>fin a
 | i,x::l,a=>match g i x a with
  | .inl a'=>goL g fin (i+1) l a'
  | .inr o=>o
def Out.ends:Out→Bool
 | .nrm _=>false
 | _=>true
theorem Runs.one {body:List D→Option Out} {s:List D} {o:Out} (h:body s=some o) (ho:o.ends=true):Runs body s o:=by
 cases o with
 | nrm _=>simp [Out.ends] at ho
 | ext _ _=>exact .ext h
 | ret _ _=>exact .ret h
theorem Runs.list {α β:Type} {body:List D→Option Out} (l:List β) (st:Nat→α→List D) (Inv:Nat→α→Prop) (g:Nat→β→α→α ⊕ Out) (fin:α→Out)
  (hs:∀i x a,l[i]?=some x→Inv i a→match g i x a with
   | .inl a'=>body (st i a)=some (.nrm (st (i+1) a'))∧Inv (i+1) a'
   | .inr o=>body (st i a)=some o∧o.ends=true)
  (he:∀a,Inv l.length a→body (st l.length a)=some (fin a)∧(fin a).ends=true) (a:α) (h0:Inv 0 a):Runs body (st 0 a) (goL g fin 0 l a):=by
 have key:∀(n i:Nat) (a:α),i+n=l.length→Inv i a→Runs body (st i a) (goL g fin i (l.drop i) a):=by
  intro n;induction n with
  | zero =>
   intro i a hi hI;have:i=l.length:=by omega
   subst this;rw [List.drop_length];exact Runs.one (he a hI).1 (he a hI).2
  | succ n ih =>
   intro i a hi hI;have hlt:i<l.length:=by omega
   rw [List.drop_eq_getElem_cons hlt];have h:=hs i l[i] a (List.getElem?_eq_getElem hlt) hI;simp only [goL];split at h
   ·exact .nrm h.1 (ih (i+1) _ (by omega) h.2)
   ·exact Runs.one h.1 h.2
 simpa using key l.length 0 a (by omega) h0
theorem pf {α β:Type} {body:List D→Option Out} (l:List β) (st:Nat→α→List D) (Inv:Nat→α→Prop) (g:Nat→β→α→α ⊕ Out) (fin:α→Out)
  (hs:∀i x a,l[i]?=some x→Inv i a→match g i x a with
   | .inl a'=>body (st i a)=some (.nrm (st (i+1) a'))∧Inv (i+1) a'
   | .inr o=>body (st i a)=some o∧o.ends=true)
  (he:∀a,Inv l.length a→body (st l.length a)=some (fin a)∧(fin a).ends=true) (a:α) (h0:Inv 0 a) {s0:List D} (h:s0=st 0 a):bD body s0=some (goL g fin 0 l a):=by
 rw [h];exact(Runs.list l st Inv g fin hs he a h0).loop
theorem ig {body:List D→Option Out} (n:Nat) (st:Nat→List D) (o:Out) (hs:∀i,i<n→body (st i)=some (.nrm (st (i+1)))) (he:body (st n)=some o) (ho:o.ends=true) {s0:List D} (h:s0=st 0):bD body s0=some o:=by
 rw [h];have key:∀(m i:Nat),i+m=n→Runs body (st i) o:=by
  intro m;induction m with
  | zero =>
   intro i hi;have:i=n:=by omega
   subst this;exact Runs.one he ho
  | succ m ih=>exact fun i hi=>.nrm (hs i (by omega)) (ih (i+1) (by omega))
 exact(key n 0 (by omega)).loop
def dq {β:Type} (p:Nat→β→Bool):Nat→List β→Bool
 | _,[]=>true
 | i,x::l=>p i x&&dq p (i+1) l
theorem ib {β:Type} {body:List D→Option Out} (l:List β) (st:Nat→List D) (p:Nat→β→Bool) (o1 o2:Out) (hs:∀(i:Nat) (hi:i<l.length),body (st i)=some (if p i l[i]=true then .nrm (st (i+1)) else o1)) (he:body (st l.length)=some o2)
  (h1:o1.ends=true) (h2:o2.ends=true) {s0:List D} (h:s0=st 0):bD body s0=some (if dq p 0 l=true then o2 else o1):=by
 have e:∀(m:List β) (i:Nat),goL (fun i x (_:Unit)=>if p i x=true then .inl () else .inr o1) (fun _=>o2) i m ()=if dq p i m=true then o2 else o1:=by
  intro m;induction m with
  | nil=>intro i;simp [goL,dq]
  | cons x m ih =>
   intro i;simp only [goL,dq];by_cases hp:p i x=true
   ·simp [hp,ih]
   ·simp [hp]
 rw [←e];refine pf l (fun i _=>st i) (fun _ _=>True) _ _ (fun i x a hx _=>?_) (fun _ _=>⟨he,h2⟩) () trivial h
 have hi:i<l.length:=(Jk.1 hx).1;have hxe:l[i]=x:=(Jk.1 hx).2;have:=hs i hi;rw [hxe] at this;by_cases hp:p i x=true
 ·simpa [hp] using this
 ·simpa [hp,h1] using this
def rR {α β:Type} (f:Nat→α→β→α):Nat→List β→α→α
 | _,[],a=>a
 | i,x::l,a=>rR f (i+1) l (f i a x)
theorem vE {α β:Type} {body:List D→Option Out} (l:List β) (st:Nat→α→List D) (Inv:Nat→α→Prop) (f:Nat→α→β→α) (fin:α→Out) (a:α) (hs:∀(i:Nat) (a:α) (hi:i<l.length),Inv i a→body (st i a)=some (.nrm (st (i+1) (f i a l[i])))∧Inv (i+1) (f i a l[i]))
  (he:∀a,Inv l.length a→body (st l.length a)=some (fin a)) (h1:∀a,(fin a).ends=true) (h0:Inv 0 a) {s0:List D} (h:s0=st 0 a):bD body s0=some (fin (rR f 0 l a)):=by
 have e:∀(m:List β) (i:Nat) (a:α),goL (fun i x a=>.inl (f i a x)) fin i m a=fin (rR f i m a):=by
  intro m;induction m with
  | nil=>intro i a;rfl
  | cons x m ih=>intro i a;simp only [goL,rR];exact ih (i+1) (f i a x)
 rw [←e l 0 a];refine pf l st Inv (fun i x a=>.inl (f i a x)) _ (fun i x a hx hI=>?_) (fun a hI=>⟨he a hI,h1 a⟩) a h0 h
 have hi:i<l.length:=(Jk.1 hx).1;have hxe:l[i]=x:=(Jk.1 hx).2;rw [←hxe];exact hs i a hi hI
theorem be {body:List D→Option Out} {s0:List D} {K:Out→Option Out} {r:Option Out} (o:Out) (h:bD body s0=some o) (hk:K o=r):(bD body s0).bind K=r:=by
 rw [h];exact hk
theorem FR {α:Type} {body:List D→Option Out} (st:α→List D) (Inv:α→Prop) (μ:α→Nat) (Q:α→Out→Prop)
  (hs:∀a,Inv a→(∃a',body (st a)=some (.nrm (st a'))∧Inv a'∧μ a'<μ a∧∀o,Q a' o→Q a o)∨∃o,body (st a)=some o∧o.ends=true∧Q a o) (a:α) (h:Inv a) {s0:List D} (h0:s0=st a):∃o,bD body s0=some o∧Q a o:=by
 rw [h0];have key:∀(n:Nat) (a:α),μ a<n→Inv a→∃o,Runs body (st a) o∧Q a o:=by
  intro n;induction n with
  | zero=>exact fun a h=>by omega
  | succ n ih =>
   intro a hn hI;rcases hs a hI with ⟨a',h1,h2,h3,h4⟩ | ⟨o,h1,h2,h3⟩
   ·obtain⟨o,h5,h6⟩:=ih a' (by omega) h2
    exact⟨o,.nrm h1 h5,h4 o h6⟩
   ·exact⟨o,Runs.one h1 h2,h3⟩
 obtain⟨o,h1,h2⟩:=key (μ a+1) a (by omega) h;exact⟨o,h1.loop,h2⟩
theorem eJ {α:Type} {body:List D→Option Out} {K:Out→Option Out} (R:Option Out→Prop) (st:α→List D) (Inv:α→Prop) (μ:α→Nat) (Q:Out→Prop)
  (hs:∀a,Inv a→(∃a',body (st a)=some (.nrm (st a'))∧Inv a'∧μ a'<μ a)∨∃o,body (st a)=some o∧o.ends=true∧Q o) (a:α) (h:Inv a) {s0:List D} (h0:s0=st a) (hk:∀o,Q o→R (K o)):R ((bD body s0).bind K):=by
 obtain⟨o,h1,h2⟩:=FR st Inv μ (fun _ o=>Q o) (fun a ha=>by
  rcases hs a ha with ⟨a',g1,g2,g3⟩ | h
  ·exact .inl ⟨a',g1,g2,g3,fun _ h=>h⟩
  ·exact .inr h) a h h0
 rw [h1];exact hk o h2
end Go.V

namespace Go.V
open Go.RowKit
def Ar (f:(List D→Option Out)→Option Out) (k:List D→Option Out):Option Out:=f k
@[reducible] def nm (c:Cx) (J:List (Nat × List Nat)):Nat→Nat→Code→List D→(Out→Option Out)→Option Out
 | _,_,.skip,δ,k=>k (.nrm δ)
 | _,_,.region _ ops _,δ,k=>iR c ops.toList ops.toList δ fun δ'=>k (.nrm δ')
 | p,bid,.seq a b,δ,k=>match dj J p with
  | none=>nm c J (Jt 2 p) bid a δ fun o=>Gg o (fun δ'=>nm c J (JR (Jt 2 p) 1) bid b δ' k) k
  | some hl=>Ar (fun j=>nm c J (Jt 2 p) bid a δ fun o=>Gg o (fun δ'=>nk δ' hl fun s=>j s) k) (fun s=>ic (iQ c.K) hl s fun δ'=>nm c J (JR (Jt 2 p) 1) bid b δ' k)
 | p,bid,.cond x t e,δ,k=>opC δ x fun q=>ifD q (nm c J (Jt 2 p) bid t δ k) (nm c J (JR (Jt 2 p) 1) bid e δ k)
 | p,_,.block id b,δ,k=>nm c J (Jt 2 p) id b δ fun o=>At id o k
 | p,bid,.loop b,δ,k=>match dj c.H bid with
  | none=>none
  | some (hl,xl) =>
   nk δ hl fun s=>(bD (fun s=>ic (iQ c.K) hl s fun δ=>nm c J (Jt 2 p) bid b δ (cG hl xl)) s).bind fun o =>
    dH o (fun i s=>ic (iQ c.K) xl s fun δ=>k (.ext i δ)) (fun a b=>k (.ret a b))
 | _,_,.exit id,δ,k=>k (.ext id δ)
 | _,_,.ret,δ,k=>ll c δ c.res fun rs=>nk δ c.ios fun us=>usK us (k (.ret rs us))
 | _,_,_,_,_=>none
@[reducible] def tK (c:Cx) (J:List (Nat × List Nat)) (fn:Func) (ds:List D):Option Out :=
 match fn.body with
 | none=>none
 | some b=>nm c J 1 0 b (oa fn.ntmps ds) fun o=>match o with
  | .nrm δ=>ll c δ c.res fun rs=>nk δ c.ios fun us=>usK us (some (.ret rs us))
  | .ext _ _=>none
  | .ret rs us=>some (.ret rs us)
def okJ (c:Cx) (J:List (Nat × List Nat)):Bool:=J.all fun p=>lk c.K p.2
theorem DC {c:Cx}:∀{J:List (Nat × List Nat)} {p:Nat} {hl:List Nat},okJ c J=true→dj J p=some hl→lk c.K hl=true
 | [],_,_,_,h=>by cases h
 | (q,l)::J,p,hl,hJ,h=>by
  unfold okJ at hJ;rw [List.all_cons,Jl] at hJ;simp only [dj] at h;split at h
  ·cases h
   exact hJ.1
  ·exact DC (J:=J) hJ.2 h
section
variable {P:Program} {c:Cx} {B:Nat} {X:Nat→Prop} {w0:World} {F0 F:Nat→Prop} {O:Nat→Option (Nat × Nat)} {a:Act} {w:World} {δ:List D}
theorem sI {V:Nat→Value} {J:List (Nat × List Nat)} {p:Nat} {b:Code} {bid:Nat} {hl xl:List Nat} (h1:lk c.K hl=true) (h2:lk c.K xl=true)
  (ih:∀(F:Nat→Prop) (O:Nat→Option (Nat × Nat)) (a:Act) (w:World) (δ:List D),Inv c B X w0 F0 F O a w δ→IoV c V a→∀(k:Out→Option Out) (r:Out),nm c J p bid b δ k=some r→∀Q,(∀e a w,CX c B X w0 F0 V k r e a w→Q e a w)→b.wp P Q a w)
  {k:Out→Option Out} {r:Out} {Q:Exit→Act→World→Prop} (hQ:∀e a w,CX c B X w0 F0 V k r e a w→Q e a w) {o:Out}
  (ho:dH o (fun i s=>ic (iQ c.K) xl s fun δ=>k (.ext i δ)) (fun x y=>k (.ret x y))=some r):∀(n:Nat) (F:Nat→Prop) (O:Nat→Option (Nat × Nat)) (a:Act) (w:World) (δ:List D),Inv c B X w0 F0 F O a w δ→IoV c V a →
  iter (fun s=>ic (iQ c.K) hl s fun δ=>nm c J p bid b δ (cG hl xl)) n (ak δ hl)=some o→Code.rounds P b Q n a w
 | 0,_,_,_,_,_,_,_,h=>by cases h
 | n+1,F,O,a,w,δ,hI,hV,h=>by
  simp only [iter,kB] at h;rw [rounds_succ];have hI':=hI.carry h1;cases hb:nm c J p bid b (carry (iQ c.K) hl δ) (cG hl xl) with
  | none=>rw [hb] at h;cases h
  | some ob =>
   rw [hb] at h;refine ih F O a w _ hI' hV _ ob hb _ (fun e a' w' hp=>?_)
   cases ob with
   | nrm s' =>
    simp only at h;cases e with
    | normal =>
     obtain⟨⟨F',O',δ',g1,g2⟩,g3⟩:=hp;simp only [cG,bU,Jm,Out.nrm.injEq] at g2;rw [←g2] at h;exact sI h1 h2 ih hQ ho n F' O' a' w' δ' g1 g3 h
    | exit i =>
     obtain⟨⟨F',O',δ',g1,g2⟩,g3⟩:=hp;simp [cG,bU] at g2
    | ret =>
     obtain⟨⟨F',O',δ',g1,g2⟩,g3⟩:=hp;obtain⟨rs,_,_,g4⟩:=je g2;simp [cG] at g4
    | _=>exact hp.elim
   | ext i l =>
    simp only [Jm] at h;subst h;cases e with
    | normal =>
     obtain⟨⟨F',O',δ',g1,g2⟩,g3⟩:=hp;simp [cG,bU] at g2
    | exit j =>
     obtain⟨⟨F',O',δ',g1,g2⟩,g3⟩:=hp;simp only [cG,bU,Jm,Out.ext.injEq] at g2;obtain⟨rfl,rfl⟩:=g2;simp only [dH,kB] at ho;exact hQ (.exit j) _ _ ⟨⟨F',O',_,g1.carry h2,ho⟩,g3⟩
    | ret =>
     obtain⟨⟨F',O',δ',g1,g2⟩,g3⟩:=hp;obtain⟨rs,_,_,g4⟩:=je g2;simp [cG] at g4
    | _=>exact hp.elim
   | ret x y =>
    simp only [Jm] at h;subst h;cases e with
    | normal =>
     obtain⟨⟨F',O',δ',g1,g2⟩,g3⟩:=hp;simp [cG,bU] at g2
    | exit j =>
     obtain⟨⟨F',O',δ',g1,g2⟩,g3⟩:=hp;simp [cG,bU] at g2
    | ret =>
     obtain⟨⟨F',O',δ',g1,g2⟩,g3⟩:=hp;obtain⟨rs,g5,g6,g4⟩:=je g2;simp only [cG,Jm,Out.ret.injEq] at g4;obtain⟨rfl,rfl⟩:=g4;exact hQ .ret _ _ ⟨⟨F',O',δ',g1,um g5 g6 ho⟩,g3⟩
    | _=>exact hp.elim
theorem eT (hT:okT P c.T=true) (hS:∀f S,dj c.S f=some S→aM c.G P f S) (hm:P.follows .mixedOrders=true) {V:Nat→Value} {J:List (Nat × List Nat)} (hJ:okJ c J=true):∀(b:Code) (p bid:Nat),dp c bid b=true→∀(F:Nat→Prop) (O:Nat→Option (Nat × Nat)) (a:Act) (w:World) (δ:List D),
  Inv c B X w0 F0 F O a w δ→IoV c V a→∀(k:Out→Option Out) (r:Out),nm c J p bid b δ k=some r→∀Q,(∀e a w,CX c B X w0 F0 V k r e a w→Q e a w)→b.wp P Q a w
 | .skip,p,bid,_,F,O,a,w,δ,hI,hV,k,r,hg,Q,hQ=>wp_skip (hQ _ _ _ ⟨⟨F,O,δ,hI,hg⟩,hV⟩)
 | .region id ops d,p,bid,hok,F,O,a,w,δ,hI,hV,k,r,hg,Q,hQ=>by
  simp only [dp,Jl,List.all_eq_true] at hok;have hq:∀a w,gd c B X w0 F0 V (fun δ=>k (.nrm δ)) r a w→Q .normal a w:=fun a w h=>hQ _ _ _ h
  cases d
  ·exact wp_region_list (qs hT hS hq ops.toList hok.1 F O a w δ hI hV hg)
  ·exact xO hT hS (by simpa using hok.2) hm hq hok.1 hI hV hg id
 | .seq x y,p,bid,hok,F,O,a,w,δ,hI,hV,k,r,hg,Q,hQ=>by
  simp only [dp,Jl] at hok;simp only [nm] at hg;cases hH:dj J p with
  | none =>
   rw [hH] at hg;refine wp_seq (eT hT hS hm hJ x _ bid hok.1 F O a w δ hI hV _ r hg _ (fun e a' w' hp=>?_))
   cases e with
   | normal =>
    obtain⟨⟨F',O',δ',hI',hk'⟩,hV'⟩:=hp;exact eT hT hS hm hJ y _ bid hok.2 F' O' a' w' δ' hI' hV' k r hk' Q hQ
   | exit id=>exact hQ _ _ _ hp
   | ret=>exact hQ _ _ _ hp
   | _=>exact hp.elim
  | some hl =>
   rw [hH] at hg;simp only [Ar] at hg;have hlive:=DC hJ hH;refine wp_seq (eT hT hS hm hJ x _ bid hok.1 F O a w δ hI hV _ r hg _ (fun e a' w' hp=>?_))
   cases e with
   | normal =>
    obtain⟨⟨F',O',δ',hI',hk'⟩,hV'⟩:=hp;simp only [Gg,bU,kB] at hk';exact eT hT hS hm hJ y _ bid hok.2 F' O' a' w' _ (hI'.carry hlive) hV' k r hk' Q hQ
   | exit id=>exact hQ _ _ _ hp
   | ret=>exact hQ _ _ _ hp
   | _=>exact hp.elim
 | .cond x t e,p,bid,hok,F,O,a,w,δ,hI,hV,k,r,hg,Q,hQ=>by
  simp only [dp,Jl] at hok;obtain⟨⟨hlv,hok1⟩,hok2⟩:=hok;have hop:=hI.opd (bX.1 hlv);have key:ifD (opD δ x) (nm c J (Jt 2 p) bid t δ k) (nm c J (JR (Jt 2 p) 1) bid e δ k)=some r:=by
   simp only [nm] at hg;cases x with
   | tmp s=>simpa only [opC,dT,opD] using hg
   | const v=>simpa only [opC,opD] using hg
   | func f=>simpa only [opC,opD] using hg
   | global g=>simp [opC] at hg
  unfold ifD at key;split at key
  ·rename_i hd
   rw [hd] at hop;exact wp_cond_true (br hop).1 (eT hT hS hm hJ t _ bid hok1 F O a w δ hI hV k r key Q hQ)
  ·rename_i hd
   rw [hd] at hop;exact wp_cond_false (br hop).1 (eT hT hS hm hJ e _ bid hok2 F O a w δ hI hV k r key Q hQ)
  ·cases key
 | .block id b,p,bid,hok,F,O,a,w,δ,hI,hV,k,r,hg,Q,hQ=>by
  simp only [dp] at hok;refine wp_block (eT hT hS hm hJ b _ id hok F O a w δ hI hV _ r hg _ (fun e a' w' hp=>?_))
  cases e with
  | normal=>exact hQ .normal _ _ hp
  | exit i =>
   simp only [Exit.inBlock];have hp':gd c B X w0 F0 V (fun δ=>At id (.ext i δ) k) r a' w':=hp;split
   ·rename_i hi
    refine hQ .normal _ _ (iF hp' fun δ F O _ h=>?_)
    simp only [At] at h;rw [aQ.2 (by simpa using hi)] at h;exact h
   ·rename_i hi
    refine hQ (.exit i) _ _ (iF hp' fun δ F O _ h=>?_)
    simp only [At] at h;cases hb:Nat.beq i id
    ·rw [hb] at h;exact h
    ·exact absurd (by simpa using aQ.1 hb) hi
  | ret=>exact hQ .ret _ _ hp
  | _=>exact hp.elim
 | .loop b,p,bid,hok,F,O,a,w,δ,hI,hV,k,r,hg,Q,hQ=>by
  simp only [dp,Jl] at hok;obtain⟨hok1,hok2⟩:=hok;simp only [nm] at hg;cases hH:dj c.H bid with
  | none=>rw [hH] at hg;cases hg
  | some hx =>
   obtain⟨hl,xl⟩:=hx;rw [hH] at hg hok2;simp only [Jl] at hok2;simp only [bU] at hg;obtain⟨o',h1,h2⟩:=Option.bind_eq_some_iff.1 hg;unfold bD at h1;split at h1
   case isFalse=>cases h1
   rename_i hex;refine wp_loop_rounds (JB hex) ?_
   refine sI (hl:=hl) (xl:=xl) hok2.1 hok2.2 (fun F O a w δ hI hV k r hg Q hQ=>eT hT hS hm hJ b _ bid hok1 F O a w δ hI hV k r hg Q hQ) hQ h2 _ F O a w δ hI hV h1
 | .exit id,p,bid,_,F,O,a,w,δ,hI,hV,k,r,hg,Q,hQ=>wp_exit (hQ _ _ _ ⟨⟨F,O,δ,hI,hg⟩,hV⟩)
 | .ret,p,bid,_,F,O,a,w,δ,hI,hV,k,r,hg,Q,hQ=>wp_ret (hQ _ _ _ ⟨⟨F,O,δ,hI,hg⟩,hV⟩)
 | .label _,_,_,hok,_,_,_,_,_,_,_,_,_,_,_,_=>by simp [dp] at hok
 | .goto _,_,_,hok,_,_,_,_,_,_,_,_,_,_,_,_=>by simp [dp] at hok
 | .scope _,_,_,hok,_,_,_,_,_,_,_,_,_,_,_,_=>by simp [dp] at hok
theorem CN (hT:okT P c.T=true) (hS:∀f S,dj c.S f=some S→aM c.G P f S) (hm:P.follows .mixedOrders=true) {J:List (Nat × List Nat)} (hJ:okJ c J=true) {f:FuncId} {fn:Func} (hf:P.funcs[f]?=some fn) {pm rm:List Kd} (hok:BI c fn pm rm=true) (hres:c.res=fn.results.toList)
  {ds rs us:List D} (hd:tK c J fn ds=some (.ret rs us)) {args:Array Value} {w:World} {F:Nat→Prop} {ow:Nat→Option Nat} (hgl:gOk c.G w F) (ha:dA w F ow 0 pm ds args.toList) (hF:∀b,F b→b<w.heap.size∧ow b=none) (hO:∀b i,ow b=some i→b<w.heap.size) :
  Calls P f args w fun e w'=>∃v,e = .returned v∧∃F' R vs,v=jB vs∧CallPost {pm:=pm,rm:=rm,f:=tK c J fn} args rs us w F ow F' R vs w':=by
 unfold BI at hok;simp only [Jl,decide_eq_true_eq] at hok;obtain⟨⟨⟨⟨⟨hcode,hlenK⟩,hpre⟩,hpm⟩,hokr⟩,hios⟩:=hok;rw [aQ,jQ] at hlenK;obtain⟨hpl,hpn⟩:=sM hpre;obtain⟨hdl,hal,hargs⟩:=sL pm ds args.toList 0 ha;have hasz:args.size=pm.length:=by simpa using hal
 unfold tK at hd;cases hb:fn.body with
 | none=>rw [hb] at hd;cases hd
 | some b =>
  rw [hb] at hd hcode;simp only at hd hcode;refine calls_of_wp hf hb ?_
  have hav:∀s,s<pm.length→av ({tmps:=args++Jv (fn.ntmps - args.size) undef,defers:=[]}:Act) s=args.toList.getD s undef:=fun s hs=>by
   have h1:s<args.size:=by omega
   simp only [av,Array.getD_eq_getD_getElem?,Jy,Array.getElem?_toList];rw [Array.getElem?_append_left h1]
  have hinit:Inv c w.heap.size (fun b=>ow b≠none) w F F (fun b=>(ow b).map fun i=>(i,0)) {tmps:=args++Jv (fn.ntmps - args.size) undef,defers:=[]} w (oa fn.ntmps ds):=by
   refine⟨by simp;omega,by rw [pe,hlenK],rfl,fun s=>?_,fun b hb=>⟨(hF b hb).1,by simp [(hF b hb).2]⟩,fun b p hp=>?_,fun _ h=>h,fun _ h=>.inl h,Ju _,rfl,rfl,rfl,fun _ _ _=>rfl,hgl⟩
   ·unfold te
    rw [oP _ _ _ (by rw [hdl];omega)];by_cases hs:s<pm.length
    ·rw [hpn s hs,hav s hs]
     rcases hargs s hs with hbad | harg
     ·exact .inl hbad
     refine .inr ?_
     have hlv:∀lv,lv≠1→∀b,FB F 0 lv b→FB F w.heap.size lv b:=fun lv h1 b hb=>by
      match lv,h1 with
      | 0,_=>exact hb
      | _+2,_=>exact hb
     rcases rE hpm s hs with ⟨lv,hk,h1⟩ | ⟨z,lv,hk,h1⟩ | ⟨n,lv,hk,h1⟩
     ·rw [hk] at harg ⊢
      exact .inr (aS (hlv lv h1) (fun _ _=>rfl) harg)
     ·rw [hk] at harg ⊢
      exact .inr (cV (hlv lv h1) (fun _ _=>rfl) (fun g _ hg=>⟨⟨by simp only [Jw] at hg;simp [hg],fun h=>by cases h⟩,rfl⟩) harg)
     ·rw [hk] at harg ⊢
      exact .inr (gC (hlv lv h1) (fun _ _=>rfl) (fun g _ hg=>⟨⟨by simp only [Jw] at hg;simp [hg],fun h=>by cases h⟩,rfl⟩) harg)
    ·refine .inl ?_
     rw [fO,Jy,List.getElem?_eq_none (by omega)];rfl
   ·obtain⟨i,hi,rfl⟩:=Option.map_eq_some_iff.1 hp
    exact⟨hO b i hi,.inr (by rw [hi];simp)⟩
  refine eT hT hS hm hJ b 1 0 hcode F _ _ w _ hinit (V:=av {tmps:=args++Jv (fn.ntmps - args.size) undef,defers:=[]}) (fun _ _=>rfl) _ _ hd _ (fun e a' w' hp=>?_)
  have fin:gd c w.heap.size (fun b=>ow b≠none) w F (av {tmps:=args++Jv (fn.ntmps - args.size) undef,defers:=[]}) (fun δ=>Bj c δ some) (.ret rs us) a' w'→a'.defers=[]∧∃v,(results fn a'.tmps).run P w' = .ok v w'∧∃v',Ending.returned v = .returned v'∧∃F' R vs,v'=jB vs∧CallPost {pm:=pm,rm:=rm,f:=tK c J fn} args rs us w F ow F' R vs w':=by
   rintro⟨⟨F',O',δ',hI',hk⟩,hV'⟩;obtain⟨rs',h1,h2,h3⟩:=je hk;simp only [Jm,Out.ret.injEq] at h3;obtain⟨rfl,rfl⟩:=h3;obtain⟨vs,g1,g2,g3,g4⟩:=sv (P:=P) hT hI' c.res rm rs' hokr h1;refine⟨hI'.df,jB vs,?_,_,rfl,F',fun b=>if w.heap.size≤b then(match O' b with
    | some (t,0)=>rT c.res t 0
    | _=>none) else none,vs,rfl,?_⟩
   ·have hrun:(fn.results.mapM (mP a'.tmps)).run P w' = .ok vs.toArray w':=by
     rw [Array.mapM_eq_mapM_toList,←hres];simp [g1]
    have hrw:results fn a'.tmps=(do
      let vs ←fn.results.mapM (mP a'.tmps)
      pure (if h:vs.size=1 then vs[0] else .tuple vs)):=by
     unfold results;congr 1
    rw [hrw];simp only [Sem.run_bind,hrun,Result.andThen_ok,Sem.run_pure];congr 1
    rcases vs with _ | ⟨y,_ | ⟨y',vs⟩⟩
    ·simp [jB]
    ·simp [jB]
    ·simp [jB]
   ·refine⟨hI'.os,hI'.tape,hI'.output,hI'.bb,fun b hb ho=>hI'.keep b hb (by simp [ho]),hI'.f0,fun b hb=>⟨hI'.fn b hb,(hI'.fl b hb).1,by simp only [(hI'.fl b hb).2];split<;>rfl⟩,fun b j hj=>?_,g2,g3,fun j=>?_,?_⟩
    ·split at hj
     case isFalse=>cases hj
     rename_i hB;refine⟨hB,?_⟩
     split at hj
     ·rename_i t he;exact(hI'.ol b _ he).1
     ·cases hj
    ·refine ku (fun hk g hg=>?_) (g4 j)
     obtain⟨z,lv,hk⟩:=hk;obtain⟨e1,t,e2,e3⟩:=hg;rw [if_pos e1];simp only [e3];have:=(mp c.res rm hokr j t 0 z lv hk e2).1;simpa using this
    ·rw [hios]
     refine yk pm args.toList 0 hal (fun j hj hio=>?_)
     rw [Jw];have hkj:=hpn j hj;have hbj:nth δ' j ≠ .bad:=by
      refine h2 _ ?_
      rw [hios,my];exact List.mem_map_of_mem (by simpa using tv pm 0 j hj hio)
     have havj:av a' j=args.toList.getD j undef:=(hV' j (by rw [hkj];exact hio)).trans (hav j hj);have hlv:∀lv,lv≠1→∀b,FB F' w.heap.size lv b→FB F' 0 lv b:=fun lv h1 b hb=>by
      match lv,h1 with
      | 0,_=>exact hb
      | _+2,_=>exact hb
     refine⟨hbj,.inr ?_⟩
     rcases rE hpm j hj with ⟨lv,hk,h1⟩ | ⟨z,lv,hk,h1⟩ | ⟨n,lv,hk,h1⟩
     ·rw [hk] at hio;cases hio
     ·have h5:=hI'.own (hkj.trans hk) hbj
      rw [havj] at h5;rw [hk];exact cV (hlv lv h1) (fun _ _=>rfl) (fun _ _ _=>⟨trivial,rfl⟩) h5
     ·have h5:=hI'.box (hkj.trans hk) hbj
      rw [havj] at h5;rw [hk];exact gC (hlv lv h1) (fun _ _=>rfl) (fun _ _ _=>⟨trivial,rfl⟩) h5
  cases e with
  | normal=>exact fin hp
  | exit i =>
   obtain⟨⟨_,_,_,_,h⟩,_⟩:=hp;cases h
  | ret =>
   refine fin (iF hp fun δ F O _ h=>?_)
   obtain⟨rs',h1,h2,h3⟩:=je h;exact um h1 h2 h3
  | _=>exact hp.elim
theorem Dm (hT:okT P c.T=true) (hS:∀f S,dj c.S f=some S→aM c.G P f S) (hm:P.follows .mixedOrders=true) {J:List (Nat × List Nat)} (hJ:okJ c J=true) {f:FuncId} {fn:Func} (hf:P.funcs[f]?=some fn) (hname:(fn.name== "runtime.NumGoroutine")=false) {pm rm:List Kd} (hok:BI c fn pm rm=true) (hres:c.res=fn.results.toList) :
  aM c.G P f {pm:=pm,rm:=rm,f:=tK c J fn}:=by
 intro ds rs us hd args w F ow hgl ha hF hO o a next Q hn
 have hbody:∃b,fn.body=some b:=by
  have hd':tK c J fn ds=some (.ret rs us):=hd;unfold tK at hd';cases hb:fn.body with
  | none=>rw [hb] at hd';cases hd'
  | some b=>exact⟨b,rfl⟩
 obtain⟨b,hb⟩:=hbody;have hrun:(callFunc f args).run P w = .ok (.enter f args) w:=by
  have h1:¬fn.name= "runtime.NumGoroutine":=by simpa using hname
  simp [callFunc,hf,h1,hb]
 rw [hrun,JD];refine JO (CN hT hS hm hJ hf hok hres hd hgl ha hF hO) (fun e w' he=>?_)
 obtain⟨v,rfl,F',R,vs,h1,h2⟩:=he;exact hn v w' ⟨F',R,vs,h1,h2⟩
end
theorem zC {f:(List D→Option Out)→Option Out} {k:List D→Option Out} {r:Option Out} (p:List D→Prop) (hk:∀s,p s→k s=r) (hf:∀j:List D→Option Out,(∀s,p s→j s=r)→f j=r):Ar f k=r:=hf k hk
end Go.V

namespace Go.Proofs.Ytkcojipciiakdaa
open Go Go.V
abbrev gl0:List (Nat × (Obj→Prop)):=[]
end Go.Proofs.Ytkcojipciiakdaa

namespace Go.Proofs.Ytkcojipciiakdaa
open Go.V
set_option maxRecDepth 100000
theorem qa:Try.prog.follows .mixedOrders=true:=by kernel_rfl
theorem aZ {c:Cx} {S:FS} {f:FuncId} {fn:Func} (hS:∀f S,dj c.S f=some S→aM c.G Try.prog f S) (hf:Try.prog.funcs[f]?=some fn) (hres:c.res=fn.results.toList) (hF:S.f=cj c fn)
  (hb:(okT Try.prog c.T&&(!(fn.name== "runtime.NumGoroutine")&&BI c fn S.pm S.rm))=true):aM c.G Try.prog f S:=by
 obtain⟨pm,rm,g⟩:=S;cases hF;simp only [Jl,JK] at hb;exact Fw hb.1 hS qa hf hb.2.1 hb.2.2 hres
@[reducible] def ty3:TI:={n:=1,zero:=[.v (.int .i64 0)],ik:=some .i64}
@[reducible] def ty4:TI:={n:=1,zero:=[.v (.bool false)],bl:=true}
@[reducible] def ty5:TI:={n:=1,zero:=[.v (.int .u8 0)],ik:=some .u8}
@[reducible] def ty9:TI:={n:=1,zero:=[.v (.string ⟨#[]⟩)],str:=true}
@[reducible] def BR:TI:={n:=1,zero:=[.arr 1 []],elem:=3,ez:=1,eb:=8}
@[reducible] def iB:TI:={n:=1,zero:=[.arr 4 []],elem:=112,ez:=4,eb:=40}
@[reducible] def sP:TI:={n:=1,zero:=[.arr 4 []],elem:=75,ez:=4,eb:=48}
@[reducible] def sS:TI:={agg:=true,n:=4,zero:=[.arr 4 [],.arr 4 [],.v (.int .i64 0),.v (.int .i64 0)],fs:=[(0,30),(1,31),(2,3),(3,3)]}
@[reducible] def DS:TI:={n:=1,zero:=[.arr 1 []],elem:=5,ez:=1,eb:=1}
@[reducible] def lp:TI:={n:=1,zero:=[.arr 1 []],elem:=9,ez:=1,eb:=16}
@[reducible] def wM:TI:={agg:=true,n:=4,zero:=[.v (.int .i64 0),.arr 1 [],.v (.bool false),.v (.int .i64 0)],fs:=[(0,3),(1,73),(2,4),(3,3)]}
@[reducible] def fW:TI:={agg:=true,n:=4,zero:=[.v (.string ⟨#[]⟩),.v (.int .i64 0),.v (.int .i64 0),.v (.int .i64 0)],fs:=[(0,9),(1,3),(2,3),(3,3)],eq:=[3,1,1,1]}
@[reducible] def tD:Cx:={K:=[Y,Y,Y,.no,.no,.no,Y,Y,Y,Y,Y,Y,Y,Y,Y],T:=[(3,ty3)],S:=[],H:=[],res:=[.tmp 6],ios:=[],G:=gl0}
def cv:List D→Option Out:=cj tD Try.f80
@[reducible] def fQ:FS:={pm:=[Y,Y,Y],rm:=[Y],f:=cv}
theorem gG:aM gl0 Try.prog 80 fQ:=aZ (c:=tD) aK Try.func80 rfl rfl (by kernel_rfl)
@[reducible] def pZ:Cx:={K:=[Yc,Y,.no,.no,Y,Y,.box 4 0 false,Yc,Y,Y,Y,Y,Yc,Y,Yr 6,Y,Y,Y,Y,Y],T:=[(3,ty3),(9,ty9),(30,iB),(112,fW)],S:=[],H:=[(0,([1,7,8,9],[]))],res:=[.tmp 4],ios:=[],G:=gl0}
def gg:List D→Option Out:=cj pZ Try.f87
@[reducible] def lG:FS:={pm:=[Yc,Y],rm:=[Y],f:=gg}
theorem pQ:aM gl0 Try.prog 87 lG:=aZ (c:=pZ) aK Try.func87 rfl rfl (by kernel_rfl)
@[reducible] def nZ:Cx:={K:=[Yc,Yc,.no,.box 4 2 false,Y,.no,Y,Yr 3,Y,Y,Y,Y,Yr 3,Yc,Y,Y,Y,Y,Yr 3,Y,Y,Y,Y,Y,Yr 3,Y,Y,Yr 3,Yc,Y,Y,Y,Y,Yr 3,Yc,Y,Y,Y,Yc,Y,Yc,Y,Y,Y,Y],T:=[(3,ty3),(4,ty4),(9,ty9),(73,lp),(75,wM)],S:=[(80,fQ),(87,lG)],H:=[(0,([0,34,35,36],[]))],res:=[.tmp 4],ios:=[],G:=gl0}
def gQ:List D→Option Out:=cj nZ Try.f78
@[reducible] def nP:FS:={pm:=[Yc,Yc],rm:=[Y],f:=gQ}
theorem vt:aM gl0 Try.prog 78 nP:=aZ (c:=nZ) (aj gG (aj pQ aK)) Try.func78 rfl rfl (by kernel_rfl)
@[reducible] def lO:Cx:={K:=[Y,Y,.no,.no,Y,Y,Y,Y,Y,Y,Y,Y,Y,Y,Y,Y,Y,Y,Y,Y,Y,Y,Y,Y,Y,Y],T:=[(3,ty3),(5,ty5),(9,ty9)],S:=[(80,fQ)],H:=[(0,([0,1,5],[0,1]))],res:=[.tmp 4],ios:=[],G:=gl0}
def ew:List D→Option Out:=cj lO Try.f107
@[reducible] def iG:FS:={pm:=[Y,Y],rm:=[Y],f:=ew}
theorem me:aM gl0 Try.prog 107 iG:=aZ (c:=lO) (aj gG aK) Try.func107 rfl rfl (by kernel_rfl)
@[reducible] def rh:Cx:={K:=[Y,.box 4 0 false,Y,Yr 1,Y,Y,Y,Yr 1,Y,Y,Y,Y,Yr 1,Y,Y,Y,Y,Yr 1,Y,Y,Y],T:=[(3,ty3),(9,ty9),(112,fW)],S:=[(80,fQ),(107,iG)],H:=[],res:=[.tmp 2],ios:=[],G:=gl0}
def jX:List D→Option Out:=cj rh Try.f110
@[reducible] def rY:FS:={pm:=[Y],rm:=[Y],f:=jX}
theorem yL:aM gl0 Try.prog 110 rY:=aZ (c:=rh) (aj gG (aj me aK)) Try.func110 rfl rfl (by kernel_rfl)
@[reducible] def pG:Cx:={K:=[Yc,.no,Y,Y,.box 4 0 false,.no,.box 4 0 false,Yc,Y,Y,Y,Y,Yc,Y,Y,Y,Y,Y,Y,Y,Y,Yc,Y,Y,Yc,Yc,Y,Yr 4,Y,Y,Y,Y,Yc,Y,Yc,Y,Y,Y,Yc,Y,Yr 6,Y,Yr 4,Y,Y,Y,Yr 6,Y,Yr 4,Y,Y,Y,Y,Y,Yc,Y,Y],T:=[(3,ty3),(9,ty9),(30,iB),(112,fW)],S:=[(80,fQ),(110,rY)],H:=[(0,([0,7,8,9],[0])),(2,([0,4,7,8,9,34,35,36],[0,7,8,9]))],res:=[.tmp 2],ios:=[],G:=gl0}
def gh:List D→Option Out:=cj pG Try.f79
@[reducible] def lz:FS:={pm:=[Yc],rm:=[Y],f:=gh}
theorem pL:aM gl0 Try.prog 79 lz:=aZ (c:=pG) (aj gG (aj yL aK)) Try.func79 rfl rfl (by kernel_rfl)
@[reducible] def qd:Cx:={K:=[Yc,.box 4 2 false,Y,Y,Y,.box 4 2 false,Yr 1,Yc,Y,Y,Y,Y,Yc,Yc,Yr 1,Yc,Yc,Y,Y,Y,Y,Y,Y,Yr 1,Yc,Y,Y,Yc,Yc,Y,Yr 5,Y,Y,Y,Y,Y,Yr 5,Y,Y,Y,Yr 1,Yc,Y,Y,Yr 1,Yc,Y,Y,Y,Y,Yr 1,Y,Y,Y,Y,Yr 1,Y,Y,Y,Y],T:=[(3,ty3),(4,ty4),(30,iB),(31,sP),(33,sS),(73,lp),(75,wM),(112,fW)],S:=[(78,nP),(79,lz),(80,fQ)],H:=[(0,([1,3,7,8,9],[1,3]))],res:=[.tmp 2],ios:=[],G:=gl0}
def gn:List D→Option Out:=cj qd Try.f41
@[reducible] def ly:FS:={pm:=[Yc],rm:=[Y],f:=gn}
theorem lD:aM gl0 Try.prog 41 ly:=aZ (c:=qd) (aj vt (aj pL (aj gG aK))) Try.func41 rfl rfl (by kernel_rfl)
@[reducible] def pH:Cx:={K:=[Y,Y,Y,.no,.no,.no,Y,Y,Y,Y,Y,Y,Y,Y,Y],T:=[(3,ty3)],S:=[],H:=[],res:=[.tmp 6],ios:=[],G:=gl0}
def cf:List D→Option Out:=cj pH Try.f67
@[reducible] def cY:FS:={pm:=[Y,Y,Y],rm:=[Y],f:=cf}
theorem du:aM gl0 Try.prog 67 cY:=aZ (c:=pH) aK Try.func67 rfl rfl (by kernel_rfl)
@[reducible] def ma:Cx:={K:=[Y,.no,Y,Y,Y],T:=[],S:=[(67,cY)],H:=[],res:=[.tmp 2],ios:=[],G:=gl0}
def ep:List D→Option Out:=cj ma Try.f92
@[reducible] def iJ:FS:={pm:=[Y],rm:=[Y],f:=ep}
theorem mj:aM gl0 Try.prog 92 iJ:=aZ (c:=ma) (aj du aK) Try.func92 rfl rfl (by kernel_rfl)
@[reducible] def sk:Cx:={K:=[Yc,Y,.no,.no,Y,Y,.box 4 0 false,Yc,Y,Y,Y,Y,Yc,Y,Yr 6,Y,Y,Y,Y,Y],T:=[(3,ty3),(9,ty9),(30,iB),(112,fW)],S:=[],H:=[(0,([1,7,8,9],[]))],res:=[.tmp 4],ios:=[],G:=gl0}
def gO:List D→Option Out:=cj sk Try.f113
@[reducible] def mE:FS:={pm:=[Yc,Y],rm:=[Y],f:=gO}
theorem rA:aM gl0 Try.prog 113 mE:=aZ (c:=sk) aK Try.func113 rfl rfl (by kernel_rfl)
@[reducible] def kW:Cx:={K:=[Y,Y,Y,.no,.no,.no,Y,Y,Y,Y,Y,Y,Y,Y,Y,Y,Y,Y,Y,Y,Y,Y,Y,Y,Y,Y,Y,Y,Y],T:=[(3,ty3),(5,ty5),(9,ty9)],S:=[(67,cY)],H:=[(0,([0,1,2,7],[0,1,2]))],res:=[.tmp 6],ios:=[],G:=gl0}
def dS:List D→Option Out:=cj kW Try.f105
@[reducible] def gY:FS:={pm:=[Y,Y,Y],rm:=[Y],f:=dS}
theorem kP:aM gl0 Try.prog 105 gY:=aZ (c:=kW) (aj du aK) Try.func105 rfl rfl (by kernel_rfl)
@[reducible] def pE:Cx:={K:=[Y,.no,Y,Y,Y],T:=[],S:=[(105,gY)],H:=[],res:=[.tmp 2],ios:=[],G:=gl0}
def iV:List D→Option Out:=cj pE Try.f116
@[reducible] def qg:FS:={pm:=[Y],rm:=[Y],f:=iV}
theorem wY:aM gl0 Try.prog 116 qg:=aZ (c:=pE) (aj kP aK) Try.func116 rfl rfl (by kernel_rfl)
@[reducible] def ny:Cx:={K:=[Y,.no,Y,Y,Y],T:=[],S:=[(67,cY)],H:=[],res:=[.tmp 2],ios:=[],G:=gl0}
def fF:List D→Option Out:=cj ny Try.f117
@[reducible] def oJ:FS:={pm:=[Y],rm:=[Y],f:=fF}
theorem vX:aM gl0 Try.prog 117 oJ:=aZ (c:=ny) (aj du aK) Try.func117 rfl rfl (by kernel_rfl)
@[reducible] def rL:Cx:={K:=[Y,.box 4 0 false,Y,Yr 1,Y,Y,Y,Yr 1,Y,Y,Y,Y,Yr 1,Y,Y,Y,Y,Yr 1,Y,Y,Y],T:=[(3,ty3),(9,ty9),(112,fW)],S:=[(67,cY),(116,qg),(117,oJ)],H:=[],res:=[.tmp 2],ios:=[],G:=gl0}
def ka:List D→Option Out:=cj rL Try.f101
@[reducible] def rq:FS:={pm:=[Y],rm:=[Y],f:=ka}
theorem yR:aM gl0 Try.prog 101 rq:=aZ (c:=rL) (aj du (aj wY (aj vX aK))) Try.func101 rfl rfl (by kernel_rfl)
@[reducible] def oB:Cx:={K:=[Yc,Y,Y,.no,.no,.no,Y,.no,.box 4 0 false,Yc,Y,Y,Y,Yc,Y,Yr 8,Y,Y,Y,Y,Yr 8,Y,Y,Y,Y,Y],T:=[(3,ty3),(9,ty9),(30,iB),(112,fW)],S:=[],H:=[(0,([1,2,9,10,11],[]))],res:=[.tmp 6],ios:=[],G:=gl0}
def iy:List D→Option Out:=cj oB Try.f102
@[reducible] def ov:FS:={pm:=[Yc,Y,Y],rm:=[Y],f:=iy}
theorem uJ:aM gl0 Try.prog 102 ov:=aZ (c:=oB) aK Try.func102 rfl rfl (by kernel_rfl)
@[reducible] def pV:Cx:={K:=[Yc,.no,Y,Y,.box 4 0 false,Yc,Y,Y,Y,Y,Yc,Y,Y,Y,Y,Y,Y,Y,Y,Yc,Y,Y,Yc,Yc,Y,Yr 4,Y,Y,Y,Y,Y,Yc,Y,Yc,Yr 4,Y,Yr 4,Y,Y,Y,Y,Yc,Y,Y],T:=[(3,ty3),(9,ty9),(30,iB),(112,fW)],S:=[(67,cY),(101,rq),(102,ov)],H:=[(0,([0,5,6,7],[0]))],res:=[.tmp 2],ios:=[],G:=gl0}
def dW:List D→Option Out:=cj pV Try.f66
@[reducible] def gi:FS:={pm:=[Yc],rm:=[Y],f:=dW}
theorem jd:aM gl0 Try.prog 66 gi:=aZ (c:=pV) (aj du (aj yR (aj uJ aK))) Try.func66 rfl rfl (by kernel_rfl)
@[reducible] def mR:Cx:={K:=[Yc,Yc,.no,.no,Y,.no,Y,Yc,Y,Y,Y,Yc,Y,Yc,Y,Y,Y,Y,Yc,Y,Y,Yc,Y,Y,Y],T:=[(3,ty3),(9,ty9),(73,lp)],S:=[(66,gi),(113,mE)],H:=[(0,([0,1,7,8,9],[0,1]))],res:=[.tmp 4],ios:=[],G:=gl0}
def eW:List D→Option Out:=cj mR Try.f100
@[reducible] def jA:FS:={pm:=[Yc,Yc],rm:=[Y],f:=eW}
theorem nf:aM gl0 Try.prog 100 jA:=aZ (c:=mR) (aj jd (aj rA aK)) Try.func100 rfl rfl (by kernel_rfl)
@[reducible] def nR:Cx:={K:=[Yc,Yc,.no,.box 4 2 false,Y,Yr 3,Y,Y,Y,Yc,Yr 3,Yc,Y,Y,Y,Yr 3,Yc,Y,Y,Y,Y,Yr 3,Y,Y,Y,Y,Yr 3,Y,Y,Y,Yr 3,Yc,Y,Y,Y,Y],T:=[(3,ty3),(4,ty4),(9,ty9),(73,lp),(75,wM)],S:=[(67,cY),(92,iJ),(100,jA)],H:=[],res:=[.tmp 4],ios:=[],G:=gl0}
def hY:List D→Option Out:=cj nR Try.f65
@[reducible] def oD:FS:={pm:=[Yc,Yc],rm:=[Y],f:=hY}
theorem uE:aM gl0 Try.prog 65 oD:=aZ (c:=nR) (aj du (aj mj (aj nf aK))) Try.func65 rfl rfl (by kernel_rfl)
@[reducible] def pP:Cx:={K:=[Yc,.box 4 2 false,Y,Y,Y,.box 4 2 false,Yr 1,Yc,Y,Y,Y,Y,Yc,Yc,Yr 1,Yc,Yc,Y,Y,Y,Y,Y,Y,Yr 1,Yc,Y,Y,Yc,Yc,Y,Yr 5,Y,Y,Y,Y,Y,Yr 5,Y,Y,Y,Yr 1,Yc,Y,Y,Yr 1,Yc,Y,Y,Y,Y,Yr 1,Y,Y,Y,Y,Yr 1,Y,Y,Y,Y,Yr 1,Y,Y,Y,Y],T:=[(3,ty3),(4,ty4),(30,iB),(31,sP),(33,sS),(73,lp),(75,wM),(112,fW)],S:=[(65,oD),(66,gi),(67,cY)],H:=[(0,([1,3,7,8,9],[1,3]))],res:=[.tmp 2],ios:=[],G:=gl0}
def dU:List D→Option Out:=cj pP Try.f34
@[reducible] def jh:FS:={pm:=[Yc],rm:=[Y],f:=dU}
theorem iW:aM gl0 Try.prog 34 jh:=aZ (c:=pP) (aj uE (aj jd (aj du aK))) Try.func34 rfl rfl (by kernel_rfl)
@[reducible] def qc:Cx:={K:=[Yc,.no,Yo 1 0,Yo 1 0,Yc,Yo 1 0],T:=[(9,ty9),(73,lp)],S:=[],H:=[],res:=[.tmp 2],ios:=[],G:=gl0}
def lC:List D→Option Out:=cj qc Try.f86
@[reducible] def wD:FS:={pm:=[Yc],rm:=[Yo 1 0],f:=lC}
theorem wV:aM gl0 Try.prog 86 wD:=aZ (c:=qc) aK Try.func86 rfl rfl (by kernel_rfl)
@[reducible] def pY:Cx:={K:=[Yc,Yc,Y,.no,.no,.no,Yo 4 0,Y,Yo 4 0,.no,Y,Yo 4 0,Yc,Yo 4 0,Yc,Y,Y,Y,Yc,Y,.via 8,.via 8,Y,Y,Yr 8,Yr 8,Y,Y,Y,Yr 8,Yr 8,Y,.via 8,Y,Y,Yo 4 0],T:=[(3,ty3),(9,ty9),(30,iB),(73,lp),(112,fW)],S:=[(79,lz),(87,lG)],H:=[(0,([2,8,14,15,16],[8]))],res:=[.tmp 6,.tmp 7],ios:=[],G:=gl0}
def iU:List D→Option Out:=cj pY Try.f49
@[reducible] def qo:FS:={pm:=[Yc,Yc,Y],rm:=[Yo 4 0,Y],f:=iU}
theorem pR:aM gl0 Try.prog 49 qo:=aZ (c:=pY) (aj pL (aj pQ aK)) Try.func49 rfl rfl (by kernel_rfl)
open Go Go.V
theorem Aj (x0 x1 x2:D):cv [x0,x1,x2]=((bin .geq false [] x0 x1).bind fun z=>(af (.tup []) z true (some x0)).bind fun c=>(af (.tup []) z true (some x2)).bind fun d=>(af (.tup []) z true (bin .leq false [] c d)).bind fun e=>(aR z e (B false)).bind fun z=>some (.ret [z] [])):=by kernel_rfl
theorem wE (x0 x1:D):gg [x0,x1]=((lenD false x0).bind fun z=>(bD (fun s=>(bin .lss false [] (sl s 3) (sl s 2)).bind fun z=>ifD z ((Ji D.ptr (bO 4 (sl s 1) (sl s 3))).bind fun z=>((ldD true 4 z).bind bw).bind fun z=>(stD 4 (.agg [.v (.string ⟨⟨[]⟩⟩),I 0,I 0,I 0]) (.ref 0 0) z).bind fun b=>(ab b (.ref 0 0)).bind fun z=>((atD b z).bind (an false 1)).bind fun z=>(bin .eql false [] z (sl s 0)).bind fun z=>ifD z (some (.ret [sl s 3] [])) ((bin .add false [] (sl s 3) (I 1)).bind fun z=>some (.nrm [sl s 0,sl s 1,sl s 2,z]))) (some (.ext 0 []))) [x1,x0,z,I 0]).bind fun o=>dH o (fun i _=>ifN (i.beq 0) (some (.ret [I (-1)] [])) none) fun a b=>some (.ret a b)):=by kernel_rfl
theorem wt (x0 x1:D):gQ [x0,x1]=((gT 4 x1).bind fun y=>(ab y (.ref 0 0)).bind fun z=>(((atD y z).bind (an false 1)).bind bw).bind fun z=>aq (cv [z,I 1,I 99]) fun c _=>(un .not (sl c 0)).bind fun z=>(af D.bad z false (ab y (.ref 0 1))).bind fun e=>(af (.tup []) z false ((atD y e).bind (an false 1))).bind fun f=>(af (.tup []) z false (lenD false f)).bind fun g=>(af (.tup []) z false (bin .gtr false [] g (I 40))).bind fun h=>(aR z (B true) h).bind fun z=>(af D.bad z false (ab y (.ref 0 3))).bind fun j=>(af (.tup []) z false (((atD y j).bind (an false 1)).bind bw)).bind fun k=>dD z false (aq (cv [k,I 0,I 100000]) fun c _=>some (.nrm [sl c 0])) [.tup []] fun l=>(af (.tup []) z false (un .not (sl l 0))).bind fun m=>(aR z (B true) m).bind fun z=>(af D.bad z false (ab y (.ref 0 2))).bind fun n=>(af (.tup []) z false (((atD y n).bind (an false 1)).bind bw)).bind fun p=>(af (.tup []) z false (some p)).bind fun d=>(af D.bad d true (ab y (.ref 0 1))).bind fun q=>(af (.tup []) d true ((atD y q).bind (an false 1))).bind fun r=>(af (.tup []) d true (lenD false r)).bind fun t=>(af (.tup []) d true (bin .eql false [] t (I 0))).bind fun u=>(af (.tup []) z false (aR d u (B false))).bind fun v=>(aR z (B true) v).bind fun z=>ifD z (some (.ret [B false] [])) ((ab y (.ref 0 1)).bind fun z=>((atD y z).bind (an false 1)).bind fun z=>(lenD false z).bind fun w=>(bD (fun s=>(bin .lss false [] (sl s 3) (sl s 2)).bind fun z=>ifD z ((Ji D.ptr (bO 1 (sl s 1) (sl s 3))).bind fun z=>((ldD false 1 z).bind bw).bind fun z=>aq (gg [sl s 0,z]) fun c _=>(bin .lss false [] (sl c 0) (I 0)).bind fun z=>ifD z (some (.ret [B false] [])) ((bin .add false [] (sl s 3) (I 1)).bind fun z=>some (.nrm [sl s 0,sl s 1,sl s 2,z]))) (some (.ext 0 []))) [x0,z,w,I 0]).bind fun o=>dH o (fun i _=>ifN (i.beq 0) (some (.ret [B true] [])) none) fun a b=>some (.ret a b))):=by kernel_rfl
theorem tq (x0 x1:D):ew [x0,x1]=((bD (fun s=>(lenD true (sl s 0)).bind fun z=>(bin .lss false [] (sl s 2) z).bind fun z=>ifD z ((rH (sl s 0) (sl s 2)).bind fun z=>(bin .lss false [] z (.v (JH JF 97))).bind fun z=>(af (.tup []) z false (some (sl s 0))).bind fun c=>(af (.tup []) z false (some (sl s 2))).bind fun d=>(af (.tup []) z false (rH c d)).bind fun e=>(af (.tup []) z false (bin .gtr false [] e (.v (JH JF 122)))).bind fun f=>(aR z (B true) f).bind fun z=>ifD z (some (.ret [B false] [])) ((bin .add false [] (sl s 2) (I 1)).bind fun z=>some (.nrm [sl s 0,sl s 1,z]))) (some (.ext 0 [sl s 0,sl s 1]))) [x0,x1,I 0]).bind fun o=>dH o (fun i s=>ifN (i.beq 0) ((lenD true (sl s 0)).bind fun z=>aq (cv [z,I 1,sl s 1]) fun g _=>some (.ret [sl g 0] [])) none) fun a b=>some (.ret a b)):=by kernel_rfl
theorem yU (x0:D):jX [x0]=((gT 4 x0).bind fun y=>(ab y (.ref 0 0)).bind fun z=>((atD y z).bind (an false 1)).bind fun z=>aq (ew [z,I 3]) fun c _=>(af D.bad (sl c 0) true (ab y (.ref 0 1))).bind fun z=>(af (.tup []) (sl c 0) true ((atD y z).bind (an false 1))).bind fun z=>dD (sl c 0) true (aq (cv [z,I 0,I 9]) fun c _=>some (.nrm [sl c 0])) [.tup []] fun d=>(aR (sl c 0) (sl d 0) (B false)).bind fun z=>(af D.bad z true (ab y (.ref 0 2))).bind fun e=>(af (.tup []) z true ((atD y e).bind (an false 1))).bind fun f=>dD z true (aq (cv [f,I 0,I 9]) fun c _=>some (.nrm [sl c 0])) [.tup []] fun d=>(aR z (sl d 0) (B false)).bind fun z=>(af D.bad z true (ab y (.ref 0 3))).bind fun g=>(af (.tup []) z true ((atD y g).bind (an false 1))).bind fun h=>dD z true (aq (cv [h,I 0,I 9999]) fun c _=>some (.nrm [sl c 0])) [.tup []] fun d=>(aR z (sl d 0) (B false)).bind fun z=>some (.ret [z] [])):=by kernel_rfl
theorem xn (x0:D):gh [x0]=((lenD false x0).bind fun z=>(bD (fun s=>(bin .lss false [] (sl s 3) (sl s 2)).bind fun z=>ifD z ((Ji D.ptr (bO 4 (sl s 1) (sl s 3))).bind fun z=>((ldD true 4 z).bind bw).bind fun z=>(stD 4 (.agg [.v (.string ⟨⟨[]⟩⟩),I 0,I 0,I 0]) (.ref 0 0) z).bind fun b=>(bM true 4 0 b).bind fun z=>aq (jX [z]) fun d _=>(un .not (sl d 0)).bind fun z=>(af (.tup []) z false (some (sl s 3))).bind fun e=>(af (.tup []) z false (bin .gtr false [] e (I 0))).bind fun f=>(af (.tup []) z false (some f)).bind fun c=>(af (.tup []) c true (some (sl s 0))).bind fun g=>(af (.tup []) c true (some (sl s 3))).bind fun h=>(af (.tup []) c true (bin .sub false [] h (I 1))).bind fun j=>(af (.tup []) c true (Ji D.ptr (bO 4 g j))).bind fun k=>(af (.tup []) c true (td 0 k)).bind fun l=>(af (.tup []) c true ((ldD false 1 l).bind bw)).bind fun m=>(af D.bad c true (ab b (.ref 0 0))).bind fun n=>(af (.tup []) c true ((atD b n).bind (an false 1))).bind fun p=>(af (.tup []) c true (bin .geq false [] m p)).bind fun q=>(af (.tup []) z false (aR c q (B false))).bind fun r=>(aR z (B true) r).bind fun z=>ifD z (some (.ret [B false] [])) ((ga false 4 (sl s 0) (I 0) (sl s 3)).bind fun z=>(lenD false z).bind fun t=>(bD (fun s=>(bin .lss false [] (sl s 7) (sl s 6)).bind fun z=>ifD z ((Ji D.ptr (bO 4 (sl s 5) (sl s 7))).bind fun z=>((ldD true 4 z).bind bw).bind fun z=>(stD 4 (.agg [.v (.string ⟨⟨[]⟩⟩),I 0,I 0,I 0]) (.ref 0 0) z).bind fun b=>(ab b (.ref 0 1)).bind fun z=>((atD b z).bind (an false 1)).bind fun z=>(ab (sl s 1) (.ref 0 1)).bind fun u=>((atD (sl s 1) u).bind (an false 1)).bind fun v=>(bin .eql false [] z v).bind fun z=>(af D.bad z true (ab b (.ref 0 2))).bind fun w=>(af (.tup []) z true ((atD b w).bind (an false 1))).bind fun za=>(af D.bad z true (ab (sl s 1) (.ref 0 2))).bind fun zb=>(af (.tup []) z true ((atD (sl s 1) zb).bind (an false 1))).bind fun zc=>(af (.tup []) z true (bin .eql false [] za zc)).bind fun zd=>(aR z zd (B false)).bind fun z=>ifD z (some (.ret [B false] [])) ((bin .add false [] (sl s 7) (I 1)).bind fun z=>some (.nrm [sl s 0,sl s 1,sl s 2,sl s 3,sl s 4,sl s 5,sl s 6,z]))) (some (.ext 2 [sl s 0,sl s 2,sl s 3,sl s 4]))) [sl s 0,b,sl s 1,sl s 2,sl s 3,z,t,I 0]).bind fun o=>dH o (fun i s=>ifN (i.beq 2) ((bin .add false [] (sl s 3) (I 1)).bind fun z=>some (.nrm [sl s 0,sl s 1,sl s 2,z])) (ifN (i.beq 1) ((bin .add false [] (sl s 3) (I 1)).bind fun z=>some (.nrm [sl s 0,sl s 1,sl s 2,z])) (some (.ext i [sl s 0])))) fun a b=>some (.ret a b))) (some (.ext 0 [sl s 0]))) [x0,x0,z,I 0]).bind fun o=>dH o (fun i s=>ifN (i.beq 0) ((lenD false (sl s 0)).bind fun z=>aq (cv [z,I 1,I 32]) fun d _=>some (.ret [sl d 0] [])) none) fun a b=>some (.ret a b)):=by kernel_rfl
theorem wZ (x0:D):gn [x0]=((gT 4 x0).bind fun y=>(ab y (.ref 0 1)).bind fun z=>((atD y z).bind (an false 1)).bind fun z=>(lenD false z).bind fun k=>(bD (fun s=>(bin .lss false [] (sl s 4) (sl s 3)).bind fun z=>ifD z ((Ji D.ptr (bO 4 (sl s 2) (sl s 4))).bind fun z=>(ldD true 4 z).bind fun z=>(stD 4 (.agg [I 0,.arr 1 [],B false,I 0]) (.ref 0 0) z).bind fun b=>(ab (sl s 0) (.ref 0 0)).bind fun z=>((atD (sl s 0) z).bind (an false 1)).bind fun z=>(bM true 4 0 b).bind fun e=>aq (gQ [z,e]) fun d _=>(un .not (sl d 0)).bind fun z=>(af (.tup []) z false (some (sl s 4))).bind fun f=>(af (.tup []) z false (bin .gtr false [] f (I 0))).bind fun g=>(af (.tup []) z false (some g)).bind fun c=>(af D.bad c true (ab (sl s 0) (.ref 0 1))).bind fun h=>(af (.tup []) c true ((atD (sl s 0) h).bind (an false 1))).bind fun l=>(af (.tup []) c true (some (sl s 4))).bind fun m=>(af (.tup []) c true (bin .sub false [] m (I 1))).bind fun n=>(af (.tup []) c true (Ji D.ptr (bO 4 l n))).bind fun p=>(af (.tup []) c true (td 0 p)).bind fun q=>(af (.tup []) c true ((ldD false 1 q).bind bw)).bind fun r=>(af D.bad c true (ab b (.ref 0 0))).bind fun t=>(af (.tup []) c true (((atD b t).bind (an false 1)).bind bw)).bind fun u=>(af (.tup []) c true (bin .geq false [] r u)).bind fun v=>(af (.tup []) z false (aR c v (B false))).bind fun w=>(aR z (B true) w).bind fun z=>ifD z (some (.ret [B false] [])) ((ab b (.ref 0 3)).bind fun z=>(((atD b z).bind (an false 1)).bind bw).bind fun z=>(bin .add false [] (sl s 1) z).bind fun z=>(bin .add false [] (sl s 4) (I 1)).bind fun za=>some (.nrm [sl s 0,z,sl s 2,sl s 3,za]))) (some (.ext 0 [sl s 0,sl s 1]))) [y,I 0,z,k,I 0]).bind fun o=>dH o (fun i s=>ifN (i.beq 0) ((ab (sl s 0) (.ref 0 0)).bind fun z=>((atD (sl s 0) z).bind (an false 1)).bind fun z=>aq (gh [z]) fun d _=>(af D.bad (sl d 0) true (ab (sl s 0) (.ref 0 1))).bind fun z=>(af (.tup []) (sl d 0) true ((atD (sl s 0) z).bind (an false 1))).bind fun z=>(af (.tup []) (sl d 0) true (lenD false z)).bind fun z=>(af (.tup []) (sl d 0) true (bin .leq false [] z (I 5))).bind fun z=>(aR (sl d 0) z (B false)).bind fun z=>(af D.bad z true (ab (sl s 0) (.ref 0 2))).bind fun e=>(af (.tup []) z true (((atD (sl s 0) e).bind (an false 1)).bind bw)).bind fun f=>dD z true (aq (cv [f,I 0,I 9999]) fun d _=>some (.nrm [sl d 0])) [.tup []] fun j=>(aR z (sl j 0) (B false)).bind fun z=>(af D.bad z true (ab (sl s 0) (.ref 0 3))).bind fun g=>(af (.tup []) z true (((atD (sl s 0) g).bind (an false 1)).bind bw)).bind fun c=>(af (.tup []) z true (some (sl s 1))).bind fun h=>dD z true (aq (cv [c,h,I 1000000]) fun d _=>some (.nrm [sl d 0])) [.tup []] fun j=>(aR z (sl j 0) (B false)).bind fun z=>some (.ret [z] [])) none) fun a b=>some (.ret a b)):=by kernel_rfl
theorem wN (x0 x1 x2:D):cf [x0,x1,x2]=((bin .geq false [] x0 x1).bind fun z=>(af (.tup []) z true (some x0)).bind fun c=>(af (.tup []) z true (some x2)).bind fun d=>(af (.tup []) z true (bin .leq false [] c d)).bind fun e=>(aR z e (B false)).bind fun z=>some (.ret [z] [])):=by kernel_rfl
theorem sO (x0:D):ep [x0]=(aq (cf [x0,I 1,I 99]) fun c _=>some (.ret [sl c 0] [])):=by kernel_rfl
theorem yf (x0 x1:D):gO [x0,x1]=((lenD false x0).bind fun z=>(bD (fun s=>(bin .lss false [] (sl s 3) (sl s 2)).bind fun z=>ifD z ((Ji D.ptr (bO 4 (sl s 1) (sl s 3))).bind fun z=>((ldD true 4 z).bind bw).bind fun z=>(stD 4 (.agg [.v (.string ⟨⟨[]⟩⟩),I 0,I 0,I 0]) (.ref 0 0) z).bind fun b=>(ab b (.ref 0 0)).bind fun z=>((atD b z).bind (an false 1)).bind fun z=>(bin .eql false [] z (sl s 0)).bind fun z=>ifD z (some (.ret [sl s 3] [])) ((bin .add false [] (sl s 3) (I 1)).bind fun z=>some (.nrm [sl s 0,sl s 1,sl s 2,z]))) (some (.ext 0 []))) [x1,x0,z,I 0]).bind fun o=>dH o (fun i _=>ifN (i.beq 0) (some (.ret [I (-1)] [])) none) fun a b=>some (.ret a b)):=by kernel_rfl
theorem sF (x0 x1 x2:D):dS [x0,x1,x2]=((bD (fun s=>(lenD true (sl s 0)).bind fun z=>(bin .lss false [] (sl s 3) z).bind fun z=>ifD z ((rH (sl s 0) (sl s 3)).bind fun z=>(bin .lss false [] z (.v (JH JF 97))).bind fun z=>(af (.tup []) z false (some (sl s 0))).bind fun c=>(af (.tup []) z false (some (sl s 3))).bind fun d=>(af (.tup []) z false (rH c d)).bind fun e=>(af (.tup []) z false (bin .gtr false [] e (.v (JH JF 122)))).bind fun f=>(aR z (B true) f).bind fun z=>ifD z (some (.ret [B false] [])) ((bin .add false [] (sl s 3) (I 1)).bind fun z=>some (.nrm [sl s 0,sl s 1,sl s 2,z]))) (some (.ext 0 [sl s 0,sl s 1,sl s 2]))) [x0,x1,x2,I 0]).bind fun o=>dH o (fun i s=>ifN (i.beq 0) ((lenD true (sl s 0)).bind fun z=>aq (cf [z,sl s 1,sl s 2]) fun g _=>some (.ret [sl g 0] [])) none) fun a b=>some (.ret a b)):=by kernel_rfl
theorem wy (x0:D):iV [x0]=(aq (dS [x0,I 1,I 3]) fun c _=>some (.ret [sl c 0] [])):=by kernel_rfl
theorem wi (x0:D):fF [x0]=(aq (cf [x0,I 0,I 9]) fun c _=>some (.ret [sl c 0] [])):=by kernel_rfl
theorem yH (x0:D):ka [x0]=((gT 4 x0).bind fun y=>(ab y (.ref 0 0)).bind fun z=>((atD y z).bind (an false 1)).bind fun z=>aq (iV [z]) fun c _=>(af D.bad (sl c 0) true (ab y (.ref 0 1))).bind fun z=>(af (.tup []) (sl c 0) true ((atD y z).bind (an false 1))).bind fun z=>dD (sl c 0) true (aq (fF [z]) fun c _=>some (.nrm [sl c 0])) [.tup []] fun d=>(aR (sl c 0) (sl d 0) (B false)).bind fun z=>(af D.bad z true (ab y (.ref 0 2))).bind fun e=>(af (.tup []) z true ((atD y e).bind (an false 1))).bind fun f=>dD z true (aq (fF [f]) fun c _=>some (.nrm [sl c 0])) [.tup []] fun d=>(aR z (sl d 0) (B false)).bind fun z=>(af D.bad z true (ab y (.ref 0 3))).bind fun g=>(af (.tup []) z true ((atD y g).bind (an false 1))).bind fun h=>dD z true (aq (cf [h,I 0,I 9999]) fun c _=>some (.nrm [sl c 0])) [.tup []] fun d=>(aR z (sl d 0) (B false)).bind fun z=>some (.ret [z] [])):=by kernel_rfl
theorem uP (x0 x1 x2:D):iy [x0,x1,x2]=((lenD false x0).bind fun z=>(bD (fun s=>(bin .lss false [] (sl s 4) (sl s 3)).bind fun z=>ifD z ((Ji D.ptr (bO 4 (sl s 2) (sl s 4))).bind fun z=>((ldD true 4 z).bind bw).bind fun z=>(stD 4 (.agg [.v (.string ⟨⟨[]⟩⟩),I 0,I 0,I 0]) (.ref 0 0) z).bind fun b=>(ab b (.ref 0 1)).bind fun z=>((atD b z).bind (an false 1)).bind fun z=>(bin .eql false [] z (sl s 0)).bind fun z=>(af D.bad z true (ab b (.ref 0 2))).bind fun c=>(af (.tup []) z true ((atD b c).bind (an false 1))).bind fun d=>(af (.tup []) z true (some (sl s 1))).bind fun e=>(af (.tup []) z true (bin .eql false [] d e)).bind fun f=>(aR z f (B false)).bind fun z=>ifD z (some (.ret [B true] [])) ((bin .add false [] (sl s 4) (I 1)).bind fun z=>some (.nrm [sl s 0,sl s 1,sl s 2,sl s 3,z]))) (some (.ext 0 []))) [x1,x2,x0,z,I 0]).bind fun o=>dH o (fun i _=>ifN (i.beq 0) (some (.ret [B false] [])) none) fun a b=>some (.ret a b)):=by kernel_rfl
theorem wJ (x0:D):dW [x0]=((lenD false x0).bind fun z=>(bD (fun s=>(bin .lss false [] (sl s 3) (sl s 2)).bind fun z=>ifD z ((Ji D.ptr (bO 4 (sl s 1) (sl s 3))).bind fun z=>((ldD true 4 z).bind bw).bind fun z=>(stD 4 (.agg [.v (.string ⟨⟨[]⟩⟩),I 0,I 0,I 0]) (.ref 0 0) z).bind fun b=>(bM true 4 0 b).bind fun z=>aq (ka [z]) fun d _=>(un .not (sl d 0)).bind fun z=>(af (.tup []) z false (some (sl s 3))).bind fun e=>(af (.tup []) z false (bin .gtr false [] e (I 0))).bind fun f=>(af (.tup []) z false (some f)).bind fun c=>(af (.tup []) c true (some (sl s 0))).bind fun g=>(af (.tup []) c true (some (sl s 3))).bind fun h=>(af (.tup []) c true (bin .sub false [] h (I 1))).bind fun j=>(af (.tup []) c true (Ji D.ptr (bO 4 g j))).bind fun k=>(af (.tup []) c true (td 0 k)).bind fun l=>(af (.tup []) c true ((ldD false 1 l).bind bw)).bind fun m=>(af D.bad c true (ab b (.ref 0 0))).bind fun n=>(af (.tup []) c true ((atD b n).bind (an false 1))).bind fun p=>(af (.tup []) c true (bin .geq false [] m p)).bind fun q=>(af (.tup []) z false (aR c q (B false))).bind fun r=>(aR z (B true) r).bind fun z=>(af (.tup []) z false (some (sl s 0))).bind fun t=>(af (.tup []) z false (some (sl s 3))).bind fun u=>(af (.tup []) z false (ga false 4 t (I 0) u)).bind fun v=>(af D.bad z false (ab b (.ref 0 1))).bind fun w=>(af (.tup []) z false ((atD b w).bind (an false 1))).bind fun za=>(af D.bad z false (ab b (.ref 0 2))).bind fun zb=>(af (.tup []) z false ((atD b zb).bind (an false 1))).bind fun zc=>dD z false (aq (iy [v,za,zc]) fun d _=>some (.nrm [sl d 0])) [.tup []] fun zd=>(aR z (B true) (sl zd 0)).bind fun z=>ifD z (some (.ret [B false] [])) ((bin .add false [] (sl s 3) (I 1)).bind fun z=>some (.nrm [sl s 0,sl s 1,sl s 2,z]))) (some (.ext 0 [sl s 0]))) [x0,x0,z,I 0]).bind fun o=>dH o (fun i s=>ifN (i.beq 0) ((lenD false (sl s 0)).bind fun z=>aq (cf [z,I 1,I 32]) fun d _=>some (.ret [sl d 0] [])) none) fun a b=>some (.ret a b)):=by kernel_rfl
theorem ub (x0 x1:D):eW [x0,x1]=((lenD false x1).bind fun z=>(bD (fun s=>(bin .lss false [] (sl s 4) (sl s 3)).bind fun z=>ifD z ((Ji D.ptr (bO 1 (sl s 2) (sl s 4))).bind fun z=>((ldD false 1 z).bind bw).bind fun z=>aq (gO [sl s 0,z]) fun c _=>(bin .lss false [] (sl c 0) (I 0)).bind fun z=>ifD z (some (.ret [B false] [])) ((bin .add false [] (sl s 4) (I 1)).bind fun z=>some (.nrm [sl s 0,sl s 1,sl s 2,sl s 3,z]))) (some (.ext 0 [sl s 0,sl s 1]))) [x0,x1,x1,z,I 0]).bind fun o=>dH o (fun i s=>ifN (i.beq 0) (aq (dW [sl s 0]) fun c _=>(af (.tup []) (sl c 0) true (some (sl s 1))).bind fun z=>(af (.tup []) (sl c 0) true (lenD false z)).bind fun z=>(af (.tup []) (sl c 0) true (bin .leq false [] z (I 60))).bind fun z=>(aR (sl c 0) z (B false)).bind fun z=>some (.ret [z] [])) none) fun a b=>some (.ret a b)):=by kernel_rfl
theorem vA (x0 x1:D):hY [x0,x1]=((gT 4 x1).bind fun y=>(ab y (.ref 0 0)).bind fun z=>(((atD y z).bind (an false 1)).bind bw).bind fun z=>aq (ep [z]) fun c _=>(af (.tup []) (sl c 0) true (some x0)).bind fun z=>(af D.bad (sl c 0) true (ab y (.ref 0 1))).bind fun f=>(af (.tup []) (sl c 0) true ((atD y f).bind (an false 1))).bind fun g=>dD (sl c 0) true (aq (eW [z,g]) fun c _=>some (.nrm [sl c 0])) [.tup []] fun e=>(aR (sl c 0) (sl e 0) (B false)).bind fun z=>(af D.bad z true (ab y (.ref 0 1))).bind fun h=>(af (.tup []) z true ((atD y h).bind (an false 1))).bind fun j=>(af (.tup []) z true (lenD false j)).bind fun k=>(af (.tup []) z true (bin .leq false [] k (I 40))).bind fun l=>(aR z l (B false)).bind fun z=>(af D.bad z true (ab y (.ref 0 3))).bind fun m=>(af (.tup []) z true (((atD y m).bind (an false 1)).bind bw)).bind fun n=>dD z true (aq (cf [n,I 0,I 100000]) fun c _=>some (.nrm [sl c 0])) [.tup []] fun e=>(aR z (sl e 0) (B false)).bind fun z=>(af D.bad z true (ab y (.ref 0 2))).bind fun p=>(af (.tup []) z true (((atD y p).bind (an false 1)).bind bw)).bind fun q=>(af (.tup []) z true (un .not q)).bind fun r=>(af (.tup []) z true (some r)).bind fun d=>(af D.bad d false (ab y (.ref 0 1))).bind fun t=>(af (.tup []) d false ((atD y t).bind (an false 1))).bind fun u=>(af (.tup []) d false (lenD false u)).bind fun v=>(af (.tup []) d false (bin .gtr false [] v (I 0))).bind fun w=>(af (.tup []) z true (aR d (B true) w)).bind fun za=>(aR z za (B false)).bind fun z=>some (.ret [z] [])):=by kernel_rfl
theorem xe (x0:D):dU [x0]=((gT 4 x0).bind fun y=>(ab y (.ref 0 1)).bind fun z=>((atD y z).bind (an false 1)).bind fun z=>(lenD false z).bind fun n=>(bD (fun s=>(bin .lss false [] (sl s 4) (sl s 3)).bind fun z=>ifD z ((Ji D.ptr (bO 4 (sl s 2) (sl s 4))).bind fun z=>(ldD true 4 z).bind fun z=>(stD 4 (.agg [I 0,.arr 1 [],B false,I 0]) (.ref 0 0) z).bind fun b=>(ab (sl s 0) (.ref 0 0)).bind fun z=>((atD (sl s 0) z).bind (an false 1)).bind fun z=>(bM true 4 0 b).bind fun e=>aq (hY [z,e]) fun d _=>(un .not (sl d 0)).bind fun z=>(af (.tup []) z false (some (sl s 4))).bind fun f=>(af (.tup []) z false (bin .gtr false [] f (I 0))).bind fun g=>(af (.tup []) z false (some g)).bind fun c=>(af D.bad c true (ab (sl s 0) (.ref 0 1))).bind fun h=>(af (.tup []) c true ((atD (sl s 0) h).bind (an false 1))).bind fun j=>(af (.tup []) c true (some (sl s 4))).bind fun k=>(af (.tup []) c true (bin .sub false [] k (I 1))).bind fun l=>(af (.tup []) c true (Ji D.ptr (bO 4 j l))).bind fun p=>(af (.tup []) c true (td 0 p)).bind fun q=>(af (.tup []) c true ((ldD false 1 q).bind bw)).bind fun r=>(af D.bad c true (ab b (.ref 0 0))).bind fun t=>(af (.tup []) c true (((atD b t).bind (an false 1)).bind bw)).bind fun u=>(af (.tup []) c true (bin .geq false [] r u)).bind fun v=>(af (.tup []) z false (aR c v (B false))).bind fun w=>(aR z (B true) w).bind fun z=>ifD z (some (.ret [B false] [])) ((ab b (.ref 0 3)).bind fun z=>(((atD b z).bind (an false 1)).bind bw).bind fun z=>(bin .add false [] (sl s 1) z).bind fun z=>(bin .add false [] (sl s 4) (I 1)).bind fun za=>some (.nrm [sl s 0,z,sl s 2,sl s 3,za]))) (some (.ext 0 [sl s 0,sl s 1]))) [y,I 0,z,n,I 0]).bind fun o=>dH o (fun i s=>ifN (i.beq 0) ((ab (sl s 0) (.ref 0 0)).bind fun z=>((atD (sl s 0) z).bind (an false 1)).bind fun z=>aq (dW [z]) fun d _=>(af D.bad (sl d 0) true (ab (sl s 0) (.ref 0 1))).bind fun z=>(af (.tup []) (sl d 0) true ((atD (sl s 0) z).bind (an false 1))).bind fun z=>(af (.tup []) (sl d 0) true (lenD false z)).bind fun z=>(af (.tup []) (sl d 0) true (bin .leq false [] z (I 5))).bind fun z=>(aR (sl d 0) z (B false)).bind fun z=>(af D.bad z true (ab (sl s 0) (.ref 0 2))).bind fun e=>(af (.tup []) z true (((atD (sl s 0) e).bind (an false 1)).bind bw)).bind fun f=>dD z true (aq (cf [f,I 0,I 9999]) fun d _=>some (.nrm [sl d 0])) [.tup []] fun m=>(aR z (sl m 0) (B false)).bind fun z=>(af D.bad z true (ab (sl s 0) (.ref 0 3))).bind fun g=>(af (.tup []) z true (((atD (sl s 0) g).bind (an false 1)).bind bw)).bind fun c=>dD z true (aq (cf [c,I 0,I 1000000]) fun d _=>some (.nrm [sl d 0])) [.tup []] fun m=>(aR z (sl m 0) (B false)).bind fun z=>(af D.bad z true (ab (sl s 0) (.ref 0 3))).bind fun h=>(af (.tup []) z true (((atD (sl s 0) h).bind (an false 1)).bind bw)).bind fun j=>(af (.tup []) z true (some (sl s 1))).bind fun k=>(af (.tup []) z true (bin .geq false [] j k)).bind fun l=>(aR z l (B false)).bind fun z=>some (.ret [z] [])) none) fun a b=>some (.ret a b)):=by kernel_rfl
theorem wO (x0:D):lC [x0]=((bC 1 []).bind fun a=>(iE x0).bind fun b=>(gx 1 16 a b).bind fun y=>some (.ret [y] [])):=by kernel_rfl
theorem wC (x0 x1 x2:D):iU [x0,x1,x2]=((bC 4 []).bind fun a=>(iE x0).bind fun b=>(gx 4 40 a b).bind fun y=>(lenD false x1).bind fun z=>(bD (fun s=>(bin .lss false [] (sl s 4) (sl s 3)).bind fun z=>ifD z ((Ji D.ptr (bO 1 (sl s 2) (sl s 4))).bind fun z=>((ldD false 1 z).bind bw).bind fun z=>(ab (sl s 1) (.ref 0 0)).bind fun d=>(ab (sl s 1) (.ref 0 0)).bind fun e=>(ab e (sl s 1)).bind fun i=>aq (gg [i,z]) fun c _=>((ab d (sl s 1)).bind fun b=>tp 4 b (sl c 0)).bind fun z=>(cU 3 z).bind fun z=>((atD (sl s 1) z).bind (an false 1)).bind fun z=>(bin .add false [] z (sl s 0)).bind fun z=>((ab d (sl s 1)).bind fun b=>tp 4 b (sl c 0)).bind fun f=>(cU 3 f).bind fun g=>(stD 1 (sl s 1) g z).bind fun b=>(bin .add false [] (sl s 4) (I 1)).bind fun z=>some (.nrm [sl s 0,b,sl s 2,sl s 3,z])) (some (.ext 0 [sl s 1]))) [x2,y,x1,z,I 0]).bind fun o=>dH o (fun i s=>ifN (i.beq 0) ((ab (sl s 0) (.ref 0 0)).bind fun z=>(ab z (sl s 0)).bind fun i=>aq (gh [i]) fun c _=>(un .not (sl c 0)).bind fun z=>ifD z (some (.ret [.arr 4 [],B false] [])) (some (.ret [sl s 0,B true] []))) none) fun a b=>some (.ret a b)):=by kernel_rfl
theorem bG (a b c:Int):cv [I a,I b,I c]=some (.ret [B (decide (b≤a∧a≤c))] []):=by
 rw [Aj];by_cases h:b≤a<;>simp [h]
theorem bV (a b c:Int):cf [I a,I b,I c]=some (.ret [B (decide (b≤a∧a≤c))] []):=by
 rw [wN];by_cases h:b≤a<;>simp [h]
def eE {β:Type} (p:β→Bool):Nat→List β→Option Nat
 | _,[]=>none
 | i,x::l=>if p x=true then some i else eE p (i+1) l
theorem pg {β:Type} {body:List D→Option Out} (l:List β) (st:Nat→List D) (p:β→Bool) (o1:Nat→Out) (o2:Out) (hs:∀(i:Nat) (hi:i<l.length),body (st i)=some (if p l[i]=true then o1 i else .nrm (st (i+1)))) (he:body (st l.length)=some o2)
  (h1:∀i,(o1 i).ends=true) (h2:o2.ends=true) {s0:List D} (h:s0=st 0):bD body s0=some ((eE p 0 l).elim o2 o1):=by
 have e:∀(m:List β) (i:Nat),goL (fun i x (_:Unit)=>if p x=true then .inr (o1 i) else .inl ()) (fun _=>o2) i m ()=(eE p i m).elim o2 o1:=by
  intro m;induction m with
  | nil=>intro i;simp [goL,eE]
  | cons x m ih =>
   intro i;simp only [goL,eE];by_cases hp:p x=true
   ·simp [hp]
   ·simp [hp,ih]
 rw [←e];refine pf l (fun i _=>st i) (fun _ _=>True) _ _ (fun i x a hx _=>?_) (fun _ _=>⟨he,h2⟩) () trivial h
 have hi:i<l.length:=(Jk.1 hx).1;have hxe:l[i]=x:=(Jk.1 hx).2;have:=hs i hi;rw [hxe] at this;by_cases hp:p x=true
 ·simpa [hp,h1] using this
 ·simpa [hp] using this
theorem sU {α β:Type} {body:List D→Option Out} (l:List β) (st:Nat→α→List D) (Inv:Nat→α→Prop) (p:Nat→β→Bool) (f:α→β→α) (o1:Out) (fin:α→Out) (a:α) (hs:∀(i:Nat) (a:α) (hi:i<l.length),Inv i a→body (st i a)=some (if p i l[i]=true then .nrm (st (i+1) (f a l[i])) else o1)∧(p i l[i]=true→Inv (i+1) (f a l[i])))
  (he:∀a,Inv l.length a→body (st l.length a)=some (fin a)) (h1:o1.ends=true) (h2:∀a,(fin a).ends=true) (h0:Inv 0 a) {s0:List D} (h:s0=st 0 a):bD body s0=some (if dq p 0 l=true then fin (l.foldl f a) else o1):=by
 have e:∀(m:List β) (i:Nat) (a:α),goL (fun i x (a:α)=>if p i x=true then .inl (f a x) else .inr o1) fin i m a=if dq p i m=true then fin (m.foldl f a) else o1:=by
  intro m;induction m with
  | nil=>intro i a;simp [goL,dq]
  | cons x m ih =>
   intro i a;simp only [goL,dq,List.foldl_cons];by_cases hp:p i x=true
   ·simp [hp,ih]
   ·simp [hp]
 rw [←e];refine pf l st Inv _ _ (fun i x a hx hI=>?_) (fun a hI=>⟨he a hI,h2 a⟩) a h0 h
 have hi:i<l.length:=(Jk.1 hx).1;have hxe:l[i]=x:=(Jk.1 hx).2;have:=hs i a hi hI;rw [hxe] at this;by_cases hp:p i x=true
 ·simpa [hp] using this
 ·simpa [hp,h1] using this
def aC (s:ByteArray):List UInt8:=s.data.toList
theorem ke {s:ByteArray} {k:IntKind} {i:Nat}:rH (T s) (.v (.int k (i:Int)))=((aC s)[i]?).map fun b=>U b.toNat:=by simp [rH,aC]
theorem ex (s:ByteArray):s.size=(aC s).length:=rfl
theorem lW {a b:ByteArray} {bl:Bool} {eq:List Nat}:bin .geq bl eq (T a) (T b)=some (B (!JC a.toList b.toList)):=by simp [bin,qG]
def az (b:UInt8):Bool:=decide (97≤(b.toNat:Int))&&decide ((b.toNat:Int)≤122)
def cZ (s:ByteArray) (lo hi:Int):Bool:=dq (fun _ b=>az b) 0 (aC s)&&decide (lo≤(s.size:Int)∧(s.size:Int)≤hi)
theorem mg (s:ByteArray) (n:Int) (h:s.size≤9223372036854775807):ew [T s,I n]=some (.ret [B (cZ s 1 n)] []):=by
 rw [tq];rw [ex] at h;refine be _ (ib (aC s) (fun i=>[T s,I n,I i]) (fun _ b=>az b) (.ret [B false] []) (.ext 0 [T s,I n]) (fun i hi=>?_) ?_ rfl rfl rfl) ?_
 ·have hw:Jj.wrap ((i:Int)+1)=(i:Int)+1:=ay (by omega) (by omega)
  by_cases h1:97≤(((aC s)[i]).toNat:Int)
  ·by_cases h2:(((aC s)[i]).toNat:Int)≤122
   ·simp -implicitDefEqProofs [ex,ke,hi,hw,az,h1,h2,Jx.2 h1,Jx.2 h2]
   ·simp -implicitDefEqProofs [ex,ke,hi,hw,az,h1,h2,Jx.2 h1,JA.1 h2]
  ·simp -implicitDefEqProofs [ex,ke,hi,hw,az,h1,JA.1 h1]
 ·simp -implicitDefEqProofs [ex]
 ·by_cases hg:dq (fun _ b=>az b) 0 (aC s)=true<;>simp -implicitDefEqProofs [hg,cZ,bG]
theorem li (s:ByteArray) (m n:Int) (h:s.size≤9223372036854775807):dS [T s,I m,I n]=some (.ret [B (cZ s m n)] []):=by
 rw [sF];rw [ex] at h;refine be _ (ib (aC s) (fun i=>[T s,I m,I n,I i]) (fun _ b=>az b) (.ret [B false] []) (.ext 0 [T s,I m,I n]) (fun i hi=>?_) ?_ rfl rfl rfl) ?_
 ·have hw:Jj.wrap ((i:Int)+1)=(i:Int)+1:=ay (by omega) (by omega)
  by_cases h1:97≤(((aC s)[i]).toNat:Int)
  ·by_cases h2:(((aC s)[i]).toNat:Int)≤122
   ·simp -implicitDefEqProofs [ex,ke,hi,hw,az,h1,h2,Jx.2 h1,Jx.2 h2]
   ·simp -implicitDefEqProofs [ex,ke,hi,hw,az,h1,h2,Jx.2 h1,JA.1 h2]
  ·simp -implicitDefEqProofs [ex,ke,hi,hw,az,h1,JA.1 h1]
 ·simp -implicitDefEqProofs [ex]
 ·by_cases hg:dq (fun _ b=>az b) 0 (aC s)=true<;>simp -implicitDefEqProofs [hg,cZ,bV]
theorem xj (s:ByteArray) (h:s.size≤9223372036854775807):iV [T s]=some (.ret [B (cZ s 1 3)] []):=by
 rw [wy];simp [li s 1 3 h]
theorem vx (n:Int):fF [I n]=some (.ret [B (decide (0≤n∧n≤9))] []):=by
 rw [wi];simp [bV]
abbrev Bx:=ByteArray × Int × Int × Int
abbrev bx (x:Bx):D:=.agg [T x.1,I x.2.1,I x.2.2.1,I x.2.2.2]
abbrev bxs (l:List Bx):D:=.arr 4 (l.map bx)
theorem yb (x:Bx):(bx x).isV=true:=rfl
def qB (l:List Bx):Prop:=l.length≤1048576∧∀x∈l,x.1.size≤1048576
def po (x:Bx):Bool:=cZ x.1 1 3&&decide (0≤x.2.1∧x.2.1≤9)&&decide (0≤x.2.2.1∧x.2.2.1≤9)&&decide (0≤x.2.2.2∧x.2.2.2≤9999)
theorem yp (x:Bx) (h:x.1.size≤1048576):jX [bx x]=some (.ret [B (po x)] []):=by
 rw [yU];have e:=mg x.1 3 (by omega);cases h0:cZ x.1 1 3<;>rw [h0] at e
 ·simp -implicitDefEqProofs [e,po,h0]
 ·by_cases h1:0≤x.2.1∧x.2.1≤9<;>by_cases h2:0≤x.2.2.1∧x.2.2.1≤9<;>simp -implicitDefEqProofs [e,bG,po,h0,h1,h2]
theorem yj (x:Bx) (h:x.1.size≤1048576):ka [bx x]=some (.ret [B (po x)] []):=by
 rw [yH];have e:=xj x.1 (by omega);cases h0:cZ x.1 1 3<;>rw [h0] at e
 ·simp -implicitDefEqProofs [e,po,h0]
 ·by_cases h1:0≤x.2.1∧x.2.1≤9<;>by_cases h2:0≤x.2.2.1∧x.2.2.1≤9<;>simp -implicitDefEqProofs [e,vx,bV,po,h0,h1,h2]
def gc (x y:Bx):Bool:=decide (y.2.1=x.2.1)&&decide (y.2.2.1=x.2.2.1)
def pBx (l:List Bx) (i:Nat) (x:Bx):Bool:=po x && !(decide (0<i) && !JC (l.getD (i - 1) (ByteArray.empty,0,0,0)).1.toList x.1.toList)&&dq (fun _ y=>!gc x y) 0 (l.take i)
def bg (l:List Bx):Bool:=dq (pBx l) 0 l&&decide (1≤(l.length:Int)∧(l.length:Int)≤32)
theorem AM {l:List Bx} {i:Nat} (hi:i≤l.length):ga false 4 (bxs l) (I 0) (I (i:Int))=some (bxs (l.take i)):=by
 have:=BO (z:=4) (l:=l.map bx) (k:=.i64) (k':=.i64) (Nat.zero_le i) (by simpa using hi);rw [List.drop_zero,←Jp] at this;exact this
theorem jf (l:List Bx) (h:qB l):gh [bxs l]=some (.ret [B (bg l)] []):=by
 rw [xn];have hl:=h.1;simp only [cn,Jo,Jq];refine be _ (ib l (fun i=>[bxs l,bxs l,I l.length,I i]) (pBx l) (.ret [B false] []) (.ext 0 [bxs l]) (fun i hi=>?_) ?_ rfl rfl rfl) ?_
 ·have hw:Jj.wrap ((i:Int)+1)=(i:Int)+1:=ay (by omega) (by omega)
  have eb:=yp l[i] (h.2 _ (Js hi));have ht:=AM (Nat.le_of_lt hi);cases h1:po l[i]
  ·rw [h1] at eb
   simp -implicitDefEqProofs [hi,eb,h1,pBx]
  ·rw [h1] at eb
   by_cases h0:0<i
   ·have hw2:Jj.wrap ((i:Int) - 1)=((i - 1:Nat):Int):=by rw [ay (by omega) (by omega)];omega
    have hy:i - 1<l.length:=by omega
    cases h2:JC l[i - 1].1.toList l[i].1.toList
    ·simp -implicitDefEqProofs [hi,hy,eb,h1,pBx,hw2,h0,h2,lW]
    ·have hp:pBx l i l[i]=dq (fun _ y=>!gc l[i] y) 0 (l.take i):=by simp [pBx,h1,h0,h2,hy]
     rw [hp];have htl:(l.take i).length≤1048576:=by simp;omega
     simp -implicitDefEqProofs [hi,hy,eb,hw2,h0,h2,lW,ht,hw,←Jp,-JM,-Jp];generalize l.take i=t at ht htl;refine be _ (ib t (fun j=>[bxs l,bx l[i],bxs l,I l.length,I i,bxs t,I t.length,I j]) (fun _ y=>!gc l[i] y) (.ret [B false] []) (.ext 2 [bxs l,bxs l,I l.length,I i]) (fun j hj=>?_) ?_ rfl rfl rfl) ?_
     ·have hwj:Jj.wrap ((j:Int)+1)=(j:Int)+1:=ay (by omega) (by omega)
      by_cases c1:t[j].2.1=l[i].2.1<;>by_cases c2:t[j].2.2.1=l[i].2.2.1<;>simp -implicitDefEqProofs [hj,hwj,c1,c2,gc]
     ·simp -implicitDefEqProofs
     ·cases ha:dq (fun _ y=>!gc l[i] y) 0 t<;>simp -implicitDefEqProofs [hw]
   ·have hp:pBx l i l[i]=dq (fun _ y=>!gc l[i] y) 0 (l.take i):=by simp [pBx,h1,h0]
    rw [hp];have htl:(l.take i).length≤1048576:=by simp;omega
    simp -implicitDefEqProofs [hi,eb,h0,lW,ht,hw,←Jp,-JM,-Jp];generalize l.take i=t at ht htl;refine be _ (ib t (fun j=>[bxs l,bx l[i],bxs l,I l.length,I i,bxs t,I t.length,I j]) (fun _ y=>!gc l[i] y) (.ret [B false] []) (.ext 2 [bxs l,bxs l,I l.length,I i]) (fun j hj=>?_) ?_ rfl rfl rfl) ?_
    ·have hwj:Jj.wrap ((j:Int)+1)=(j:Int)+1:=ay (by omega) (by omega)
     by_cases c1:t[j].2.1=l[i].2.1<;>by_cases c2:t[j].2.2.1=l[i].2.2.1<;>simp -implicitDefEqProofs [hj,hwj,c1,c2,gc]
    ·simp -implicitDefEqProofs
    ·cases ha:dq (fun _ y=>!gc l[i] y) 0 t<;>simp -implicitDefEqProofs [hw]
 ·simp
 ·by_cases hg:dq (pBx l) 0 l=true<;>simp -implicitDefEqProofs [hg,bg,bG]
theorem vg (t:List Bx) (x:Bx) (h:t.length≤1048576):iy [bxs t,I x.2.1,I x.2.2.1]=some (.ret [B (!dq (fun _ y=>!gc x y) 0 t)] []):=by
 rw [uP];simp only [cn,Jo,Jq];refine be _ (ib t (fun j=>[I x.2.1,I x.2.2.1,bxs t,I t.length,I j]) (fun _ y=>!gc x y) (.ret [B true] []) (.ext 0 []) (fun j hj=>?_) ?_ rfl rfl rfl) ?_
 ·have hwj:Jj.wrap ((j:Int)+1)=(j:Int)+1:=ay (by omega) (by omega)
  by_cases c1:t[j].2.1=x.2.1<;>by_cases c2:t[j].2.2.1=x.2.2.1<;>simp -implicitDefEqProofs [hj,hwj,c1,c2,gc]
 ·simp -implicitDefEqProofs
 ·cases ha:dq (fun _ y=>!gc x y) 0 t<;>simp -implicitDefEqProofs
theorem dv (l:List Bx) (h:qB l):dW [bxs l]=some (.ret [B (bg l)] []):=by
 rw [wJ];have hl:=h.1;simp only [cn,Jo,Jq];refine be _ (ib l (fun i=>[bxs l,bxs l,I l.length,I i]) (pBx l) (.ret [B false] []) (.ext 0 [bxs l]) (fun i hi=>?_) ?_ rfl rfl rfl) ?_
 ·have hw:Jj.wrap ((i:Int)+1)=(i:Int)+1:=ay (by omega) (by omega)
  have eb:=yj l[i] (h.2 _ (Js hi));have ht:=AM (Nat.le_of_lt hi);have et:=vg (l.take i) l[i] (by simp;omega);cases h1:po l[i]
  ·rw [h1] at eb
   simp -implicitDefEqProofs [hi,eb,h1,pBx]
  ·rw [h1] at eb
   by_cases h0:0<i
   ·have hw2:Jj.wrap ((i:Int) - 1)=((i - 1:Nat):Int):=by rw [ay (by omega) (by omega)];omega
    have hy:i - 1<l.length:=by omega
    cases h2:JC l[i - 1].1.toList l[i].1.toList
    ·simp -implicitDefEqProofs [hi,hy,eb,h1,pBx,hw2,h0,h2,lW]
    ·have hp:pBx l i l[i]=dq (fun _ y=>!gc l[i] y) 0 (l.take i):=by simp [pBx,h1,h0,h2,hy]
     rw [hp];cases ha:dq (fun _ y=>!gc l[i] y) 0 (l.take i)<;>rw [ha] at et<;>simp -implicitDefEqProofs [hi,hy,eb,hw2,h0,h2,lW,ht,hw,et,←Jp,-Jp]
   ·have hp:pBx l i l[i]=dq (fun _ y=>!gc l[i] y) 0 (l.take i):=by simp [pBx,h1,h0]
    rw [hp];cases ha:dq (fun _ y=>!gc l[i] y) 0 (l.take i)<;>rw [ha] at et<;>simp -implicitDefEqProofs [hi,eb,h0,lW,ht,hw,et,←Jp,-Jp]
 ·simp
 ·by_cases hg:dq (pBx l) 0 l=true<;>simp -implicitDefEqProofs [hg,bg,bV]
def fB (l:List Bx) (c:ByteArray):Int:=(eE (fun b:Bx=>decide (b.1=c)) 0 l).elim (-1) fun j=>(j:Int)
theorem lq (l:List Bx) (c:ByteArray) (h:l.length≤1048576):gg [bxs l,T c]=some (.ret [I (fB l c)] []):=by
 rw [wE];simp only [cn,Jo,Jq];refine be _ (pg l (fun i=>[T c,bxs l,I l.length,I i]) (fun b:Bx=>decide (b.1=c)) (fun j=>.ret [I j] []) (.ext 0 []) (fun i hi=>?_) ?_ (fun _=>rfl) rfl rfl) ?_
 ·have hw:Jj.wrap ((i:Int)+1)=(i:Int)+1:=ay (by omega) (by omega)
  by_cases hc:l[i].1=c<;>simp -implicitDefEqProofs [hi,hw,hc]
 ·simp
 ·unfold fB
  cases eE (fun b:Bx=>decide (b.1=c)) 0 l<;>simp -implicitDefEqProofs
theorem rC (l:List Bx) (c:ByteArray) (h:l.length≤1048576):gO [bxs l,T c]=some (.ret [I (fB l c)] []):=by
 rw [yf];simp only [cn,Jo,Jq];refine be _ (pg l (fun i=>[T c,bxs l,I l.length,I i]) (fun b:Bx=>decide (b.1=c)) (fun j=>.ret [I j] []) (.ext 0 []) (fun i hi=>?_) ?_ (fun _=>rfl) rfl rfl) ?_
 ·have hw:Jj.wrap ((i:Int)+1)=(i:Int)+1:=ay (by omega) (by omega)
  by_cases hc:l[i].1=c<;>simp -implicitDefEqProofs [hi,hw,hc]
 ·simp
 ·unfold fB
  cases eE (fun b:Bx=>decide (b.1=c)) 0 l<;>simp -implicitDefEqProofs
abbrev txs (l:List ByteArray):D:=.arr 1 (l.map T)
def ky (l:List Bx) (cs:List ByteArray):Bool:=dq (fun _ c=>!decide (fB l c<0)) 0 cs
theorem mT (l:List Bx) (cs:List ByteArray) (h:qB l) (hc:cs.length≤1048576):eW [bxs l,txs cs]=some (.ret [B (ky l cs&&bg l&&decide ((cs.length:Int)≤60))] []):=by
 rw [ub];simp only [cn,Jo,Jq];refine be _ (ib cs (fun i=>[bxs l,txs cs,txs cs,I cs.length,I i]) (fun _ c=>!decide (fB l c<0)) (.ret [B false] []) (.ext 0 [bxs l,txs cs]) (fun i hi=>?_) ?_ rfl rfl rfl) ?_
 ·have hw:Jj.wrap ((i:Int)+1)=(i:Int)+1:=ay (by omega) (by omega)
  have eb:=rC l cs[i] h.1;by_cases hb:fB l cs[i]<0<;>simp -implicitDefEqProofs [hi,hw,eb,hb]
 ·simp
 ·cases ha:dq (fun _ c=>!decide (fB l c<0)) 0 cs
  ·simp -implicitDefEqProofs [ky,ha]
  ·cases hg:bg l<;>simp -implicitDefEqProofs [ky,ha,dv l h,hg]
abbrev Fm:=Int × List ByteArray × Bool × Int
abbrev fm (x:Fm):D:=.agg [I x.1,txs x.2.1,B x.2.2.1,I x.2.2.2]
abbrev fms (l:List Fm):D:=.arr 4 (l.map fm)
def Hz (l:List Fm):Prop:=l.length≤1048576∧∀x∈l,x.2.1.length≤1048576
def fY (l:List Bx) (x:Fm):Bool:=decide (1≤x.1∧x.1≤99) && !decide (40<(x.2.1.length:Int))&&decide (0≤x.2.2.2∧x.2.2.2≤100000) && !(x.2.2.1&&decide ((x.2.1.length:Int)=0))&&ky l x.2.1
theorem uN (l:List Bx) (x:Fm) (h:l.length≤1048576) (hx:x.2.1.length≤1048576):gQ [bxs l,fm x]=some (.ret [B (fY l x)] []):=by
 rw [wt];by_cases h1:1≤x.1∧x.1≤99
 case neg=>simp -implicitDefEqProofs [bG,fY,h1]
 by_cases h2:40<(x.2.1.length:Int)
 case pos=>simp -implicitDefEqProofs [bG,fY,h1,h2]
 by_cases h3:0≤x.2.2.2∧x.2.2.2≤100000
 case neg=>simp -implicitDefEqProofs [bG,fY,h1,h2,h3]
 have main:∀(body:List D→Option Out) (K:Out→Option Out) (r:Option Out),(∀(i:Nat) (hi:i<x.2.1.length),body [bxs l,txs x.2.1,I x.2.1.length,I i]=some (if (!decide (fB l x.2.1[i]<0))=true then .nrm [bxs l,txs x.2.1,I x.2.1.length,I (i+1:Nat)] else .ret [B false] [])) →
   body [bxs l,txs x.2.1,I x.2.1.length,I x.2.1.length]=some (.ext 0 [])→K (if ky l x.2.1=true then .ext 0 [] else .ret [B false] [])=r→(bD body [bxs l,txs x.2.1,I x.2.1.length,I 0]).bind K=r:=fun body K r g1 g2 g3 =>
  be _ (ib x.2.1 (fun i=>[bxs l,txs x.2.1,I x.2.1.length,I i]) (fun _ c=>!decide (fB l c<0)) (.ret [B false] []) (.ext 0 []) g1 g2 rfl rfl rfl) g3
 cases h4:x.2.2.1
 ·simp -implicitDefEqProofs [bG,fY,h1,h2,h3,h4]
  refine main _ _ _ (fun i hi=>?_) ?_ ?_
  ·have hw:Jj.wrap ((i:Int)+1)=(i:Int)+1:=ay (by omega) (by omega)
   have eb:=lq l x.2.1[i] h;by_cases hb:fB l x.2.1[i]<0<;>simp -implicitDefEqProofs [hi,hw,eb,hb]
  ·simp
  ·cases ky l x.2.1<;>simp -implicitDefEqProofs
 ·by_cases h5:(x.2.1.length:Int)=0
  ·have h5':x.2.1=[]:=Jr (by omega)
   simp -implicitDefEqProofs [bG,fY,h1,h3,h4,h5']
  ·have h5':¬x.2.1=[]:=fun e=>h5 (by simp [e])
   simp -implicitDefEqProofs [bG,fY,h1,h2,h3,h4,h5,h5'];refine main _ _ _ (fun i hi=>?_) ?_ ?_
   ·have hw:Jj.wrap ((i:Int)+1)=(i:Int)+1:=ay (by omega) (by omega)
    have eb:=lq l x.2.1[i] h;by_cases hb:fB l x.2.1[i]<0<;>simp -implicitDefEqProofs [hi,hw,eb,hb]
   ·simp
   ·cases ky l x.2.1<;>simp -implicitDefEqProofs
theorem aX (a:Int):ep [I a]=some (.ret [B (decide (1≤a∧a≤99))] []):=by
 rw [sO];simp [bV]
theorem nN (l:List Bx) (x:Fm) (h:qB l) (hx:x.2.1.length≤1048576):hY [bxs l,fm x]=some (.ret [B (fY l x&&bg l)] []):=by
 rw [vA];have ec:=mT l x.2.1 h hx;by_cases h1:1≤x.1∧x.1≤99
 case neg=>simp -implicitDefEqProofs [aX,fY,h1]
 cases ha:ky l x.2.1
 ·simp -implicitDefEqProofs [aX,fY,h1,ec,ha]
 cases hg:bg l
 ·simp -implicitDefEqProofs [aX,fY,h1,ec,ha,hg]
 by_cases h60:(x.2.1.length:Int)≤60
 case neg =>
  have h40:40<(x.2.1.length:Int):=by omega
  simp -implicitDefEqProofs [aX,fY,h1,ec,ha,hg,h60,h40]
 by_cases h2:40<(x.2.1.length:Int)
 case pos=>simp -implicitDefEqProofs [aX,fY,h1,ec,ha,hg,h60,h2,JA.2 h2]
 have h2':(x.2.1.length:Int)≤40:=by omega
 by_cases h3:0≤x.2.2.2∧x.2.2.2≤100000
 case neg=>simp -implicitDefEqProofs [aX,bV,fY,h1,ec,ha,hg,h60,h2,h2',h3]
 cases h4:x.2.2.1
 ·simp -implicitDefEqProofs [aX,bV,fY,h1,ec,ha,hg,h60,h2,h2',h3,h4]
 ·by_cases h5:(x.2.1.length:Int)=0
  ·have h5':x.2.1=[]:=Jr (by omega)
   rw [h5'] at ec ha;simp -implicitDefEqProofs [aX,bV,fY,h1,ec,ha,hg,h3,h4,h5']
  ·have h5':¬x.2.1=[]:=fun e=>h5 (by simp [e])
   have h6:0<(x.2.1.length:Int):=by omega
   have h6':0<x.2.1.length:=by omega
   simp -implicitDefEqProofs [aX,bV,fY,h1,ec,ha,hg,h60,h2,h2',h3,h4,h5,h5',h6,h6']
abbrev Sp:=List Bx × List Fm × Int × Int
abbrev sp (s:Sp):D:=.agg [bxs s.1,fms s.2.1,I s.2.2.1,I s.2.2.2]
def bH (s:Sp):Prop:=qB s.1∧Hz s.2.1
def pS (s:Sp) (i:Nat) (x:Fm):Bool:=fY s.1 x && !(decide (0<i)&&decide (x.1≤(s.2.1.getD (i - 1) (0,[],false,0)).1))
def lj (l:List Fm):Int:=l.foldl (fun a x=>a+x.2.2.2) 0
def aD (s:Sp):Bool:=dq (pS s) 0 s.2.1&&bg s.1&&decide ((s.2.1.length:Int)≤5)&&decide (0≤s.2.2.1∧s.2.2.1≤9999)&&decide (lj s.2.1≤s.2.2.2∧s.2.2.2≤1000000)
theorem cb {l:List Bx} {x:Fm} (h:fY l x=true):0≤x.2.2.2∧x.2.2.2≤100000:=by
 simp only [fY,Jl,decide_eq_true_eq] at h;exact h.1.1.2
theorem jb (s:Sp) (h:bH s):gn [sp s]=some (.ret [B (aD s)] []):=by
 rw [wZ];have hl:=h.2.1;have hb:=h.1.1;simp -implicitDefEqProofs;refine be _ (sU s.2.1 (fun i a=>[sp s,I a,fms s.2.1,I s.2.1.length,I i]) (fun i a=>0≤a∧a≤100000*(i:Int)) (pS s) (fun a x=>a+x.2.2.2) (.ret [B false] []) (fun a=>.ext 0 [sp s,I a]) 0 (fun i a hi hI=>?_) (fun a _=>?_) rfl (fun _=>rfl) (by simp) rfl) ?_
 ·have hw:Jj.wrap ((i:Int)+1)=(i:Int)+1:=ay (by omega) (by omega)
  have ef:=uN s.1 s.2.1[i] hb (h.2.2 _ (Js hi));cases h1:fY s.1 s.2.1[i]
  ·rw [h1] at ef
   exact⟨by simp -implicitDefEqProofs [hi,ef,h1,pS],fun hc=>by simp [pS,h1] at hc⟩
  ·rw [h1] at ef
   have hpr:=cb h1;have hwa:Jj.wrap (a+s.2.1[i].2.2.2)=a+s.2.1[i].2.2.2:=ay (by omega) (by omega);refine⟨?_,fun _=>by omega⟩
   by_cases h0:0<i
   ·have hw2:Jj.wrap ((i:Int) - 1)=((i - 1:Nat):Int):=by rw [ay (by omega) (by omega)];omega
    have hy:i - 1<s.2.1.length:=by omega
    by_cases h2:s.2.1[i].1≤s.2.1[i - 1].1<;>simp -implicitDefEqProofs [hi,hy,ef,h1,pS,hw,hw2,hwa,h0,h2]
   ·simp -implicitDefEqProofs [hi,ef,h1,pS,hw,hwa,h0]
 ·simp -implicitDefEqProofs
 ·unfold aD lj
  cases ha:dq (pS s) 0 s.2.1
  ·simp -implicitDefEqProofs
  generalize List.foldl (fun a (x:Fm)=>a+x.2.2.2) 0 s.2.1=S;cases hg:bg s.1
  ·simp -implicitDefEqProofs [jf s.1 h.1,hg]
  by_cases h5:s.2.1.length≤5
  case neg=>simp -implicitDefEqProofs [jf s.1 h.1,hg,h5,show ¬(s.2.1.length:Int)≤5 by omega]
  have h5':(s.2.1.length:Int)≤5:=by omega
  by_cases h6:0≤s.2.2.1∧s.2.2.1≤9999<;>simp -implicitDefEqProofs [jf s.1 h.1,bG,hg,h5,h5',h6]
theorem fh (s:Sp) (h:bH s):dU [sp s]=some (.ret [B (aD s)] []):=by
 rw [xe];have hl:=h.2.1;have hb:=h.1.1;simp -implicitDefEqProofs;cases hg:bg s.1
 ·refine be _ (sU s.2.1 (fun i a=>[sp s,I a,fms s.2.1,I s.2.1.length,I i]) (fun i a=>True) (fun _ _=>false) (fun a x=>a+x.2.2.2) (.ret [B false] []) (fun a=>.ext 0 [sp s,I a]) 0 (fun i a hi hI=>⟨?_,fun _=>trivial⟩) (fun a _=>?_) rfl (fun _=>rfl) trivial rfl) ?_
  ·have ef:=nN s.1 s.2.1[i] h.1 (h.2.2 _ (Js hi))
   rw [hg,Bool.and_false] at ef;simp -implicitDefEqProofs [hi,ef]
  ·simp -implicitDefEqProofs
  ·cases dq (fun _ (_:Fm)=>false) 0 s.2.1<;>simp -implicitDefEqProofs [aD,hg,dv s.1 h.1]
 refine be _ (sU s.2.1 (fun i a=>[sp s,I a,fms s.2.1,I s.2.1.length,I i]) (fun i a=>0≤a∧a≤100000*(i:Int)) (pS s) (fun a x=>a+x.2.2.2) (.ret [B false] []) (fun a=>.ext 0 [sp s,I a]) 0 (fun i a hi hI=>?_) (fun a _=>?_) rfl (fun _=>rfl) (by simp) rfl) ?_
 ·have hw:Jj.wrap ((i:Int)+1)=(i:Int)+1:=ay (by omega) (by omega)
  have ef:=nN s.1 s.2.1[i] h.1 (h.2.2 _ (Js hi));rw [hg,Bool.and_true] at ef;cases h1:fY s.1 s.2.1[i]
  ·rw [h1] at ef
   exact⟨by simp -implicitDefEqProofs [hi,ef,h1,pS],fun hc=>by simp [pS,h1] at hc⟩
  ·rw [h1] at ef
   have hpr:=cb h1;have hwa:Jj.wrap (a+s.2.1[i].2.2.2)=a+s.2.1[i].2.2.2:=ay (by omega) (by omega);refine⟨?_,fun _=>by omega⟩
   by_cases h0:0<i
   ·have hw2:Jj.wrap ((i:Int) - 1)=((i - 1:Nat):Int):=by rw [ay (by omega) (by omega)];omega
    have hy:i - 1<s.2.1.length:=by omega
    by_cases h2:s.2.1[i].1≤s.2.1[i - 1].1<;>simp -implicitDefEqProofs [hi,hy,ef,h1,pS,hw,hw2,hwa,h0,h2]
   ·simp -implicitDefEqProofs [hi,ef,h1,pS,hw,hwa,h0]
 ·simp -implicitDefEqProofs
 ·unfold aD
  cases ha:dq (pS s) 0 s.2.1
  ·simp -implicitDefEqProofs
  have hS:0≤lj s.2.1:=by
   have key:∀(l:List Fm) (i:Nat) (a:Int),0≤a→dq (pS s) i l=true→0≤l.foldl (fun a x=>a+x.2.2.2) a:=by
    intro l;induction l with
    | nil=>intro i a ha _;exact ha
    | cons x l ih =>
     intro i a h0 hp;simp only [dq,Jl] at hp;have:=cb (l:=s.1) (x:=x) (by
      have:=hp.1;simp only [pS,Jl] at this;exact this.1)
     exact ih (i+1) _ (show(0:Int)≤a+x.2.2.2 by omega) hp.2
   exact key s.2.1 0 0 (by omega) ha
  unfold lj at hS ⊢;generalize List.foldl (fun a (x:Fm)=>a+x.2.2.2) 0 s.2.1=S at hS;by_cases h5:s.2.1.length≤5
  case neg=>simp -implicitDefEqProofs [dv s.1 h.1,hg,h5,show ¬(s.2.1.length:Int)≤5 by omega]
  have h5':(s.2.1.length:Int)≤5:=by omega
  by_cases h6:0≤s.2.2.1∧s.2.2.1≤9999
  case neg=>simp -implicitDefEqProofs [dv s.1 h.1,bV,hg,h5,h5',h6]
  by_cases h7:0≤s.2.2.2∧s.2.2.2≤1000000
  case neg =>
   have h8:¬(S≤s.2.2.2∧s.2.2.2≤1000000):=by omega
   simp -implicitDefEqProofs [dv s.1 h.1,bV,hg,h5,h5',h6,h7,h8]
  by_cases h8:S≤s.2.2.2<;>simp -implicitDefEqProofs [dv s.1 h.1,bV,hg,h5,h5',h6,h7,h8]
open Go Go.Proofs Go.V Go.RowKit
def er (x:Fm) (y:Value):List Value:=[.int .i64 x.1,y,.bool x.2.2.1,.int .i64 x.2.2.2]
def bu:List Fm→List Value→List Value
 | x::l,y::ys=>er x y++bu l ys
 | _,_=>[]
theorem ch:∀(l:List Fm) (ys:List Value),ys.length=l.length→(bu l ys).length=l.length*4
 | [],[],_=>rfl
 | x::l,y::ys,h=>by
  simp only [bu,List.length_append,ch l ys (by simpa using h),er,JN,JP];omega
 | [],_::_,h=>by simp at h
 | _::_,[],h=>by simp at h
theorem aN:∀(l:List Fm) (ys:List Value) (i:Nat) (x:Fm) (y:Value),l[i]?=some x→ys[i]?=some y→∀f,f<4→(bu l ys)[i*4+f]?=(er x y)[f]?
 | a::l,b::ys,0,x,y,h1,h2,f,hf=>by
  simp only [List.getElem?_cons_zero,Jm] at h1 h2;subst h1 h2;simp only [bu];rw [Nat.zero_mul,Jw,List.getElem?_append_left (by simpa [er] using hf)]
 | a::l,b::ys,i+1,x,y,h1,h2,f,hf=>by
  simp only [List.getElem?_cons_succ] at h1 h2;simp only [bu];rw [show(i+1)*4+f=4+(i*4+f) by omega,Jz (by simp [er])];simp only [er,JN,JP];rw [show 4+(i*4+f) - (0+1+1+1+1)=i*4+f by omega];exact aN l ys i x y h1 h2 f hf
 | [],_,_,_,_,h1,_,_,_=>by simp at h1
 | _::_,[],_,_,_,_,h2,_,_=>by simp at h2
theorem jn {w:World} {base e size n:Nat} {v:Value} {xs:List Value} (h:w.ownsRow base e size v n xs) {g cap:Nat} (hv:v = .slice (some ⟨g,0,none⟩) n cap) (j:Nat) (u:Value):(w.setCell ⟨g,j,none⟩ u).ownsRow base e size v n (xs.set j u):=by
 obtain⟨h1,⟨hn,_⟩ | ⟨g',cap',cur,hg',h2,h3,h4,h5,h6,h7⟩⟩:=h
 ·rw [hn] at hv
  cases hv
 ·have e1:=hg'.symm.trans hv
  simp only [JL,Jm,JT,and_true,true_and] at e1;obtain⟨rfl,rfl⟩:=e1;refine⟨by rw [List.length_set];exact h1,.inr ⟨g',cap',cur.setIfInBounds j u,hg',h2,heap_setCell_same _ _ _ _ _ _ h3,h4,h5,by rw [Array.size_setIfInBounds];exact h6,?_⟩⟩
  rw [Array.toList_setIfInBounds,List.take_set,h7]
structure FmsAt (w:World) (B:Nat) (V:Value) (ys:List Value) (l:List Fm):Prop where
 len:ys.length=l.length
 own:w.ownsRow B 75 4 V l.length (bu l ys)
 row:∀(i:Nat) (x:Fm) (y:Value),l[i]?=some x→ys[i]?=some y→bv w (fun _=>False) (fun b=>y.ownBlock=some b) 1 (txs x.2.1) y
 blk:∀(i:Nat) (y:Value) (b:Nat),ys[i]?=some y→y.ownBlock=some b→B≤b∧V.ownBlock≠some b
 dis:∀(i j:Nat) (y z:Value),i≠j→ys[i]?=some y→ys[j]?=some z→y.ownBlock=none∨y.ownBlock≠z.ownBlock
end Go.Proofs.Ytkcojipciiakdaa

namespace Go.Proofs.Ytkcojipciiakdaa
open Go Go.V
theorem HK {l:List Fm} {i:Nat} (h:i<l.length):bO 4 (fms l) (I (i:Int))=some [I l[i].1,txs l[i].2.1,B l[i].2.2.1,I l[i].2.2.2]:=by
 rw [CL (by omega)];simp [h,D.cells]
theorem HZ (x:Fm):stD 4 (.agg [I 0,.arr 1 [],B false,I 0]) (.ref 0 0) (.agg [I x.1,txs x.2.1,B x.2.2.1,I x.2.2.2])=some (.agg [I x.1,txs x.2.1,B x.2.2.1,I x.2.2.2]):=by
 simp [stD,D.cells,D.single,cd,D.ofCells]
end Go.Proofs.Ytkcojipciiakdaa

namespace Go.V
open Go.RowKit
section
variable {P:Program} {G:List (Nat × (Obj→Prop))}
theorem kx {f:FuncId} {S:FS} (he:∀args w,(callFunc f args).run P w = .ok (.enter f args) w)
  (h:∀ds rs us,S.f ds=some (.ret rs us)→∀(args:Array Value) (w:World) (F:Nat→Prop) (ow:Nat→Option Nat),gOk G w F→dA w F ow 0 S.pm ds args.toList→(∀b,F b→b<w.heap.size∧ow b=none)→(∀b i,ow b=some i→b<w.heap.size) →
   Calls P f args w fun e w'=>∃v,e = .returned v∧∃F' R vs,v=jB vs∧CallPost S args rs us w F ow F' R vs w'):aM G P f S:=by
 intro ds rs us hd args w F ow hg ha hF hO o a next Q hn
 rw [he,JD];refine JO (h ds rs us hd args w F ow hg ha hF hO) (fun e w' hv=>?_)
 obtain⟨v,rfl,F',R,vs,h1,h2⟩:=hv;exact hn v w' ⟨F',R,vs,h1,h2⟩
theorem xL {w:World} {F:Nat→Prop}:∀(ks:List Kd) (ys:List Value),(ks.all fun k=>!lE k)=true→ks.length=ys.length→lK w F ks [] ys
 | [],[],_,_=>trivial
 | k::ks,y::ys,h,hl=>by
  simp only [List.all_cons,Jl,JK] at h;simp only [lK,h.1];exact xL ks ys h.2 (by simpa using hl)
 | [],_::_,_,hl=>by cases hl
 | _::_,[],_,hl=>by cases hl
theorem ww {w:World} {F:Nat→Prop}:∀(l:List ByteArray),bF w F (l.map T) (l.map Value.string)
 | []=>aP.2 rfl
 | s::l=>aA.2 ⟨[.string s],l.map Value.string,rfl,by simp only [RepC];exact⟨trivial,rfl⟩,ww l⟩
end
end Go.V

namespace Go.Proofs.Ytkcojipciiakdaa
open Go Go.Proofs Go.V Go.RowKit
set_option maxRecDepth 100000
theorem eV {P:Program} {G:List (Nat × (Obj→Prop))} {f:FuncId} {S:FS} (he:∀args w,(callFunc f args).run P w = .ok (.enter f args) w) (hm:aM G P f S) {ds rs us:List D} (hd:S.f ds=some (.ret rs us)) {args:Array Value} {w:World} {F:Nat→Prop} {ow:Nat→Option Nat}
  (hgl:gOk G w F) (ha:dA w F ow 0 S.pm ds args.toList) (hF:∀b,F b→b<w.heap.size∧ow b=none) (hO:∀b i,ow b=some i→b<w.heap.size) :
  Calls P f args w fun e w'=>∃v,e = .returned v∧∃F' R vs,v=jB vs∧CallPost S args rs us w F ow F' R vs w':=by
 have h2:=hm ds rs us hd args w F ow hgl ha hF hO {(default:Oper) with dst:=some 0} {tmps:=#[undef],defers:=[]} (fun a w'=>∃F' R vs,a.tmps.getD 0 undef=jB vs∧CallPost S args rs us w F ow F' R vs w') (fun _ _ _=>False) (fun v w' h=>by
  obtain⟨F',R,vs,rfl,h⟩:=h;exact⟨F',R,vs,by simp [Act.put],h⟩)
 rw [he,JD] at h2;refine JO h2 fun e w' he=>?_
 cases e with
 | returned v =>
  obtain⟨F',R,vs,h3,h4⟩:=he;exact⟨v,rfl,F',R,vs,by simpa [Act.put] using h3,h4⟩
 | panicked c=>exact he.elim
 | outgrown=>obtain⟨_,_,h⟩:=he;exact h.elim
theorem kZ {P:Program} {G:List (Nat × (Obj→Prop))} {f:FuncId} {S:FS} (he:∀args w,(callFunc f args).run P w = .ok (.enter f args) w) (hm:aM G P f S) {ds:List D} {y:Value} (f':List D→Option Out) (hf':S.f=f') (hd:f' ds=some (.ret [.v y] [])) (hrm:S.rm=[.dat 0]) {args:Array Value} {w:World} {F:Nat→Prop}
  (hgl:gOk G w F) (ha:dA w F (fun _=>none) 0 S.pm ds args.toList) (hF:∀b,F b→b<w.heap.size):Calls P f args w fun e w'=>e = .returned y∧Below w.heap.size w w':=by
 refine(eV he hm (hf' ▸ hd) hgl ha (fun b hb=>⟨hF b hb,rfl⟩) (fun b i h=>by cases h)).mono ?_
 rintro e w' ⟨v,rfl,F',R,vs,rfl,hpost⟩;have hl:=hpost.len;rw [hrm] at hl;obtain⟨u,rfl⟩:=JE.1 hl;have h0:=hpost.res 0;rw [hrm] at h0;simp only [ao,nth,List.getD_cons_zero] at h0;rcases h0 with h0 | h0
 ·cases h0
 exact⟨by rw [jB,(eG.1 h0).1],⟨hpost.os,hpost.tape,hpost.output,hpost.size,fun b hb=>hpost.keep b hb rfl⟩⟩
structure KeptX (S:Nat→Prop) (w w':World):Prop where
 os:w'.os=w.os
 tape:w'.tape=w.tape
 output:w'.output=w.output
 size:w.heap.size≤w'.heap.size
 block:∀b,b<w.heap.size→¬S b→w'.heap[b]?=w.heap[b]?
theorem KeptX.trans {S:Nat→Prop} {a b c:World} (h:KeptX S a b) (k:KeptX S b c):KeptX S a c :=
 ⟨k.os.trans h.os,k.tape.trans h.tape,k.output.trans h.output,JI h.size k.size,fun i hi hs=>(k.block i (Nat.lt_of_lt_of_le hi h.size) hs).trans (h.block i hi hs)⟩
theorem KeptX.refl (S:Nat→Prop) (w:World):KeptX S w w:=⟨rfl,rfl,rfl,Ju _,fun _ _ _=>rfl⟩
theorem KeptX.mono {S T:Nat→Prop} {w w':World} (h:KeptX S w w') (hst:∀b,S b→T b):KeptX T w w':=⟨h.os,h.tape,h.output,h.size,fun b hb ht=>h.block b hb fun hs=>ht (hst b hs)⟩
theorem KeptX.set {S:Nat→Prop} {w w':World} (h:KeptX S w w') (a:Addr) (v:Value) (ha:S a.block):KeptX S w (w'.setCell a v) :=
 h.trans ⟨rfl,rfl,rfl,by simp [World.setCell],fun b _ hs=>heap_setCell_other _ _ _ _ fun e=>hs (e ▸ ha)⟩
theorem KeptX.below {S:Nat→Prop} {w w':World} {B:Nat} (h:KeptX S w w') (hb:∀b,S b→B≤b) (hs:B≤w.heap.size):Below B w w':=⟨h.os,h.tape,h.output,h.size,fun b hlt=>h.block b (by omega) fun hS=>by have:=hb b hS;omega⟩
abbrev aH (y:Value):Nat→Prop:=fun b=>y.ownBlock=some b
set_option maxRecDepth 100000
def FmS (V:Value) (ys:List Value):Nat→Prop:=fun b=>aH V b∨∃y∈ys,aH y b
theorem ba {w w':World} {z:Nat} {d:D} {y:Value} (h:bv w (fun _=>False) (aH y) z d y) (hb:∀b,aH y b→w'.heap[b]?=w.heap[b]?):bv w' (fun _=>False) (aH y) z d y :=
 cV (fun b hb=>hb.elim) (fun b hb=>hb.elim) (fun g _ ho=>⟨ho,hb g ho⟩) h
theorem bf {w:World} {base e size n g cap:Nat} {xs:List Value} (h:w.ownsRow base e size (.slice (some ⟨g,0,none⟩) n cap) n xs) (j:Nat):w.frozen? ⟨g,j,none⟩=false:=by
 obtain⟨_,⟨hn,_⟩ | ⟨g',cap',cur,hg',_,h3,_⟩⟩:=h
 ·cases hn
 ·simp only [JL,Jm,JT,and_true,true_and] at hg'
  obtain⟨rfl,rfl⟩:=hg';exact Lib.frozen_of_heap h3 j
theorem AL (g j:Nat):((⟨g,0,none⟩:Addr).add j)=⟨g,j,none⟩:=by cases j<;>simp [Addr.add]
theorem aJ {w:World} {base e size n g cap:Nat} {xs:List Value} (h:w.ownsRow base e size (.slice (some ⟨g,0,none⟩) n cap) n xs) {j:Nat} {u:Value} (hj:xs[j]?=some u):w.cell? ⟨g,j,none⟩=some u:=by
 have:=h.cells (g:=g) rfl j u hj;rwa [AL] at this
theorem dc {w:World} {z:Nat} {d:D} {y:Value} (h:bv w (fun _=>False) (aH y) z d y):∀b,aH y b→b<w.heap.size:=fun b hb=>by
 obtain⟨l,_,_,h3⟩:=h;rcases h3 with ⟨rfl,_⟩ | ⟨g,o,c,us,cs,e,h4,_,h6,_⟩
 ·simp [aH,JS] at hb
 ·rw [h4] at hb
  simp only [aH,JS,Jm] at hb;subst hb;exact(Jn.1 h6).1
set_option maxRecDepth 100000
theorem ae {w:World} (o:Obj) {n:Nat} (h:n=w.heap.size):(w.alloc o).heap[n]?=some o:=by
 subst h;exact Array.getElem?_push_size
theorem ah {w:World} (o:Obj) {n:Nat} {x:Obj} (h:w.heap[n]?=some x):(w.alloc o).heap[n]?=some x :=
 ((World.grownBy_alloc w o none).block n (Jn.1 h).1 (by simp)).trans h
theorem bB {w:World} {F own:Nat→Prop} {z:Nat} {d:D} {y:Value} (h:bv w F own z d y):∃A n c,y = .slice A n c:=by
 obtain⟨l,_,_,h3⟩:=h;rcases h3 with ⟨rfl,_⟩ | ⟨g,o,c,us,cs,e,h4,_⟩
 ·exact⟨_,_,_,rfl⟩
 ·exact⟨_,_,_,h4⟩
set_option maxRecDepth 100000
theorem fw (w:World) (F own:Nat→Prop) (z:Nat):bv w F own z (.arr z []) (.slice none 0 0):=⟨[],rfl,fun _ h=>by simp at h,.inl ⟨rfl,rfl⟩⟩
theorem FmsAt.lt {w:World} {B:Nat} {V:Value} {ys:List Value} {l:List Fm} (h:FmsAt w B V ys l):∀b,FmS V ys b→B≤b∧b<w.heap.size:=by
 rintro b (hb | ⟨y,hy,hb⟩)
 ·exact h.own.lt b hb
 ·obtain⟨i,hi⟩:=List.mem_iff_getElem?.1 hy
  have hl:i<l.length:=by rw [←h.len];exact(Jk.1 hi).1
  exact⟨(h.blk i y b hi hb).1,dc (h.row i l[i] y (by simp) hi) b hb⟩
theorem FmsAt.keep {w w':World} {B:Nat} {V:Value} {ys:List Value} {l:List Fm} (h:FmsAt w B V ys l) (hk:∀b,FmS V ys b→w'.heap[b]?=w.heap[b]?):FmsAt w' B V ys l:=by
 refine⟨h.len,?_,fun i x y hx hy=>ba (h.row i x y hx hy) fun b hb=>hk b (.inr ⟨y,JG hy,hb⟩),h.blk,h.dis⟩
 obtain⟨h1,h2 | ⟨g,cap,cur,hg,h3,h4,h5⟩⟩:=h.own
 ·exact⟨h1,.inl h2⟩
 ·exact⟨h1,.inr ⟨g,cap,cur,hg,h3,(hk g (.inl (by rw [aH,hg];rfl))).trans h4,h5⟩⟩
theorem FmsAt.base {w:World} {B B':Nat} {V:Value} {ys:List Value} {l:List Fm} (h:FmsAt w B V ys l) (hb:B'≤B):FmsAt w B' V ys l:=by
 refine⟨h.len,?_,h.row,fun i y b hy hyb=>⟨JI hb (h.blk i y b hy hyb).1,(h.blk i y b hy hyb).2⟩,h.dis⟩
 obtain⟨h1,h2 | ⟨g,cap,cur,hg,h3,h4,h5⟩⟩:=h.own
 ·exact⟨h1,.inl h2⟩
 ·exact⟨h1,.inr ⟨g,cap,cur,hg,JI hb h3,h4,h5⟩⟩
theorem Av {w:World} {F:Nat→Prop} {l:List Fm} {us:List Value} (h:bF w F (l.map fm) us) {i:Nat} (hi:i<l.length) :
  ∃A n c,us[i*4]?=some (.int .i64 l[i].1)∧us[i*4+1]?=some (.slice A n c)∧us[i*4+2]?=some (.bool l[i].2.2.1)∧us[i*4+3]?=some (.int .i64 l[i].2.2.2)∧aU w F (txs l[i].2.1) (.slice A n c):=by
 obtain⟨p,m,q,rfl,hp,hm,hc,_⟩:=mi (z:=4) _ _ h (fun d hd=>by obtain⟨x,_,rfl⟩:=List.mem_map.1 hd;rfl) i (fm l[i]) (by simp [hi]);simp only [RepC,aA,aP] at hc;obtain⟨⟨v1,v2,rfl,⟨rfl,_⟩,v3,v4,rfl,hx,v5,v6,rfl,⟨rfl,_⟩,v7,v8,rfl,⟨rfl,_⟩,rfl⟩,_⟩:=hc;obtain⟨A,c,us',rfl,h2⟩:=hx;refine⟨A,_,c,?_,?_,?_,?_,⟨A,c,us',rfl,h2⟩⟩<;>rw [List.append_assoc,Jz (by omega),hp]<;>simp [show ∀k,i*4+k - i*4=k from fun k=>by omega]
theorem fE:(Try.prog.info? 75).map (fun i=>(i.zero,i.size,i.bytes))=some (some (.agg #[.int .i64 0,.slice none 0 0,.bool false,.int .i64 0]),4,48):=by kernel_rfl
set_option maxRecDepth 100000
theorem sG {w:World} {F own F':Nat→Prop} {z:Nat} {d:D} {y:Value} (h:bv w F own z d y) (h1:∀b,F b→F' b) (h2:∀b,own b→F' b):aU w F' d y:=by
 obtain⟨l,rfl,hw,⟨rfl,rfl⟩ | ⟨g,o,c,us,cs,e,rfl,hc,hg,hs,hr,hu,ho⟩⟩:=h
 ·exact⟨none,0,[],rfl,Ju _,aP.2 rfl,hw,fun h=>absurd rfl h⟩
 ·exact⟨_,c,us,rfl,hc,bm h1 (fun _ _=>rfl) _ _ hr,hw,fun _=>⟨g,o,rfl,h2 g ho,fun i u hi=>by simp [World.cell?,hg,hu i u hi]⟩⟩
theorem BX {w:World} {F:Nat→Prop}:∀(l:List Fm) (ys:List Value),ys.length=l.length→(∀(i:Nat) (x:Fm) (y:Value),l[i]?=some x→ys[i]?=some y→aU w F (txs x.2.1) y)→bF w F (l.map fm) (bu l ys)
 | [],[],_,_=>aP.2 rfl
 | x::l,y::ys,h,hr=>by
  refine aA.2 ⟨er x y,bu l ys,rfl,?_,BX l ys (by simpa using h) fun i x y hx hy=>hr (i+1) x y hx hy⟩
  have h0:=hr 0 x y rfl rfl;simp only [RepC,aA,aP];exact⟨⟨[_],[_,_,_],rfl,⟨rfl,rfl⟩,[_],[_,_],rfl,h0,[_],[_],rfl,⟨rfl,rfl⟩,[_],[],rfl,⟨rfl,rfl⟩,rfl⟩,rfl⟩
 | [],_::_,h,_=>by simp at h
 | _::_,[],h,_=>by simp at h
theorem FmsAt.rep {w:World} {B:Nat} {V:Value} {ys:List Value} {l:List Fm} (h:FmsAt w B V ys l):aU w (FmS V ys) (fms l) V:=by
 have hr:bF w (FmS V ys) (l.map fm) (bu l ys):=BX l ys h.len fun i x y hx hy=>sG (h.row i x y hx hy) (fun _ h=>h.elim) fun b hb=>.inr ⟨y,JG hy,hb⟩
 have hw:∀d∈l.map fm,d.width=4:=fun d hd=>by obtain⟨x,_,rfl⟩:=List.mem_map.1 hd;rfl
 have ho:=h.own;obtain⟨h1,⟨rfl,h2⟩ | ⟨g,cap,cur,rfl,h3,h4,h5,_⟩⟩:=h.own
 ·have:l=[]:=Jr h2
  subst this;exact⟨none,0,_,rfl,Ju _,hr,hw,fun h=>absurd rfl h⟩
 ·refine⟨_,cap,_,by rw [Jo],by rw [Jo];exact h5,hr,hw,fun _=>⟨g,0,rfl,.inl rfl,fun i u hi=>?_⟩⟩
  rw [Jw];exact aJ ho hi
structure ShopAt (w:World) (B:Nat) (v Vb Vf:Value) (ys:List Value) (s:Sp):Prop where
 val:v = .agg #[Vb,Vf,.int .i64 s.2.2.1,.int .i64 s.2.2.2]
 box:bv w (fun _=>False) (aH Vb) 4 (bxs s.1) Vb
 bge:∀b,aH Vb b→B≤b
 fms:FmsAt w B Vf ys s.2.1
 dis:∀b,aH Vb b→¬FmS Vf ys b
def ShS (Vb Vf:Value) (ys:List Value):Nat→Prop:=fun b=>aH Vb b∨FmS Vf ys b
theorem ShopAt.lt {w:World} {B:Nat} {v Vb Vf:Value} {ys:List Value} {s:Sp} (h:ShopAt w B v Vb Vf ys s):∀b,ShS Vb Vf ys b→B≤b∧b<w.heap.size:=by
 rintro b (hb | hb)
 ·exact⟨h.bge b hb,dc h.box b hb⟩
 ·exact h.fms.lt b hb
theorem ShopAt.keep {w w':World} {B:Nat} {v Vb Vf:Value} {ys:List Value} {s:Sp} (h:ShopAt w B v Vb Vf ys s) (hk:∀b,ShS Vb Vf ys b→w'.heap[b]?=w.heap[b]?):ShopAt w' B v Vb Vf ys s :=
 ⟨h.val,ba h.box fun b hb=>hk b (.inl hb),h.bge,h.fms.keep fun b hb=>hk b (.inr hb),h.dis⟩
theorem ShopAt.below {w w':World} {B:Nat} {v Vb Vf:Value} {ys:List Value} {s:Sp} (h:ShopAt w B v Vb Vf ys s) (hk:Below w.heap.size w w'):ShopAt w' B v Vb Vf ys s:=h.keep fun b hb=>hk.block b (h.lt b hb).2
theorem ShopAt.rep {w:World} {B:Nat} {v Vb Vf:Value} {ys:List Value} {s:Sp} (h:ShopAt w B v Vb Vf ys s):aU w (ShS Vb Vf ys) (sp s) v:=by
 obtain⟨rfl,h1,_,h2,_⟩:=h;refine⟨[_,_,_,_],rfl,?_⟩
 have e1:aU w (ShS Vb Vf ys) (bxs s.1) Vb:=sG h1 (fun _ h=>h.elim) fun b hb=>.inl hb
 have e2:aU w (ShS Vb Vf ys) (V.D.arr 4 (s.2.1.map fm)) Vf:=aS (fun b hb=>.inr hb) (fun _ _=>rfl) h2.rep;simp only [RepC,aA,aP];exact⟨⟨[_],[_,_,_],rfl,e1,[_],[_,_],rfl,e2,[_],[_],rfl,⟨rfl,rfl⟩,[_],[],rfl,⟨rfl,rfl⟩,rfl⟩,rfl⟩
theorem fK {w:World} {F:Nat→Prop} {s:Sp} {v:Value} (h:aU w F (sp s) v):∃A n c A' n' c',v = .agg #[.slice A n c,.slice A' n' c',.int .i64 s.2.2.1,.int .i64 s.2.2.2]∧aU w F (bxs s.1) (.slice A n c)∧aU w F (V.D.arr 4 (s.2.1.map fm)) (.slice A' n' c'):=by
 obtain⟨vs,rfl,h⟩:=h;simp only [RepC,aA,aP] at h;obtain⟨⟨v1,v2,rfl,h1,v3,v4,rfl,h2,v5,v6,rfl,⟨rfl,_⟩,v7,v8,rfl,⟨rfl,_⟩,rfl⟩,_⟩:=h;have h1':=h1;have h2':=h2;obtain⟨A,c,_,rfl,_⟩:=h1;obtain⟨A',c',_,rfl,_⟩:=h2;exact⟨A,_,c,A',_,c',rfl,by simp only [aU,RepC];exact h1',by simp only [aU,RepC];exact h2'⟩
theorem Du {f:Nat} {z:Nat} {ff:List D→Option Out} {d:D} (he:∀args w,(callFunc f args).run Try.prog w = .ok (.enter f args) w) (hm:aM gl0 Try.prog f {pm:=[.dat 2],rm:=[.own z 0 false],f:=ff}) (hd:ff [d]=some (.ret [d] [])) (hbad:d ≠ .bad) {w:World} {F:Nat→Prop} {y:Value} (hr:aU w F d y) (hF:∀b,F b→b<w.heap.size) :
  Calls Try.prog f #[y] w fun e w'=>∃A n c,e = .returned (.slice A n c)∧bv w' (fun _=>False) (aH (.slice A n c)) z d (.slice A n c)∧(∀b,aH (.slice A n c) b→w.heap.size≤b∧b<w'.heap.size)∧Below w.heap.size w w':=by
 refine(eV (ow:=fun _=>none) (F:=F) (ds:=[d]) (rs:=[d]) (us:=[]) (args:=#[y]) he hm hd jR
  (show eo w _ _ (.dat 2) d y∧True from⟨.inr hr,trivial⟩) (fun b hb=>⟨hF b hb,rfl⟩) (fun b i h=>by cases h)).mono ?_
 rintro e w' ⟨v,rfl,F',R,vs,rfl,hp⟩;have hl:=hp.len;obtain⟨u,rfl⟩:=JE.1 (hl.trans rfl);have h0:=hp.res 0;rcases h0 with h0 | h0
 ·exact absurd h0 hbad
 obtain⟨m,e1,h2,h3⟩:=h0;have hB:Below w.heap.size w w':=⟨hp.os,hp.tape,hp.output,hp.size,fun b hb=>hp.keep b hb rfl⟩
 rcases h3 with ⟨h3,h30⟩ | ⟨g,o,c,us,cs,e,h4,h5,h6,h7,h8,h9,_,h11⟩
 ·have h3':u = .slice none 0 0:=h3
  subst h3';exact⟨_,_,_,rfl,⟨m,e1,h2,.inl ⟨rfl,h30⟩⟩,(fun b hb=>by cases hb),hB⟩
 ·have h4':u = .slice (some ⟨g,o,none⟩) m.length c:=h4
  subst h4';exact⟨_,_,_,rfl,⟨m,e1,h2,.inr ⟨g,o,c,us,cs,e,rfl,h5,h6,h7,bm (fun b hb=>hb.elim) (fun b hb=>hb.elim) _ _ h8,h9,rfl⟩⟩,fun b hb=>by
   have hb':g=b:=Option.some.inj hb;subst hb';exact⟨h11,(Jn.1 h6).1⟩,hB⟩
set_option maxRecDepth 100000
theorem gX {w:World} (o:Obj) {b:Nat} (h:b<w.heap.size):(w.alloc o).heap[b]?=w.heap[b]?:=(World.grownBy_alloc w o none).block b h (by simp)
set_option maxRecDepth 100000
theorem Ci {vs:List Value} (h:vs.length=2):∃a b,vs=[a,b]:=match vs,h with
 | [a,b],_=>⟨a,b,rfl⟩
theorem wx {f:Nat} {ff:List D→Option Out} {a:D} {k:Int} {b:Value} (he:∀args w,(callFunc f args).run Try.prog w = .ok (.enter f args) w) (hm:aM gl0 Try.prog f {pm:=[.dat 2,.dat 0],rm:=[.dat 0],f:=ff}) (hd:ff [a,I k]=some (.ret [.v b] [])) {w:World} {F:Nat→Prop} {y:Value} (hr:aU w F a y) (hF:∀b,F b→b<w.heap.size) :
  Calls Try.prog f #[y,.int .i64 k] w fun e w'=>e = .returned b∧Below w.heap.size w w' :=
 kZ he hm ff rfl hd rfl jR
  (show eo w F _ (.dat 2) a y∧eo w _ _ (.dat 0) (I k) (.int .i64 k)∧True from⟨.inr hr,.inr (eG.2 ⟨rfl,rfl⟩),trivial⟩) hF
theorem eY {w:World} {z:Nat} {d:D} {y:Value} (h:bv w (fun _=>False) (aH y) z d y):aU w (aH y) d y:=sG h (fun _ h=>h.elim) fun _ h=>h
set_option maxRecDepth 100000
theorem bv.below {w w':World} {z:Nat} {d:D} {y:Value} (h:bv w (fun _=>False) (aH y) z d y) (hB:Below w.heap.size w w'):bv w' (fun _=>False) (aH y) z d y:=ba h fun b hb=>hB.block b (dc h b hb)
theorem Below.some {w w':World} {b:Nat} {o:Obj} (hB:Below w.heap.size w w') (h:w.heap[b]?=some o):w'.heap[b]?=some o:=(hB.block b (Jn.1 h).1).trans h
theorem bd {w:World} {b:Nat} {o:Obj} (h:w.heap[b]?=some o):b<w.heap.size:=(Jn.1 h).1
theorem au (w:World) (o:Obj):Below w.heap.size w (w.alloc o):=(Below.refl _ w).alloc (Ju _) _
theorem ac (w:World):Below w.heap.size w w.drew:=⟨rfl,rfl,rfl,Ju _,fun _ _=>rfl⟩
theorem bI {w w1 w2:World} {B:Nat} (h:Below B w w1) (k:Below w1.heap.size w1 w2) (hb:B≤w1.heap.size):Below B w w2:=h.trans (k.mono hb)
theorem KeptX.some {S:Nat→Prop} {w w':World} {b:Nat} {o:Obj} (hX:KeptX S w w') (h:w.heap[b]?=some o) (hS:¬S b):w'.heap[b]?=some o:=(hX.block b (bd h) hS).trans h
theorem aa {w:World} {b:Nat} {x0 x1 x2 x3:Value} {t:TypeId} (h:w.heap[b]?=some (.cells #[x0,x1,x2,x3] t (0,0))):w.cell? ⟨b,0,none⟩=some x0∧w.cell? ⟨b,1,none⟩=some x1∧w.cell? ⟨b,2,none⟩=some x2∧w.cell? ⟨b,3,none⟩=some x3:=by
 refine⟨?_,?_,?_,?_⟩<;>rw [Lib.cell_of_heap h]<;>rfl
end Go.Proofs.Ytkcojipciiakdaa

namespace Go.Proofs.Ytkcojipciiakdaa
open Go.V
set_option maxRecDepth 100000
@[reducible] def CA:TI:={agg:=true,n:=4,zero:=[.v (.int .i64 0),.v (.int .i64 0),.v (.string ⟨#[]⟩),.v (.int .i64 0)],fs:=[(0,3),(1,3),(2,9),(3,3)],eq:=[1,1,3,1]}
@[reducible] def Ig:TI:={n:=1,zero:=[.arr 4 []],elem:=46,ez:=4,eb:=40}
@[reducible] def vB:TI:={n:=1,zero:=[.arr 2 []],elem:=135,ez:=2,eb:=24}
@[reducible] def vn:TI:={agg:=true,n:=2,zero:=[.v (.string ⟨#[]⟩),.v (.int .i64 0)],fs:=[(0,9),(1,3)],eq:=[3,1]}
@[reducible] def nw:Cx:={K:=[Yc,Yc,Y,.no,.no,.no,Yo 4 0,Y,Yo 4 0,.no,Y,Yc,Yc,Y,Y,Yo 4 0,Yo 4 0,Yc,Yo 4 0,Yc,Y,Y,Y,Yc,Y,.via 8,Yc,Y,Y,Yr 8,Yr 8,Y,Y,Y,Yr 8,Yr 8,Y,.via 8,Y,Y,Yo 4 0,Yo 4 0],T:=[(3,ty3),(9,ty9),(30,iB),(73,lp),(112,fW)],S:=[(66,gi),(100,jA),(113,mE)],H:=[(0,([0,2,8,19,20,21],[8]))],res:=[.tmp 6,.tmp 7],ios:=[],G:=gl0}
def fJ:List D→Option Out:=cj nw Try.f88
@[reducible] def kr:FS:={pm:=[Yc,Yc,Y],rm:=[Yo 4 0,Y],f:=fJ}
theorem oq:aM gl0 Try.prog 88 kr:=aZ (c:=nw) (aj jd (aj nf (aj rA aK))) Try.func88 rfl rfl (by kernel_rfl)
@[reducible] def ni:Cx:={K:=[Yc,Yc,.no,.no,Yo 4 0,Y,Yc,Yc,.tup [Yo 4 0,Y],Yo 4 0,Y],T:=[(30,iB)],S:=[(88,kr)],H:=[],res:=[.tmp 4,.tmp 5],ios:=[],G:=gl0}
def jD:List D→Option Out:=cj ni Try.f51
@[reducible] def tW:FS:={pm:=[Yc,Yc],rm:=[Yo 4 0,Y],f:=jD}
theorem tR:aM gl0 Try.prog 51 tW:=aZ (c:=ni) (aj oq aK) Try.func51 rfl rfl (by kernel_rfl)
@[reducible] def lY:Cx:={K:=[Yc,Yc,.no,.no,Yo 4 0,Y,Yc,Yc,.tup [Yo 4 0,Y],Yo 4 0,Y],T:=[(30,iB)],S:=[(88,kr)],H:=[],res:=[.tmp 4,.tmp 5],ios:=[],G:=gl0}
def fS:List D→Option Out:=cj lY Try.f73
@[reducible] def lU:FS:={pm:=[Yc,Yc],rm:=[Yo 4 0,Y],f:=fS}
theorem mr:aM gl0 Try.prog 73 lU:=aZ (c:=lY) (aj oq aK) Try.func73 rfl rfl (by kernel_rfl)
@[reducible] def qe:Cx:={K:=[Y,.no,Y,Y,Y],T:=[],S:=[(105,gY)],H:=[],res:=[.tmp 2],ios:=[],G:=gl0}
def gj:List D→Option Out:=cj qe Try.f71
@[reducible] def lu:FS:={pm:=[Y],rm:=[Y],f:=gj}
theorem pM:aM gl0 Try.prog 71 lu:=aZ (c:=qe) (aj kP aK) Try.func71 rfl rfl (by kernel_rfl)
@[reducible] def kR:Cx:={K:=[Y,.box 4 0 false,Y,Yr 1,Y,Y,Y,Yr 1,Y,Y,Y,Yr 1,Y,Y,Y,Yr 1,Y,Y,Y,Y,Y,Yr 1,Y,Y,Y,Yr 1,Y,Y,Y,Y,Y,Y,Y,Y,Yr 1,Y,Y,Y,Yr 1,Y,Y,Y],T:=[(3,ty3),(9,ty9),(46,CA)],S:=[(67,cY),(71,lu),(92,iJ)],H:=[],res:=[.tmp 2],ios:=[],G:=gl0}
def fu:List D→Option Out:=cj kR Try.f55
@[reducible] def sA:FS:={pm:=[Y],rm:=[Y],f:=fu}
theorem ri:aM gl0 Try.prog 55 sA:=aZ (c:=kR) (aj du (aj pM (aj mj aK))) Try.func55 rfl rfl (by kernel_rfl)
@[reducible] def qj:Cx:={K:=[Y,.no,Y,Y,Y],T:=[],S:=[(107,iG)],H:=[],res:=[.tmp 2],ios:=[],G:=gl0}
def gb:List D→Option Out:=cj qj Try.f74
@[reducible] def lF:FS:={pm:=[Y],rm:=[Y],f:=gb}
theorem pC:aM gl0 Try.prog 74 lF:=aZ (c:=qj) (aj me aK) Try.func74 rfl rfl (by kernel_rfl)
@[reducible] def qf:Cx:={K:=[Y,.box 4 0 false,Y,Yr 1,Y,Y,Y,Yr 1,Y,Y,Y,Yr 1,Y,Y,Y,Yr 1,Y,Y,Y,Y,Y,Yr 1,Y,Y,Y,Yr 1,Y,Y,Y,Y,Y,Y,Y,Y,Yr 1,Y,Y,Y,Yr 1,Y,Y,Y],T:=[(3,ty3),(9,ty9),(46,CA)],S:=[(74,lF),(80,fQ)],H:=[],res:=[.tmp 2],ios:=[],G:=gl0}
def jc:List D→Option Out:=cj qf Try.f90
@[reducible] def wB:FS:={pm:=[Y],rm:=[Y],f:=jc}
theorem xi:aM gl0 Try.prog 90 wB:=aZ (c:=qf) (aj pC (aj gG aK)) Try.func90 rfl rfl (by kernel_rfl)
@[reducible] def dO:Cx:={K:=[Y,Y,.no,.no,Y,Y,Y,Y,Y,Y,Y,Y,Y,Y,Y,Y,Y,Y],T:=[(3,ty3),(9,ty9)],S:=[],H:=[],res:=[.tmp 4],ios:=[],G:=gl0}
def bW:List D→Option Out:=cj dO Try.f121
@[reducible] def dR:FS:={pm:=[Y,Y],rm:=[Y],f:=bW}
theorem ip:aM gl0 Try.prog 121 dR:=aZ (c:=dO) aK Try.func121 rfl rfl (by kernel_rfl)
@[reducible] def jJ:Cx:={K:=[Y,Y,.no,.no,Y,Y,Y,Y],T:=[],S:=[(121,dR)],H:=[],res:=[.tmp 4],ios:=[],G:=gl0}
def eh:List D→Option Out:=cj jJ Try.f118
@[reducible] def jG:FS:={pm:=[Y,Y],rm:=[Y],f:=eh}
theorem pj:aM gl0 Try.prog 118 jG:=aZ (c:=jJ) (aj ip aK) Try.func118 rfl rfl (by kernel_rfl)
@[reducible] def nK:Cx:={K:=[Yc,Y,.no,.no,Yo 1 0,Y,Yo 1 0,Y,Y,.box 2 0 false,Yo 1 0,Y,Y,Y,Yc,Y,Y,Y,Y,Yc,Y,Y,Yr 9,Y,Y,Y,Y,Y,Y,Yr 9,Y,Y,Yc,Y,Yc,Yc,Y,Y,Y,Y,Y,Y,Y,Y,Y,Yo 1 0,Yo 1 0,Y,Yb,Yo 1 0,Y,Yc,Y,Yc,Yc,Y,Y,Y,Yo 1 0],T:=[(3,ty3),(9,ty9),(27,BR),(125,vB),(135,vn)],S:=[(118,jG)],H:=[(0,([0,1,6],[6])),(2,([0,1,6,7,14,15,16],[0,1,6,7]))],res:=[.tmp 4,.tmp 5],ios:=[],G:=gl0}
def fG:List D→Option Out:=cj nK Try.f106
@[reducible] def oE:FS:={pm:=[Yc,Y],rm:=[Yo 1 0,Y],f:=fG}
theorem vO:aM gl0 Try.prog 106 oE:=aZ (c:=nK) (aj pj aK) Try.func106 rfl rfl (by kernel_rfl)
@[reducible] def nC:Cx:={K:=[Yc,Y,.no,.no,Yo 1 0,Y,Yo 2 0,.no,.box 4 0 false,Yb,Y,Yo 1 0,.no,Y,Yo 2 0,Yc,Y,Y,Y,Yc,Y,Yo 2 0,Yr 8,Y,Y,Yb,Yo 2 0,Y,.tup [Yo 1 0,Y],.via 6,Y,.tup [Yo 1 0,Y],Yb,Y,Yo 1 0,Yb,Y,Y,Y,Yb,Y,Yo 1 0,.via 6,Y,Yr 6,Yr 6,Y,Yb,Yo 1 0,Y,Yo 1 0,Y],T:=[(3,ty3),(9,ty9),(27,BR),(30,iB),(73,lp),(112,fW),(125,vB),(135,vn)],S:=[(106,oE)],H:=[(0,([1,6,15,16,17],[1,6])),(2,([6,10,11,35,36,37],[10,11]))],res:=[.tmp 4,.tmp 5],ios:=[],G:=gl0}
def fM:List D→Option Out:=cj nC Try.f72
@[reducible] def nB:FS:={pm:=[Yc,Y],rm:=[Yo 1 0,Y],f:=fM}
theorem nt:aM gl0 Try.prog 72 nB:=aZ (c:=nC) (aj vO aK) Try.func72 rfl rfl (by kernel_rfl)
@[reducible] def nz:Cx:={K:=[Y,Y,.no,.no,Y,Y,Y,Y,Y,Y],T:=[(3,ty3)],S:=[],H:=[],res:=[.tmp 4],ios:=[],G:=gl0}
def fN:List D→Option Out:=cj nz Try.f119
@[reducible] def oF:FS:={pm:=[Y,Y],rm:=[Y],f:=fN}
theorem vp:aM gl0 Try.prog 119 oF:=aZ (c:=nz) aK Try.func119 rfl rfl (by kernel_rfl)
@[reducible] def pX:Cx:={K:=[Yc,Y,.no,.no,Y,Y,.box 2 0 false,Yc,Y,Y,Y,Y,Yc,Y,Yr 6,Y,Y,Y,Y,Y],T:=[(3,ty3),(9,ty9),(125,vB),(135,vn)],S:=[],H:=[(0,([1,7,8,9],[]))],res:=[.tmp 4],ios:=[],G:=gl0}
def gk:List D→Option Out:=cj pX Try.f120
@[reducible] def pO:FS:={pm:=[Yc,Y],rm:=[Y],f:=gk}
theorem wQ:aM gl0 Try.prog 120 pO:=aZ (c:=pX) aK Try.func120 rfl rfl (by kernel_rfl)
@[reducible] def rB:Cx:={K:=[Yc,Y,.no,.no,Yo 1 0,Y,Yo 1 0,Y,Y,Y,Y,Y,Y,Y,Y,Y,Y,Y,Y,Y,Y,Y,Y,Y,Y,Y,Y,Yc,Y,Y,Y,Y,Y,Y,Y,Y,Y,Yo 1 0,Y,Yb,Yo 1 0,Y,Yc,Y,Yc,Yc,Y,Y,Y,Yo 1 0],T:=[(3,ty3),(9,ty9),(27,BR),(125,vB),(135,vn)],S:=[(119,oF),(120,pO)],H:=[(0,([0,1,6,7],[6])),(2,([0,1,6,7,8,9],[0,1,6,7,8]))],res:=[.tmp 4,.tmp 5],ios:=[],G:=gl0}
def jS:List D→Option Out:=cj rB Try.f108
@[reducible] def rg:FS:={pm:=[Yc,Y],rm:=[Yo 1 0,Y],f:=jS}
theorem yz:aM gl0 Try.prog 108 rg:=aZ (c:=rB) (aj vp (aj wQ aK)) Try.func108 rfl rfl (by kernel_rfl)
@[reducible] def nX:Cx:={K:=[Yc,Y,.no,.no,Yo 1 0,Y,Yo 2 0,.no,.box 4 0 false,Yb,Y,Yo 1 0,.no,Y,Yc,Y,Y,Y,Yc,Y,Yo 2 0,Yr 8,Y,Y,Yb,Yo 2 0,Y,.tup [Yo 1 0,Y],.via 6,Y,.tup [Yo 1 0,Y],Yb,Y,Y,Y,Yb,Y,Y,Y,Yb,Y,Yo 1 0,.via 6,Y,Yr 6,Yr 6,Y,Yb,Yo 1 0,Y,Yo 1 0],T:=[(3,ty3),(9,ty9),(27,BR),(30,iB),(73,lp),(112,fW),(125,vB),(135,vn)],S:=[(108,rg)],H:=[(0,([1,6,14,15,16],[1,6])),(2,([6,11,35,36,37],[11]))],res:=[.tmp 4,.tmp 5],ios:=[],G:=gl0}
def fH:List D→Option Out:=cj nX Try.f75
@[reducible] def nI:FS:={pm:=[Yc,Y],rm:=[Yo 1 0,Y],f:=fH}
theorem nO:aM gl0 Try.prog 75 nI:=aZ (c:=nX) (aj yz aK) Try.func75 rfl rfl (by kernel_rfl)
@[reducible] def pI:Cx:={K:=[Yc,Y,.box 4 2 false,.no,Y,Y,.box 4 2 false,Yr 2,Yc,Y,Y,Y,Y,Yc,Yc,Yr 6,Y,Y,Y,Y,Y],T:=[(3,ty3),(4,ty4),(30,iB),(31,sP),(33,sS),(73,lp),(75,wM)],S:=[],H:=[(0,([1,8,9,10],[]))],res:=[.tmp 4],ios:=[],G:=gl0}
def ji:List D→Option Out:=cj pI Try.f115
@[reducible] def wR:FS:={pm:=[Yc,Y],rm:=[Y],f:=ji}
theorem qk:aM gl0 Try.prog 115 wR:=aZ (c:=pI) aK Try.func115 rfl rfl (by kernel_rfl)
@[reducible] def jM:Cx:={K:=[Yc,Y,.box 4 2 false,.no,Y,Y,Y,Y,Yr 2,Yc,Y,Y,Y,Yr 2,Yc,Y,Yc,Yc,Y,Y,Y,Y,Y,Y,Y,Y,Yr 2,Yc,Y,Y,Y,Yr 2,Yc,Y,Yc,Yc,Y,Y,Y,Y],T:=[(3,ty3),(4,ty4),(30,iB),(31,sP),(33,sS),(73,lp),(75,wM)],S:=[],H:=[(0,([1,2,6],[1,2,6]))],res:=[.tmp 4,.tmp 5],ios:=[],G:=gl0}
def ek:List D→Option Out:=cj jM Try.f94
@[reducible] def pz:FS:={pm:=[Yc,Y],rm:=[Y,Y],f:=ek}
theorem py:aM gl0 Try.prog 94 pz:=aZ (c:=jM) aK Try.func94 rfl rfl (by kernel_rfl)
open Go Go.V
set_option maxRecDepth 100000
theorem tY (x0 x1:D):jD [x0,x1]=(aq (fJ [x0,x1,I 1]) fun c _=>(bz (.tup c) 0).bind fun y=>(bz (lB (.tup c) 0) 1).bind fun z=>some (.ret [y,z] [])):=by kernel_rfl
theorem pu (x0 x1:D):ek [x0,x1]=((gT 4 x0).bind fun y=>(bD (fun s=>(ab (sl s 1) (.ref 0 1)).bind fun z=>((atD (sl s 1) z).bind (an false 1)).bind fun z=>(lenD false z).bind fun z=>(bin .lss false [] (sl s 2) z).bind fun z=>(af D.bad z true (ab (sl s 1) (.ref 0 1))).bind fun c=>(af (.tup []) z true ((atD (sl s 1) c).bind (an false 1))).bind fun d=>(af (.tup []) z true (some (sl s 2))).bind fun e=>(af (.tup []) z true (Ji D.ptr (bO 4 d e))).bind fun f=>(af (.tup []) z true (td 0 f)).bind fun g=>(af (.tup []) z true ((ldD false 1 g).bind bw)).bind fun h=>(af (.tup []) z true (some (sl s 0))).bind fun j=>(af (.tup []) z true (bin .lss false [] h j)).bind fun k=>(aR z k (B false)).bind fun z=>ifD z ((bin .add false [] (sl s 2) (I 1)).bind fun z=>some (.nrm [sl s 0,sl s 1,z])) (some (.ext 0 [sl s 0,sl s 1,sl s 2]))) [x1,y,I 0]).bind fun o=>dH o (fun i s=>ifN (i.beq 0) ((ab (sl s 1) (.ref 0 1)).bind fun z=>((atD (sl s 1) z).bind (an false 1)).bind fun z=>(lenD false z).bind fun z=>(bin .lss false [] (sl s 2) z).bind fun z=>(af D.bad z true (ab (sl s 1) (.ref 0 1))).bind fun c=>(af (.tup []) z true ((atD (sl s 1) c).bind (an false 1))).bind fun d=>(af (.tup []) z true (some (sl s 2))).bind fun e=>(af (.tup []) z true (Ji D.ptr (bO 4 d e))).bind fun f=>(af (.tup []) z true (td 0 f)).bind fun g=>(af (.tup []) z true ((ldD false 1 g).bind bw)).bind fun h=>(af (.tup []) z true (some (sl s 0))).bind fun j=>(af (.tup []) z true (bin .eql false [] h j)).bind fun k=>(aR z k (B false)).bind fun z=>some (.ret [sl s 2,z] [])) none) fun a b=>some (.ret a b)):=by kernel_rfl
theorem tf (x0 x1:D):fS [x0,x1]=(aq (fJ [x0,x1,I (-1)]) fun c _=>(bz (.tup c) 0).bind fun y=>(bz (lB (.tup c) 0) 1).bind fun z=>some (.ret [y,z] [])):=by kernel_rfl
theorem uS (x0 x1 x2:D):fJ [x0,x1,x2]=(aq (eW [x0,x1]) fun c _=>(un .not (sl c 0)).bind fun z=>ifD z ((bC 4 []).bind fun a=>some (.ret [a,B false] [])) ((bC 4 []).bind fun a=>(iE x0).bind fun b=>(gx 4 40 a b).bind fun y=>(lenD false x1).bind fun z=>(bD (fun s=>(bin .lss false [] (sl s 5) (sl s 4)).bind fun z=>ifD z ((Ji D.ptr (bO 1 (sl s 3) (sl s 5))).bind fun z=>((ldD false 1 z).bind bw).bind fun z=>(ab (sl s 2) (.ref 0 0)).bind fun d=>aq (gO [sl s 0,z]) fun c _=>((ab d (sl s 2)).bind fun b=>tp 4 b (sl c 0)).bind fun z=>(cU 3 z).bind fun z=>((atD (sl s 2) z).bind (an false 1)).bind fun z=>(bin .add false [] z (sl s 1)).bind fun z=>((ab d (sl s 2)).bind fun b=>tp 4 b (sl c 0)).bind fun e=>(cU 3 e).bind fun f=>(stD 1 (sl s 2) f z).bind fun b=>(bin .add false [] (sl s 5) (I 1)).bind fun z=>some (.nrm [sl s 0,sl s 1,b,sl s 3,sl s 4,z])) (some (.ext 0 [sl s 2]))) [x0,x2,y,x1,z,I 0]).bind fun o=>dH o (fun i s=>ifN (i.beq 0) ((ab (sl s 0) (.ref 0 0)).bind fun z=>(ab z (sl s 0)).bind fun i=>aq (dW [i]) fun c _=>(un .not (sl c 0)).bind fun z=>ifD z ((bC 4 []).bind fun a=>some (.ret [a,B false] [])) (some (.ret [sl s 0,B true] []))) none) fun a b=>some (.ret a b))):=by kernel_rfl
theorem vV (x0 x1:D):fM [x0,x1]=((bC 2 []).bind fun a=>(lenD false x0).bind fun z=>(bD (fun s=>(bin .lss false [] (sl s 4) (sl s 3)).bind fun z=>ifD z ((Ji D.ptr (bO 4 (sl s 2) (sl s 4))).bind fun z=>((ldD true 4 z).bind bw).bind fun z=>(stD 4 (.agg [.v (.string ⟨⟨[]⟩⟩),I 0,I 0,I 0]) (.ref 0 0) z).bind fun b=>(ab b (.ref 0 0)).bind fun z=>((atD b z).bind (an false 1)).bind fun z=>(jx [(0,1),(1,1)] [.v (.string ⟨⟨[]⟩⟩),I 0] [z,I 1]).bind fun z=>(bC 2 [z]).bind fun a=>(iE a).bind fun b=>(gx 2 24 (sl s 1) b).bind fun y=>(bin .add false [] (sl s 4) (I 1)).bind fun z=>some (.nrm [sl s 0,y,sl s 2,sl s 3,z])) (some (.ext 0 [sl s 0,sl s 1]))) [x1,a,x0,z,I 0]).bind fun o=>dH o (fun i s=>ifN (i.beq 0) ((ab (sl s 1) (.ref 0 0)).bind fun z=>(ab z (sl s 1)).bind fun i=>aq (fG [i,sl s 0]) fun c _=>(bz (.tup c) 0).bind fun y=>(bz (lB (.tup c) 0) 1).bind fun z=>(bC 1 []).bind fun a=>(lenD false y).bind fun d=>(bD (fun s=>(bin .lss false [] (sl s 5) (sl s 4)).bind fun z=>ifD z ((Ji D.ptr (bO 1 (sl s 3) (sl s 5))).bind fun z=>((ldD false 1 z).bind bw).bind fun z=>(ab (sl s 0) (.ref 0 0)).bind fun e=>((ab e (sl s 0)).bind fun b=>tp 2 b z).bind fun z=>(cU 0 z).bind fun z=>((atD (sl s 0) z).bind (an false 1)).bind fun z=>(bC 1 [z]).bind fun a=>(iE a).bind fun b=>(gx 1 16 (sl s 2) b).bind fun y=>(bin .add false [] (sl s 5) (I 1)).bind fun z=>some (.nrm [sl s 0,sl s 1,y,sl s 3,sl s 4,z])) (some (.ext 2 [sl s 1,sl s 2]))) [sl s 1,z,a,y,d,I 0]).bind fun o=>dH o (fun i s=>ifN (i.beq 2) (some (.ret [sl s 1,sl s 0] [])) none) fun a b=>some (.ret a b)) none) fun a b=>some (.ret a b)):=by kernel_rfl
theorem rp (x0:D):fu [x0]=((gT 4 x0).bind fun y=>(ab y (.ref 0 1)).bind fun z=>((atD y z).bind (an false 1)).bind fun z=>aq (ep [z]) fun c _=>(un .not (sl c 0)).bind fun z=>ifD z (some (.ret [B false] [])) ((ab y (.ref 0 0)).bind fun z=>((atD y z).bind (an false 1)).bind fun z=>(bin .eql false [] z (I 1)).bind fun k=>ifD k ((ab y (.ref 0 2)).bind fun z=>((atD y z).bind (an false 1)).bind fun z=>aq (gj [z]) fun c _=>(af D.bad (sl c 0) true (ab y (.ref 0 3))).bind fun z=>(af (.tup []) (sl c 0) true ((atD y z).bind (an false 1))).bind fun z=>(af (.tup []) (sl c 0) true (bin .eql false [] z (I 0))).bind fun z=>(aR (sl c 0) z (B false)).bind fun z=>some (.ret [z] [])) ((bin .eql false [] z (I 3)).bind fun l=>ifD l ((ab y (.ref 0 2)).bind fun z=>((atD y z).bind (an false 1)).bind fun z=>(bin .eql false [] z (.v (.string ⟨⟨[]⟩⟩))).bind fun z=>(af D.bad z true (ab y (.ref 0 3))).bind fun h=>(af (.tup []) z true ((atD y h).bind (an false 1))).bind fun e=>dD z true (aq (cf [e,I 1,I 1000]) fun c _=>some (.nrm [sl c 0])) [.tup []] fun m=>(aR z (sl m 0) (B false)).bind fun z=>some (.ret [z] [])) ((bin .eql false [] z (I 2)).bind fun h=>ifD h (ifD h ((ab y (.ref 0 2)).bind fun z=>((atD y z).bind (an false 1)).bind fun z=>(bin .eql false [] z (.v (.string ⟨⟨[]⟩⟩))).bind fun z=>(af D.bad z true (ab y (.ref 0 3))).bind fun e=>(af (.tup []) z true ((atD y e).bind (an false 1))).bind fun f=>(af (.tup []) z true (bin .eql false [] f (I 0))).bind fun d=>(aR z d (B false)).bind fun z=>some (.ret [z] [])) (some (.ret [B false] []))) ((bin .eql false [] z (I 4)).bind fun e=>ifD e (ifD e ((ab y (.ref 0 2)).bind fun z=>((atD y z).bind (an false 1)).bind fun z=>(bin .eql false [] z (.v (.string ⟨⟨[]⟩⟩))).bind fun z=>(af D.bad z true (ab y (.ref 0 3))).bind fun f=>(af (.tup []) z true ((atD y f).bind (an false 1))).bind fun d=>(af (.tup []) z true (bin .eql false [] d (I 0))).bind fun g=>(aR z g (B false)).bind fun z=>some (.ret [z] [])) (some (.ret [B false] []))) ((bin .eql false [] z (I 5)).bind fun f=>ifD f (ifD f ((ab y (.ref 0 2)).bind fun z=>((atD y z).bind (an false 1)).bind fun z=>(bin .eql false [] z (.v (.string ⟨⟨[]⟩⟩))).bind fun z=>(af D.bad z true (ab y (.ref 0 3))).bind fun d=>(af (.tup []) z true ((atD y d).bind (an false 1))).bind fun g=>(af (.tup []) z true (bin .eql false [] g (I 0))).bind fun j=>(aR z j (B false)).bind fun z=>some (.ret [z] [])) (some (.ret [B false] []))) ((bin .eql false [] z (I 6)).bind fun z=>ifD z ((ab y (.ref 0 2)).bind fun z=>((atD y z).bind (an false 1)).bind fun z=>(bin .eql false [] z (.v (.string ⟨⟨[]⟩⟩))).bind fun z=>(af D.bad z true (ab y (.ref 0 3))).bind fun d=>(af (.tup []) z true ((atD y d).bind (an false 1))).bind fun g=>(af (.tup []) z true (bin .eql false [] g (I 0))).bind fun j=>(aR z j (B false)).bind fun z=>some (.ret [z] [])) (some (.ret [B false] []))))))))):=by kernel_rfl
theorem wF (x0:D):gj [x0]=(aq (dS [x0,I 1,I 16]) fun c _=>some (.ret [sl c 0] [])):=by kernel_rfl
theorem vT (x0 x1:D):fG [x0,x1]=((bC 1 []).bind fun a=>(bD (fun s=>(lenD true (sl s 1)).bind fun z=>(bin .gtr false [] z (I 0)).bind fun z=>ifD z ((lenD false (sl s 0)).bind fun z=>(bD (fun s=>(bin .lss false [] (sl s 6) (sl s 5)).bind fun z=>ifD z ((Ji D.ptr (bO 2 (sl s 4) (sl s 6))).bind fun z=>((ldD true 2 z).bind bw).bind fun z=>(stD 2 (.agg [.v (.string ⟨⟨[]⟩⟩),I 0]) (.ref 0 0) z).bind fun b=>(ab b (.ref 0 0)).bind fun z=>((atD b z).bind (an false 1)).bind fun z=>aq (eh [sl s 1,z]) fun c _=>(af (.tup []) (sl c 0) true (some (sl s 3))).bind fun z=>(af (.tup []) (sl c 0) true (bin .lss false [] z (I 0))).bind fun z=>(af (.tup []) (sl c 0) true (some z)).bind fun z=>(af D.bad z false (ab b (.ref 0 0))).bind fun d=>(af (.tup []) z false ((atD b d).bind (an false 1))).bind fun e=>(af (.tup []) z false (lenD true e)).bind fun f=>(af (.tup []) z false (some (sl s 0))).bind fun g=>(af (.tup []) z false (some (sl s 3))).bind fun h=>(af (.tup []) z false (Ji D.ptr (bO 2 g h))).bind fun j=>(af (.tup []) z false (td 0 j)).bind fun k=>(af (.tup []) z false ((ldD false 1 k).bind bw)).bind fun l=>(af (.tup []) z false (lenD true l)).bind fun m=>(af (.tup []) z false (bin .gtr false [] f m)).bind fun n=>(af (.tup []) (sl c 0) true (aR z (B true) n)).bind fun z=>(aR (sl c 0) z (B false)).bind fun z=>ifD z ((bin .add false [] (sl s 6) (I 1)).bind fun z=>some (.nrm [sl s 0,sl s 1,sl s 2,sl s 6,sl s 4,sl s 5,z])) ((bin .add false [] (sl s 6) (I 1)).bind fun z=>some (.nrm [sl s 0,sl s 1,sl s 2,sl s 3,sl s 4,sl s 5,z]))) (some (.ext 2 [sl s 0,sl s 1,sl s 2,sl s 3]))) [sl s 0,sl s 1,sl s 2,I (-1),sl s 0,z,I 0]).bind fun o=>dH o (fun i s=>ifN (i.beq 2) ((bin .lss false [] (sl s 3) (I 0)).bind fun z=>ifD z ((bC 1 []).bind fun a=>some (.ret [a,B false] [])) ((bC 1 [sl s 3]).bind fun a=>(iE a).bind fun b=>(gx 1 8 (sl s 2) b).bind fun y=>(Ji D.ptr (bO 2 (sl s 0) (sl s 3))).bind fun z=>(td 0 z).bind fun z=>((ldD false 1 z).bind bw).bind fun z=>(lenD true z).bind fun z=>(kM true 0 (sl s 1) z).bind fun z=>some (.nrm [sl s 0,z,y]))) (ifN (i.beq 1) (some (.nrm [sl s 0,sl s 1,sl s 2])) (some (.ext i [sl s 2])))) fun a b=>some (.ret a b)) (some (.ext 0 [sl s 2]))) [x0,x1,a]).bind fun o=>dH o (fun i s=>ifN (i.beq 0) (some (.ret [sl s 0,B true] [])) none) fun a b=>some (.ret a b)):=by kernel_rfl
theorem hD (x0 x1:D):bW [x0,x1]=((lenD true x0).bind fun z=>(lenD true x1).bind fun c=>(bin .geq false [] z c).bind fun z=>(af (.tup []) z true (some x0)).bind fun d=>(af (.tup []) z true (some x1)).bind fun e=>(af (.tup []) z true (lenD true e)).bind fun f=>(af (.tup []) z true (ga true 0 d (I 0) f)).bind fun g=>(af (.tup []) z true (some x1)).bind fun h=>(af (.tup []) z true (bin .eql false [] g h)).bind fun j=>(aR z j (B false)).bind fun z=>some (.ret [z] [])):=by kernel_rfl
theorem vR (x0 x1:D):fN [x0,x1]=((bin .lss false [] x0 x1).bind fun z=>ifD z (some (.ret [x0] [])) (some (.ret [x1] []))):=by kernel_rfl
theorem vU (x0 x1:D):fH [x0,x1]=((lenD false x0).bind fun z=>(bD (fun s=>(bin .lss false [] (sl s 4) (sl s 3)).bind fun z=>ifD z ((Ji D.ptr (bO 4 (sl s 2) (sl s 4))).bind fun z=>((ldD true 4 z).bind bw).bind fun z=>(stD 4 (.agg [.v (.string ⟨⟨[]⟩⟩),I 0,I 0,I 0]) (.ref 0 0) z).bind fun b=>(ab b (.ref 0 0)).bind fun z=>((atD b z).bind (an false 1)).bind fun z=>(jx [(0,1),(1,1)] [.v (.string ⟨⟨[]⟩⟩),I 0] [z,I 1]).bind fun z=>(bC 2 [z]).bind fun a=>(iE a).bind fun b=>(gx 2 24 (sl s 1) b).bind fun y=>(bin .add false [] (sl s 4) (I 1)).bind fun z=>some (.nrm [sl s 0,y,sl s 2,sl s 3,z])) (some (.ext 0 [sl s 0,sl s 1]))) [x1,.arr 2 [],x0,z,I 0]).bind fun o=>dH o (fun i s=>ifN (i.beq 0) ((ab (sl s 1) (.ref 0 0)).bind fun z=>(ab z (sl s 1)).bind fun i=>aq (jS [i,sl s 0]) fun c _=>(bz (.tup c) 0).bind fun y=>(bz (lB (.tup c) 0) 1).bind fun z=>(un .not z).bind fun z=>ifD z (some (.ret [.arr 1 [],B false] [])) ((lenD false y).bind fun z=>(bD (fun s=>(bin .lss false [] (sl s 4) (sl s 3)).bind fun z=>ifD z ((Ji D.ptr (bO 1 (sl s 2) (sl s 4))).bind fun z=>((ldD false 1 z).bind bw).bind fun z=>(ab (sl s 0) (.ref 0 0)).bind fun d=>((ab d (sl s 0)).bind fun b=>tp 2 b z).bind fun z=>(cU 0 z).bind fun z=>((atD (sl s 0) z).bind (an false 1)).bind fun z=>(bC 1 [z]).bind fun a=>(iE a).bind fun b=>(gx 1 16 (sl s 1) b).bind fun y=>(bin .add false [] (sl s 4) (I 1)).bind fun z=>some (.nrm [sl s 0,y,sl s 2,sl s 3,z])) (some (.ext 2 [sl s 1]))) [sl s 1,.arr 1 [],y,z,I 0]).bind fun o=>dH o (fun i s=>ifN (i.beq 2) (some (.ret [sl s 0,B true] [])) none) fun a b=>some (.ret a b))) none) fun a b=>some (.ret a b)):=by kernel_rfl
theorem xk (x0 x1:D):ji [x0,x1]=((gT 4 x0).bind fun y=>(ab y (.ref 0 1)).bind fun z=>((atD y z).bind (an false 1)).bind fun z=>(lenD false z).bind fun c=>(bD (fun s=>(bin .lss false [] (sl s 3) (sl s 2)).bind fun z=>ifD z ((Ji D.ptr (bO 4 (sl s 1) (sl s 3))).bind fun z=>(ldD true 4 z).bind fun z=>(stD 4 (.agg [I 0,.arr 1 [],B false,I 0]) (.ref 0 0) z).bind fun b=>(ab b (.ref 0 0)).bind fun z=>(((atD b z).bind (an false 1)).bind bw).bind fun z=>(bin .eql false [] z (sl s 0)).bind fun z=>ifD z (some (.ret [sl s 3] [])) ((bin .add false [] (sl s 3) (I 1)).bind fun z=>some (.nrm [sl s 0,sl s 1,sl s 2,z]))) (some (.ext 0 []))) [x1,z,c,I 0]).bind fun o=>dH o (fun i _=>ifN (i.beq 0) (some (.ret [I (-1)] [])) none) fun a b=>some (.ret a b)):=by kernel_rfl
theorem wL (x0:D):jc [x0]=((gT 4 x0).bind fun y=>(ab y (.ref 0 1)).bind fun z=>((atD y z).bind (an false 1)).bind fun z=>aq (cv [z,I 1,I 99]) fun c _=>(un .not (sl c 0)).bind fun z=>ifD z (some (.ret [B false] [])) ((ab y (.ref 0 0)).bind fun z=>((atD y z).bind (an false 1)).bind fun z=>(bin .eql false [] z (I 1)).bind fun k=>ifD k ((ab y (.ref 0 2)).bind fun z=>((atD y z).bind (an false 1)).bind fun z=>aq (gb [z]) fun c _=>(af D.bad (sl c 0) true (ab y (.ref 0 3))).bind fun z=>(af (.tup []) (sl c 0) true ((atD y z).bind (an false 1))).bind fun z=>(af (.tup []) (sl c 0) true (bin .eql false [] z (I 0))).bind fun z=>(aR (sl c 0) z (B false)).bind fun z=>some (.ret [z] [])) ((bin .eql false [] z (I 3)).bind fun l=>ifD l ((ab y (.ref 0 2)).bind fun z=>((atD y z).bind (an false 1)).bind fun z=>(bin .eql false [] z (.v (.string ⟨⟨[]⟩⟩))).bind fun z=>(af D.bad z true (ab y (.ref 0 3))).bind fun h=>(af (.tup []) z true ((atD y h).bind (an false 1))).bind fun e=>dD z true (aq (cv [e,I 1,I 1000]) fun c _=>some (.nrm [sl c 0])) [.tup []] fun m=>(aR z (sl m 0) (B false)).bind fun z=>some (.ret [z] [])) ((bin .eql false [] z (I 2)).bind fun h=>ifD h (ifD h ((ab y (.ref 0 2)).bind fun z=>((atD y z).bind (an false 1)).bind fun z=>(bin .eql false [] z (.v (.string ⟨⟨[]⟩⟩))).bind fun z=>(af D.bad z true (ab y (.ref 0 3))).bind fun e=>(af (.tup []) z true ((atD y e).bind (an false 1))).bind fun f=>(af (.tup []) z true (bin .eql false [] f (I 0))).bind fun d=>(aR z d (B false)).bind fun z=>some (.ret [z] [])) (some (.ret [B false] []))) ((bin .eql false [] z (I 4)).bind fun e=>ifD e (ifD e ((ab y (.ref 0 2)).bind fun z=>((atD y z).bind (an false 1)).bind fun z=>(bin .eql false [] z (.v (.string ⟨⟨[]⟩⟩))).bind fun z=>(af D.bad z true (ab y (.ref 0 3))).bind fun f=>(af (.tup []) z true ((atD y f).bind (an false 1))).bind fun d=>(af (.tup []) z true (bin .eql false [] d (I 0))).bind fun g=>(aR z g (B false)).bind fun z=>some (.ret [z] [])) (some (.ret [B false] []))) ((bin .eql false [] z (I 5)).bind fun f=>ifD f (ifD f ((ab y (.ref 0 2)).bind fun z=>((atD y z).bind (an false 1)).bind fun z=>(bin .eql false [] z (.v (.string ⟨⟨[]⟩⟩))).bind fun z=>(af D.bad z true (ab y (.ref 0 3))).bind fun d=>(af (.tup []) z true ((atD y d).bind (an false 1))).bind fun g=>(af (.tup []) z true (bin .eql false [] g (I 0))).bind fun j=>(aR z j (B false)).bind fun z=>some (.ret [z] [])) (some (.ret [B false] []))) ((bin .eql false [] z (I 6)).bind fun z=>ifD z ((ab y (.ref 0 2)).bind fun z=>((atD y z).bind (an false 1)).bind fun z=>(bin .eql false [] z (.v (.string ⟨⟨[]⟩⟩))).bind fun z=>(af D.bad z true (ab y (.ref 0 3))).bind fun d=>(af (.tup []) z true ((atD y d).bind (an false 1))).bind fun g=>(af (.tup []) z true (bin .eql false [] g (I 0))).bind fun j=>(aR z j (B false)).bind fun z=>some (.ret [z] [])) (some (.ret [B false] []))))))))):=by kernel_rfl
theorem wA (x0 x1:D):gk [x0,x1]=((lenD false x0).bind fun z=>(bD (fun s=>(bin .lss false [] (sl s 3) (sl s 2)).bind fun z=>ifD z ((Ji D.ptr (bO 2 (sl s 1) (sl s 3))).bind fun z=>((ldD true 2 z).bind bw).bind fun z=>(stD 2 (.agg [.v (.string ⟨⟨[]⟩⟩),I 0]) (.ref 0 0) z).bind fun b=>(ab b (.ref 0 0)).bind fun z=>((atD b z).bind (an false 1)).bind fun z=>(bin .eql false [] z (sl s 0)).bind fun z=>ifD z (some (.ret [sl s 3] [])) ((bin .add false [] (sl s 3) (I 1)).bind fun z=>some (.nrm [sl s 0,sl s 1,sl s 2,z]))) (some (.ext 0 []))) [x1,x0,z,I 0]).bind fun o=>dH o (fun i _=>ifN (i.beq 0) (some (.ret [I (-1)] [])) none) fun a b=>some (.ret a b)):=by kernel_rfl
theorem yE (x0 x1:D):jS [x0,x1]=((bD (fun s=>(lenD true (sl s 1)).bind fun z=>(bin .lss false [] (sl s 3) z).bind fun z=>ifD z ((lenD true (sl s 1)).bind fun z=>(bin .sub false [] z (sl s 3)).bind fun z=>aq (fN [I 3,z]) fun c _=>(bD (fun s=>(bin .gtr false [] (sl s 5) (I 0)).bind fun z=>(af (.tup []) z true (some (sl s 4))).bind fun d=>(af (.tup []) z true (bin .lss false [] d (I 0))).bind fun e=>(aR z e (B false)).bind fun z=>ifD z ((bin .add false [] (sl s 3) (sl s 5)).bind fun z=>(ga true 0 (sl s 1) (sl s 3) z).bind fun z=>aq (gk [sl s 0,z]) fun c _=>(bin .sub false [] (sl s 5) (I 1)).bind fun z=>some (.nrm [sl s 0,sl s 1,sl s 2,sl s 3,sl c 0,z])) (some (.ext 2 [sl s 0,sl s 1,sl s 2,sl s 3,sl s 4]))) [sl s 0,sl s 1,sl s 2,sl s 3,I (-1),sl c 0]).bind fun o=>dH o (fun i s=>ifN (i.beq 2) ((bin .lss false [] (sl s 4) (I 0)).bind fun z=>ifD z (some (.ret [.arr 1 [],B false] [])) ((bC 1 [sl s 4]).bind fun a=>(iE a).bind fun b=>(gx 1 8 (sl s 2) b).bind fun y=>(Ji D.ptr (bO 2 (sl s 0) (sl s 4))).bind fun z=>(td 0 z).bind fun z=>((ldD false 1 z).bind bw).bind fun z=>(lenD true z).bind fun z=>(bin .add false [] (sl s 3) z).bind fun z=>some (.nrm [sl s 0,sl s 1,y,z]))) (ifN (i.beq 1) (some (.nrm [sl s 0,sl s 1,sl s 2,sl s 3])) (some (.ext i [sl s 2])))) fun a b=>some (.ret a b)) (some (.ext 0 [sl s 2]))) [x0,x1,.arr 1 [],I 0]).bind fun o=>dH o (fun i s=>ifN (i.beq 0) (some (.ret [sl s 0,B true] [])) none) fun a b=>some (.ret a b)):=by kernel_rfl
theorem xh (x0:D):gb [x0]=(aq (ew [x0,I 16]) fun c _=>some (.ret [sl c 0] [])):=by kernel_rfl
theorem pt (x0 x1:D):eh [x0,x1]=(aq (bW [x0,x1]) fun c _=>some (.ret [sl c 0] [])):=by kernel_rfl
end Go.Proofs.Ytkcojipciiakdaa

namespace Go.Proofs.Ytkcojipciiakdaa
open Go.V
set_option maxRecDepth 100000
@[reducible] def GL:TI:={n:=1,zero:=[.v (.int .u64 0)],ik:=some .u64}
@[reducible] def GC:TI:={agg:=true,n:=3,zero:=[.arr 1 [],.v (.int .i64 0),.v (.int .u64 0)],fs:=[(0,58),(1,3),(2,90)]}
@[reducible] def lg:Cx:={K:=[.box 3 2 true,.no,Y,Y,Yr 0,Yr 0,Yr 0,Y,Yr 0,Yr 0,Yr 0,Yc,Y,Y,Yr 0,Yr 0,Yr 0,Yc,Yr 0,Yr 0,Yr 0,Y,Yc,Y,Y,Yr 0,Yr 0,Yr 0,Y,Y,Yr 0,Yr 0,Yr 0,Yr 0,Yr 0,Yr 0,Y,Y,Y,Y,Y,Y,Yr 0,Yr 0,Yr 0,Yr 0,Yr 0,Y,Yr 0,Yr 0,Yr 0,Yc,Y,Y,Y,Yr 0,Yr 0,Yr 0,Y,Y,Y,Y],T:=[(3,ty3),(5,ty5),(58,DS),(90,GL),(92,GC)],S:=[],H:=[],res:=[.tmp 2],ios:=[0],G:=gl0}
def cH:List D→Option Out:=cj lg Try.f103
@[reducible] def kY:FS:={pm:=[.box 3 2 true],rm:=[Y],f:=cH}
theorem sf:aM gl0 Try.prog 103 kY:=aZ (c:=lg) aK Try.func103 rfl rfl (by kernel_rfl)
@[reducible] def kV:Cx:={K:=[.box 3 2 true,Y,.no,.no,Y,Y,Y,Y,Yr 0,Y,Y,Y,Y,Y,Yr 0,Y,Y,Y,Y,Y],T:=[(3,ty3)],S:=[(103,kY)],H:=[],res:=[.tmp 4],ios:=[0],G:=gl0}
def aB:List D→Option Out:=cj kV Try.f68
@[reducible] def bK:FS:={pm:=[.box 3 2 true,Y],rm:=[Y],f:=aB}
theorem bL:aM gl0 Try.prog 68 bK:=aZ (c:=kV) (aj sf aK) Try.func68 rfl rfl (by kernel_rfl)
@[reducible] def mq:Cx:={K:=[.box 3 2 true,Y,.no,.no,Y,Yr 0,Y,Y,Y],T:=[(3,ty3)],S:=[(68,bK)],H:=[],res:=[.tmp 4],ios:=[0],G:=gl0}
def ci:List D→Option Out:=cj mq Try.f69
@[reducible] def iO:FS:={pm:=[.box 3 2 true,Y],rm:=[Y],f:=ci}
theorem iL:aM gl0 Try.prog 69 iO:=aZ (c:=mq) (aj bL aK) Try.func69 rfl rfl (by kernel_rfl)
@[reducible] def kS:Cx:={K:=[.box 3 2 true,.no,Yo 2 0,Yo 2 0,.no,Y,Yb,Y,Y,Y,Yb,Y,Y,Y,Y,Y,Yr 0,Y,Y,Y,Y,Y,Y,Y,Y,Yr 0,Y,Y,Y,Yo 2 0,Y,Y,Y,Yr 0,Y,Y,Y,Y,Y,Yb,Yo 2 0,Y,.via 3,Y,Y,Y,Yo 2 0,Yo 2 0],T:=[(3,ty3),(9,ty9),(73,lp),(125,vB),(135,vn)],S:=[(68,bK),(69,iO)],H:=[(0,([0,3,6,7,8],[0,3]))],res:=[.tmp 2],ios:=[0],G:=gl0}
def dl:List D→Option Out:=cj kS Try.f97
@[reducible] def re:FS:={pm:=[.box 3 2 true],rm:=[Yo 2 0],f:=dl}
theorem rF:aM gl0 Try.prog 97 re:=aZ (c:=kS) (aj bL (aj iL aK)) Try.func97 rfl rfl (by kernel_rfl)
@[reducible] def kA:Cx:={K:=[.box 3 2 true,Yc,.no,.no,Y,Yc,Yr 0,Yc,Y,Y,Yc,Y],T:=[(3,ty3),(27,BR)],S:=[(68,bK)],H:=[],res:=[.tmp 4],ios:=[0],G:=gl0}
def aG:List D→Option Out:=cj kA Try.f98
@[reducible] def gw:FS:={pm:=[.box 3 2 true,Yc],rm:=[Y],f:=aG}
theorem gz:aM gl0 Try.prog 98 gw:=aZ (c:=kA) (aj bL aK) Try.func98 rfl rfl (by kernel_rfl)
@[reducible] def kj:Cx:={K:=[.box 3 2 true,Yc,.no,.no,Yo 4 0,Yo 4 0,Y,.no,.box 2 0 false,Yr 0,Y,Yc,Y,Y,Y,Yc,Y,Yo 4 0,Yr 8,Y,Y,Y,Y,Y,Y,Yr 0,Yb,Y,Y,Yb,Yo 4 0,Y,Yr 0,Y,Y,Y,Y,Yo 4 0],T:=[(3,ty3),(9,ty9),(27,BR),(30,iB),(112,fW),(125,vB),(135,vn)],S:=[(68,bK),(98,gw)],H:=[(0,([0,5,6,11,12,13],[0,5]))],res:=[.tmp 4],ios:=[0],G:=gl0}
def cS:List D→Option Out:=cj kj Try.f96
@[reducible] def qW:FS:={pm:=[.box 3 2 true,Yc],rm:=[Yo 4 0],f:=cS}
theorem qF:aM gl0 Try.prog 96 qW:=aZ (c:=kj) (aj bL (aj gz aK)) Try.func96 rfl rfl (by kernel_rfl)
@[reducible] def mX:Cx:={K:=[.box 3 2 true,Yc,.no,.no,Y,Yc,Yr 0,Yc,Y,Y,Yc,Y],T:=[(9,ty9),(73,lp)],S:=[(68,bK)],H:=[],res:=[.tmp 4],ios:=[0],G:=gl0}
def fb:List D→Option Out:=cj mX Try.f104
@[reducible] def jE:FS:={pm:=[.box 3 2 true,Yc],rm:=[Y],f:=fb}
theorem mU:aM gl0 Try.prog 104 jE:=aZ (c:=mX) (aj bL aK) Try.func104 rfl rfl (by kernel_rfl)
@[reducible] def kL:Cx:={K:=[.box 3 2 true,.no,Y,Y,Y,Yr 0,Y,Y,Y,Y,Y,Y,Y,Yr 0,Yb,Y,Y,Y],T:=[(3,ty3),(9,ty9),(73,lp)],S:=[(68,bK),(104,jE)],H:=[(0,([0,3,4],[0,3]))],res:=[.tmp 2],ios:=[0],G:=gl0}
def cJ:List D→Option Out:=cj kL Try.f99
@[reducible] def gS:FS:={pm:=[.box 3 2 true],rm:=[Y],f:=cJ}
theorem kX:aM gl0 Try.prog 99 gS:=aZ (c:=kL) (aj bL (aj mU aK)) Try.func99 rfl rfl (by kernel_rfl)
@[reducible] def jj:Cx:={K:=[.box 3 2 true,.no,Y,Y,Y,Yr 0,Y,Y,Y,Yr 0,Yb,Y,Y,Y,Yr 0,Y,Y,Y,Y,Y,Y,Y,Y,Y,Y,Y,Yr 0,Y,Y,Yr 0,Y],T:=[(3,ty3),(9,ty9),(73,lp)],S:=[(68,bK),(99,gS),(104,jE)],H:=[(1,([0,3,4],[0,3]))],res:=[.tmp 2],ios:=[0],G:=gl0}
def bN:List D→Option Out:=cj jj Try.f70
@[reducible] def fL:FS:={pm:=[.box 3 2 true],rm:=[Y],f:=bN}
theorem jo:aM gl0 Try.prog 70 fL:=aZ (c:=jj) (aj bL (aj kX (aj mU aK))) Try.func70 rfl rfl (by kernel_rfl)
@[reducible] def iC:Cx:={K:=[.box 3 2 true,.no,.box 4 0 false,.box 4 0 false,Yr 0,Yb,Y,Yr 0,Y,Y,Y,Yr 3,Y,Y,Y,Yr 0,Y,Yr 3,Y,Y,Yr 0,Yb,Y,Yr 3,Yr 0,Y,Y,Y,Yr 0,Yb,Y,Yr 3,Y,Y,Yr 0,Yb,Y,Yr 3,Y,Y,Yr 0,Yb,Y,Yr 3,Y,Y,Yr 0,Y,Yr 3,Y],T:=[(3,ty3),(9,ty9),(27,BR),(46,CA)],S:=[(68,bK),(70,fL),(98,gw),(99,gS)],H:=[],res:=[.cell 2 46],ios:=[0],G:=gl0}
def bq:List D→Option Out:=cj iC Try.f60
@[reducible] def fq:FS:={pm:=[.box 3 2 true],rm:=[Y],f:=bq}
theorem fp:aM gl0 Try.prog 60 fq:=aZ (c:=iC) (aj bL (aj jo (aj gz (aj kX aK)))) Try.func60 rfl rfl (by kernel_rfl)
end Go.Proofs.Ytkcojipciiakdaa

end
