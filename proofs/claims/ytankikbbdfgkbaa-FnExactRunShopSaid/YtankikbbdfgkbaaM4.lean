/-
  A part of the proof: contracts and plain forms of functions beneath the statement, made small by a program (names shortened, what is not needed left out).
-/
import Derived.Test.YtankikbbdfgkbaaRows
import Derived.Test.YtankikbbdfgkbaaM3
import Derived.Maps.AppendAt
import Derived.Lib.Builder
import Derived.OwnWalk
import Derived.Below
import Derived.Shelf.Abstract
import Derived.WalkKit
import Derived.Handy
open Go.IntKind renaming i64 → IM, u8 → Jk
open Option renaming map → IP, bind_some → IW
open Go.Lib renaming cell_of_heap → IQ, frozen_of_heap → IY
open List renaming getElem?_eq_some_iff → IU, length_map → IV, getElem_mem → IX, map_take → IZ, getElem?_append_right → Ja, getElem?_set_ne → Jb, take_succ_eq_append_getElem → Jc, getElem?_eq_getElem → Jd, length_take → Jf, getElem?_cons_succ → Jg, drop_eq_getElem_cons → Jm, getElem?_cons_zero → Jn, length_eq_one_iff → Jo, cons_append → Jq, set_append_right → Jr, eq_nil_of_length_eq_zero → Jt, set_cons_zero → Jw, getD_eq_getElem?_getD → Jz, nil_append → JI, replicate → JL, drop_zero → JN, getElem?_toArray → JO, range → JP, drop_succ_cons → JQ, getD_cons_zero → JR, set_cons_succ → JT, drop_length → JX, length_cons → JY, map_append → JZ, length_nil → Ka, take_zero → Ke
open Nat renaming le_of_lt → Je, le_refl → Jv, lt_of_lt_of_le → Jy, zero_add → JC, sub_self → JS, min_eq_left → Kc
open Bool renaming false_eq_true → Jh, and_eq_true → Jj, not_true → Jp, not_eq_true' → JV, not_false → Kf
open Option.some renaming injEq → Ji, inj → JJ
open Array renaming getElem?_eq_some_iff → Jl
open Int renaming not_lt → Js, not_le → JB, reduceLT → JF, reduceLE → JG, reduceEq → JH, toNat_natCast → JU
open Go.Proofs renaming enters_of → Ju
open Go.Value renaming int → Jx, ownBlock → Kg
open Go.World renaming setCell → JA
open Classical renaming choose → JD, choose_spec → JM
open Go.Op renaming bytesLess → JE
open UInt8 renaming ofNat → JK
open Go.Value.slice renaming injEq → JW
open Go.Oper renaming upon_enter → Kb
set_option maxRecDepth 100000
set_option linter.unusedSimpArgs false
set_option linter.unusedVariables false
noncomputable section
namespace Go.V
section
variable {k:IntKind} {a b:Int} {bl:Bool} {eq:List Nat}
@[simp] theorem Cq:bin .add bl eq (.v (.int k a)) (.v (.int k b))=some (.v (.int k (k.wrap (a+b)))):=by simp [bin,eQ]
@[simp] theorem Ck:bin .sub bl eq (.v (.int k a)) (.v (.int k b))=some (.v (.int k (k.wrap (a - b)))):=by simp [bin,eQ]
@[simp] theorem CF:bin .mul bl eq (.v (.int k a)) (.v (.int k b))=some (.v (.int k (k.wrap (a*b)))):=by simp [bin,eQ]
@[simp] theorem Ix:bin .quo bl eq (.v (.int k a)) (.v (.int k b))=if b=0 then none else some (.v (.int k (k.wrap (a.tdiv b)))):=by simp [bin,eQ]
@[simp] theorem Iw:bin .rem bl eq (.v (.int k a)) (.v (.int k b))=if b=0 then none else some (.v (.int k (a.tmod b))):=by simp [bin,eQ]
@[simp] theorem Cg:bin .lss bl eq (.v (.int k a)) (.v (.int k b))=some (B (decide (a<b))):=by simp [bin,eQ]
@[simp] theorem CG:bin .leq bl eq (.v (.int k a)) (.v (.int k b))=some (B (decide (a≤b))):=by simp [bin,eQ]
@[simp] theorem Co:bin .gtr bl eq (.v (.int k a)) (.v (.int k b))=some (B (decide (b<a))):=by simp [bin,eQ]
@[simp] theorem Cu:bin .geq bl eq (.v (.int k a)) (.v (.int k b))=some (B (decide (b≤a))):=by simp [bin,eQ]
@[simp] theorem CK:bin .eql bl eq (.v (.int k a)) (.v (.int k b))=some (B (decide (a=b))):=by
 have:(a==b)=decide (a=b):=rfl;simp [bin,eQ,this]
@[simp] theorem mZ:bin .neq bl eq (.v (.int k a)) (.v (.int k b))=some (B (!decide (a=b))):=by
 have:(a != b) = !decide (a=b):=rfl;simp [bin,eQ,this]
@[simp] theorem HZ {a b:Bool}:bin .eql true eq (B a) (B b)=some (B (a==b)):=by simp [bin]
@[simp] theorem Ik {a b:Bool}:bin .neq true eq (B a) (B b)=some (B !(a==b)):=by simp [bin]
@[simp] theorem EN {a b:ByteArray}:bin .add bl eq (T a) (T b)=if a.size+b.size≤1152921504606846976 then some (T (a++b)) else none:=by simp [bin,pt]
@[simp] theorem Ee {a b:ByteArray}:bin .eql bl eq (T a) (T b)=some (B (decide (a=b))):=by
 have:(a.toList==b.toList)=decide (a=b):=by
  rw [Bool.eq_iff_iff,beq_iff_eq,decide_eq_true_eq];constructor
  ·intro h
   have h1:∀s:ByteArray,s.toList=s.data.toList:=fun s=>by simp [ByteArray.toList_eq]
   rw [h1,h1] at h;cases a;cases b;simp at h;simp [h]
  ·rintro rfl;rfl
 simp [bin,pt,this]
@[simp] theorem Ia {a b:ByteArray}:bin .neq bl eq (T a) (T b)=some (B (!decide (a=b))):=by
 have h:=Ee (a:=a) (b:=b) (bl:=bl) (eq:=eq);simp only [bin,pt,Ji,D.v.injEq,Value.bool.injEq] at h ⊢;rw [h]
@[simp] theorem BM {b:Bool}:un .not (B b)=some (B !b):=rfl
@[simp] theorem IE:un .neg (.v (.int k a))=some (.v (.int k (k.wrap (-a)))):=by simp [un]
theorem ak (h1 : -9223372036854775808≤a) (h2:a<9223372036854775808):IM.wrap a=a:=by
 simp [IntKind.wrap,IntKind.bits,IntKind.signed];split<;>omega
end
@[simp] theorem tW {c:Bool} {t e:Option Out}:ifD (B c) t e=if c=true then t else e:=by cases c<;>rfl
@[simp] theorem He {c:Bool} {t e:Option Out}:ifN c t e=if c=true then t else e:=by cases c<;>rfl
@[simp] theorem En {v:D} {c:Bool} {r:Option D}:am v (B c) true r=if c=true then r else some v:=by cases c<;>rfl
@[simp] theorem FO {v:D} {c:Bool} {r:Option D}:am v (B c) false r=if c=true then some v else r:=by cases c<;>rfl
@[simp] theorem Ei {v:D} {p:Bool} {l:List D} {r:Option D}:am v (.tup l) p r=some v:=rfl
@[simp] theorem CS {p:Bool} {l:List D} {r:Option Out} {alt:List D} {k:List D→Option Out}:fb (.tup l) p r alt k=k alt:=rfl
def HM (r:Option Out) (k:List D→Option Out):Option Out :=
 match r with
 | some (.nrm l)=>k l
 | _=>none
@[simp] theorem xT {l:List D} {k:List D→Option Out}:HM (some (.nrm l)) k=k l:=rfl
@[simp] theorem CA {c:Bool} {r:Option Out} {alt:List D} {k:List D→Option Out}:fb (B c) true r alt k=if c=true then HM r k else k alt:=by cases c<;>rfl
@[simp] theorem CN {c:Bool} {r:Option Out} {alt:List D} {k:List D→Option Out}:fb (B c) false r alt k=if c=true then k alt else HM r k:=by cases c<;>rfl
@[simp] theorem CL {c:Bool} {a b:D}:bm (B c) a b=some (if c=true then a else b):=by cases c<;>rfl
@[simp] theorem nf {rs us:List D} {k:List D→List D→Option Out}:aL (some (.ret rs us)) k=k rs us:=rfl
@[simp] theorem zX {i:Nat} {s:List D} {x:Nat→List D→Option Out} {r:List D→List D→Option Out}:cO (.ext i s) x r=x i s:=rfl
@[simp] theorem HW {a b:List D} {x:Nat→List D→Option Out} {r:List D→List D→Option Out}:cO (.ret a b) x r=r a b:=rfl
@[simp] theorem Iv {v:Value} {x:D}:ac (.v v) x=some x:=rfl
@[simp] theorem xo {z:Nat} {l:List D} {x:D}:ac (.arr z l) x=some x:=rfl
@[simp] theorem xu {l:List D} {x:D}:ac (.agg l) x=some x:=rfl
@[simp] theorem xU {i f:Nat} {x:D}:ac (.ref i f) x=some x:=rfl
@[simp] theorem HO {l:List D} {x:D}:ac (.tup l) x=some x:=rfl
@[simp] theorem cd {z:Nat} {l:List D}:lenD false (.arr z l)=some (I l.length):=rfl
@[simp] theorem AK {s:ByteArray}:lenD true (T s)=some (I s.size):=rfl
@[simp] theorem tk {a:D} {l:List D}:sl (a::l) 0=a:=rfl
@[simp] theorem Cv {a:D} {l:List D} {n:Nat}:sl (a::l) (n+1)=sl l n:=rfl
@[simp] theorem In {ag:Bool} {n off:Nat} {l:List D}:lj ag n off (.agg l)=an ag n (l.drop off):=rfl
@[simp] theorem CJ {ag:Bool} {n:Nat} {l:List D}:ldD ag n (.ptr l)=an ag n l:=rfl
@[simp] theorem zG {off:Nat} {l:List D}:jT off (.ptr l)=some (.ptr (l.drop off)):=rfl
@[simp] theorem Iu {n:Nat} {l:List D}:an true n l=if n≤l.length then some (.agg (l.take n)) else none:=rfl
@[simp] theorem Ce {n:Nat} {a:D} {l:List D}:an false n (a::l)=some a:=rfl
@[simp] theorem CR {l:List D} {i f:Nat}:atD (.agg l) (.ref i f)=some (l.drop f):=rfl
@[simp] theorem Iz {z:Nat} {l:List D} {i f:Nat}:atD (.arr z l) (.ref i f)=(l[i]?).map fun d=>d.cells.drop f:=rfl
@[simp] theorem HL {off i f:Nat}:eP off (.ref i f)=some (.ref i (f+off)):=rfl
@[simp] theorem xR {z:Nat} {l:List D} {k:IntKind} {i:Nat}:bg z (.arr z l) (.v (.int k (i:Int)))=(l[i]?).map D.cells:=by simp [bg]
theorem De {z:Nat} {l:List D} {k:IntKind} {n:Int} (h:0≤n):bg z (.arr z l) (.v (.int k n))=(l[n.toNat]?).map D.cells:=by simp [bg,h]
@[simp] theorem Io {z:Nat} {l:List D} {k:IntKind} {i:Nat}:iy z (.arr z l) (.v (.int k (i:Int)))=if i<l.length then some (.ref i 0) else none:=by simp [iy]
@[simp] theorem zK {l:List D}:(D.agg l).cells=l:=rfl
@[simp] theorem HN {v:Value}:(D.v v).cells=[.v v]:=rfl
@[simp] theorem Hg {z:Nat} {l:List D}:(D.arr z l).cells=[.arr z l]:=rfl
@[simp] theorem EG {v:Value}:bq (.v v)=some (.v v):=rfl
@[simp] theorem Ic {l:List D}:bq (.agg l)=if l.all yK=true then some (.agg l) else none:=by
 have:(D.agg l).isV=l.all yK:=by
  simp only [D.isV];congr 1
 simp [bq,this]
@[simp] theorem IB {v:Value}:yK (.v v)=true:=rfl
@[simp] theorem Ip {z:Nat} {l:List D}:yK (.arr z l)=false:=rfl
@[simp] theorem Ih {v:Value}:(D.v v).single=true:=rfl
@[simp] theorem HI {z:Nat} {l:List D}:(D.arr z l).single=true:=rfl
@[simp] theorem DJ {l:List D}:(D.agg l).width=l.length:=rfl
@[simp] theorem Iy {v:Value}:(D.v v).width=1:=rfl
@[simp] theorem HR {z:Nat} {l:List D}:(D.arr z l).width=1:=rfl
@[simp] theorem It {n:Nat} {x:D}:fg n x=if x.cells.length=n∧x.cells.all D.single=true then some (.agg x.cells) else none:=rfl
@[simp] theorem IA {n i f:Nat} {l:List D} {x:D}:stD n (.agg l) (.ref i f) x=if x.cells.length=n∧f+n≤l.length∧x.cells.all D.single=true then some (.agg (ci l f x.cells)) else none:=rfl
@[simp] theorem sn {l:List D} {f:Nat} {vs:List D}:ci l f vs=l.take f++vs++l.drop (f+vs.length):=rfl
@[simp] theorem HQ {l:List D} {i:Nat}:jN (.tup l) i=match l[i]? with
  | some .bad=>none
  | some (.tup _)=>none
  | r=>r:=rfl
@[simp] theorem Hy {l:List D} {i:Nat}:rA (.tup l) i = .tup (l.set i .bad):=rfl
@[simp] theorem CO {x:D}:BW (.ref 0 0) x=some x:=rfl
@[simp] theorem fF {z eb:Nat} {l m:List D}:js z eb (.arr z l) (.arr z m)=if (l.length+m.length)*eb≤140737488355328∧l.length+m.length≤1152921504606846976 then some (.arr z (l++m)) else none:=by simp [js]
@[simp] theorem Ht {z:Nat} {l:List D} {k:IntKind} {i:Nat}:bg z (.arr z l) (.v (.int k ((i:Int)+1)))=(l[i+1]?).map D.cells:=xR (i:=i+1)
@[simp] theorem Hu {z:Nat} {l:List D} {k:IntKind}:bg z (.arr z l) (.v (.int k 0))=(l[0]?).map D.cells:=xR (i:=0)
@[simp] theorem uB {z eb:Nat} {x:D} {k k':IntKind} {n m:Nat}:BI z eb x (.v (.int k (n:Int))) (.v (.int k' (m:Int)))=if n≤m∧m*eb≤140737488355328∧m≤140737488355328 then some (.arr z (JL n x)) else none:=by
 have h:((n:Int)≤m∧(m:Int)*(eb:Int)≤140737488355328∧(m:Int)≤140737488355328)↔(n≤m∧m*eb≤140737488355328∧m≤140737488355328):=by
  rw [←Int.natCast_mul];omega
 simp only [BI,Int.natCast_nonneg,true_and,h,JU]
theorem CB {n z i:Nat} {L c v:List D} (h:L[i]?=some (.agg c)) (hc:c.length=n) (hv:v.length=n) (hs:v.all D.single=true):stD n (.arr z L) (.ref i 0) (.agg v)=some (.arr z (L.set i (.agg v))):=by
 have e:(D.agg c).ofCells (ci c 0 v) = .agg v:=by
  simp only [D.ofCells,ci,Ke,JI,JC,hv,←hc,JX,List.append_nil]
 have h2:(D.agg v).cells=v:=rfl;simp only [stD,h,h2,e,DJ,hc,hv,hs,JC,Jv,and_self,if_true,zK]
theorem zN {z i:Nat} {L:List D} {v w:Value} (h:L[i]?=some (.v w)):stD 1 (.arr z L) (.ref i 0) (.v v)=some (.arr z (L.set i (.v v))):=by
 simp [stD,h,D.ofCells]
def je {β:Type} (f:β→D) (z:D) (l:List β) (i:Nat):List D:=(l.take i).map f++JL (l.length - i) z
section
variable {β:Type} {f:β→D} {z:D} {l:List β} {i:Nat}
theorem oT:JL l.length z=je f z l 0:=by simp [je]
theorem oG:je f z l l.length=l.map f:=by simp [je]
@[simp] theorem GE (h:i≤l.length):(je f z l i).length=l.length:=by simp [je];omega
theorem rh (h:i<l.length):(je f z l i)[i]?=some z:=by
 rw [je,Ja (by simp;omega)];simp [List.getElem?_replicate];omega
theorem rl {x:β} (h:l[i]?=some x):(je f z l i).set i (f x)=je f z l (i+1):=by
 have hi:i<l.length:=(IU.1 h).1;have hx:l[i]=x:=(IU.1 h).2;obtain⟨m,hm⟩:∃m,l.length - i=m+1:=⟨l.length - i - 1,by omega⟩
 rw [je,je,hm,show l.length - (i+1)=m from by omega,List.replicate_succ,Jr _ _ (by simp;omega)];have:i - (List.map f (l.take i)).length=0:=by simp;omega
 rw [this,Jw,Jc hi,JZ,hx];simp
end
theorem gd {z i f:Nat} {L c:List D} {v:Value} (h:L[i]?=some (.agg c)) (hf:f<c.length):stD 1 (.arr z L) (.ref i f) (.v v)=some (.arr z (L.set i (.agg (ci c f [.v v])))):=by
 have h2:(D.v v).cells=[.v v]:=rfl;have h3:f+1≤c.length:=hf;simp [stD,h,h2,h3,D.ofCells]
def gC {β:Type} (g:Nat→D) (f:β→D) (l:List β) (i:Nat):List D:=(JP i).map g++(l.drop i).map f
section
variable {β:Type} {g:Nat→D} {f:β→D} {l:List β} {i:Nat}
theorem oN:l.map f=gC g f l 0:=by simp [gC]
theorem pA:gC g f l l.length=(JP l.length).map g:=by simp [gC]
@[simp] theorem kT (h:i≤l.length):(gC g f l i).length=l.length:=by simp [gC];omega
theorem rK (h:i<l.length):(gC g f l i)[i]?=some (f l[i]):=by
 rw [gC,Ja (by simp)];simp [h]
theorem rF (h:i<l.length):(gC g f l i).set i (g i)=gC g f l (i+1):=by
 rw [gC,gC,Jm h,Jr _ _ (by simp),List.map_cons,IV,List.length_range,JS,Jw,List.range_succ,JZ];simp
end
theorem ee {z:Nat}:dF z []=some (.arr z []):=rfl
@[simp] theorem qA {β:Type} {z:Nat} {l:List β} {f:β→D} (h:∀x,(f x).isV=true):ll (.arr z (l.map f))=some (.arr z (l.map f)):=by
 have:(l.map f).all D.isV=true:=by simp [h]
 simp only [ll,this,if_true]
theorem BK {z i j:Nat} {l:List D} {k k':IntKind} (h1:i≤j) (h2:j≤l.length):fe false z (.arr z l) (.v (.int k (i:Int))) (.v (.int k' (j:Int)))=some (.arr z ((l.take j).drop i)):=by
 simp only [fe,JU,true_and];rw [if_pos];omega
@[simp] theorem IL {p:Prop} [Decidable p] {a b:Bool}:(if p then D.v (.bool a) else D.v (.bool b))=D.v (.bool (if p then a else b)):=by split<;>rfl
theorem qU {body:List D→Option Out}:∀(n:Nat) (s:List D) (o:Out),iter body n s=some o→∀m,n≤m→iter body m s=some o
 | 0,_,_,h,_,_=>by simp [iter] at h
 | n+1,s,o,h,m,hm=>by
  obtain⟨m,rfl⟩:∃q,m=q+1:=⟨m - 1,by omega⟩
  simp only [iter] at h ⊢;split at h
  ·rename_i s' hb
   exact qU n s' o h m (by omega)
  ·exact h
theorem Ew {body:List D→Option Out} {s:List D} {o:Out} (n:Nat) (h:iter body n s=some o):bf body s=some o:=by
 have hex:∃n,(iter body n s).isSome=true:=⟨n,by rw [h];rfl⟩
 unfold bf;rw [dif_pos hex];obtain⟨o',ho⟩:=Option.isSome_iff_exists.1 (JM hex);rw [ho];have h1:=qU _ _ _ ho (max n (JD hex)) (by omega);have h2:=qU _ _ _ h (max n (JD hex)) (by omega);rw [h1] at h2;exact h2
inductive Runs (body:List D→Option Out):List D→Out→Prop where
 | ext {s:List D} {i:Nat} {δ:List D}:body s=some (.ext i δ)→Runs body s (.ext i δ)
 | ret {s:List D} {rs us:List D}:body s=some (.ret rs us)→Runs body s (.ret rs us)
 | nrm {s s':List D} {o:Out}:body s=some (.nrm s')→Runs body s' o→Runs body s o
theorem Runs.iter {body:List D→Option Out} {s:List D} {o:Out} (h:Runs body s o):∃n,V.iter body n s=some o:=by
 induction h with
 | ext h=>exact⟨1,by simp [V.iter,h]⟩
 | ret h=>exact⟨1,by simp [V.iter,h]⟩
 | nrm h _ ih =>
  obtain⟨n,hn⟩:=ih;exact⟨n+1,by simp [V.iter,h,hn]⟩
theorem Runs.loop {body:List D→Option Out} {s:List D} {o:Out} (h:Runs body s o):bf body s=some o:=by
 obtain⟨n,hn⟩:=h.iter;exact Ew n hn
def goL {α β:Type} (g:Nat→β→α→α ⊕ Out) (fin:α→Out):Nat→List β→α→Out
 | _,[],a=>fin a
 | i,x::l,a=>match g i x a with
  | .inl a'=>goL g fin (i+1) l a'
  | .inr o=>o
def Out.ends:Out→Bool
 | .nrm _=>false
 | _=>true
theorem Runs.one {body:List D→Option Out} {s:List D} {o:Out} (h:body s=some o) (ho:o.ends=true):Runs body s o:=by
 cases o with
 | nrm _=>simp [Out.ends] at ho
 | ext _ _=>exact .ext h
 | ret _ _=>exact .ret h
theorem Runs.list {α β:Type} {body:List D→Option Out} (l:List β) (st:Nat→α→List D) (Inv:Nat→α→Prop) (g:Nat→β→α→α ⊕ Out) (fin:α→Out)
  (hs:∀i x a,l[i]?=some x→Inv i a→match g i x a with
   | .inl a'=>body (st i a)=some (.nrm (st (i+1) a'))∧Inv (i+1) a'
   | .inr o=>body (st i a)=some o∧o.ends=true)
  (he:∀a,Inv l.length a→body (st l.length a)=some (fin a)∧(fin a).ends=true) (a:α) (h0:Inv 0 a):Runs body (st 0 a) (goL g fin 0 l a):=by
 have key:∀(n i:Nat) (a:α),i+n=l.length→Inv i a→Runs body (st i a) (goL g fin i (l.drop i) a):=by
  intro n;induction n with
  | zero =>
   intro i a hi hI;have:i=l.length:=by omega
   subst this;rw [JX];exact Runs.one (he a hI).1 (he a hI).2
  | succ n ih =>
   intro i a hi hI;have hlt:i<l.length:=by omega
   rw [Jm hlt];have h:=hs i l[i] a (Jd hlt) hI;simp only [goL];split at h
   ·exact .nrm h.1 (ih (i+1) _ (by omega) h.2)
   ·exact Runs.one h.1 h.2
 simpa using key l.length 0 a (by omega) h0
theorem nm {α β:Type} {body:List D→Option Out} (l:List β) (st:Nat→α→List D) (Inv:Nat→α→Prop) (g:Nat→β→α→α ⊕ Out) (fin:α→Out)
  (hs:∀i x a,l[i]?=some x→Inv i a→match g i x a with
   | .inl a'=>body (st i a)=some (.nrm (st (i+1) a'))∧Inv (i+1) a'
   | .inr o=>body (st i a)=some o∧o.ends=true)
  (he:∀a,Inv l.length a→body (st l.length a)=some (fin a)∧(fin a).ends=true) (a:α) (h0:Inv 0 a) {s0:List D} (h:s0=st 0 a):bf body s0=some (goL g fin 0 l a):=by
 rw [h];exact(Runs.list l st Inv g fin hs he a h0).loop
theorem cg {body:List D→Option Out} (n:Nat) (st:Nat→List D) (o:Out) (hs:∀i,i<n→body (st i)=some (.nrm (st (i+1)))) (he:body (st n)=some o) (ho:o.ends=true) {s0:List D} (h:s0=st 0):bf body s0=some o:=by
 rw [h];have key:∀(m i:Nat),i+m=n→Runs body (st i) o:=by
  intro m;induction m with
  | zero =>
   intro i hi;have:i=n:=by omega
   subst this;exact Runs.one he ho
  | succ m ih=>exact fun i hi=>.nrm (hs i (by omega)) (ih (i+1) (by omega))
 exact(key n 0 (by omega)).loop
def dq {β:Type} (p:Nat→β→Bool):Nat→List β→Bool
 | _,[]=>true
 | i,x::l=>p i x&&dq p (i+1) l
theorem gb {β:Type} {body:List D→Option Out} (l:List β) (st:Nat→List D) (p:Nat→β→Bool) (o1 o2:Out) (hs:∀(i:Nat) (hi:i<l.length),body (st i)=some (if p i l[i]=true then .nrm (st (i+1)) else o1)) (he:body (st l.length)=some o2)
  (h1:o1.ends=true) (h2:o2.ends=true) {s0:List D} (h:s0=st 0):bf body s0=some (if dq p 0 l=true then o2 else o1):=by
 have e:∀(m:List β) (i:Nat),goL (fun i x (_:Unit)=>if p i x=true then .inl () else .inr o1) (fun _=>o2) i m ()=if dq p i m=true then o2 else o1:=by
  intro m;induction m with
  | nil=>intro i;simp [goL,dq]
  | cons x m ih =>
   intro i;simp only [goL,dq];by_cases hp:p i x=true
   ·simp [hp,ih]
   ·simp [hp]
 rw [←e];refine nm l (fun i _=>st i) (fun _ _=>True) _ _ (fun i x a hx _=>?_) (fun _ _=>⟨he,h2⟩) () trivial h
 have hi:i<l.length:=(IU.1 hx).1;have hxe:l[i]=x:=(IU.1 hx).2;have:=hs i hi;rw [hxe] at this;by_cases hp:p i x=true
 ·simpa [hp] using this
 ·simpa [hp,h1] using this
def xE {α β:Type} (f:Nat→α→β→α):Nat→List β→α→α
 | _,[],a=>a
 | i,x::l,a=>xE f (i+1) l (f i a x)
theorem Bn {α β:Type} {body:List D→Option Out} (l:List β) (st:Nat→α→List D) (Inv:Nat→α→Prop) (f:Nat→α→β→α) (fin:α→Out) (a:α) (hs:∀(i:Nat) (a:α) (hi:i<l.length),Inv i a→body (st i a)=some (.nrm (st (i+1) (f i a l[i])))∧Inv (i+1) (f i a l[i]))
  (he:∀a,Inv l.length a→body (st l.length a)=some (fin a)) (h1:∀a,(fin a).ends=true) (h0:Inv 0 a) {s0:List D} (h:s0=st 0 a):bf body s0=some (fin (xE f 0 l a)):=by
 have e:∀(m:List β) (i:Nat) (a:α),goL (fun i x a=>.inl (f i a x)) fin i m a=fin (xE f i m a):=by
  intro m;induction m with
  | nil=>intro i a;rfl
  | cons x m ih=>intro i a;simp only [goL,xE];exact ih (i+1) (f i a x)
 rw [←e l 0 a];refine nm l st Inv (fun i x a=>.inl (f i a x)) _ (fun i x a hx hI=>?_) (fun a hI=>⟨he a hI,h1 a⟩) a h0 h
 have hi:i<l.length:=(IU.1 hx).1;have hxe:l[i]=x:=(IU.1 hx).2;rw [←hxe];exact hs i a hi hI
theorem aO {body:List D→Option Out} {s0:List D} {K:Out→Option Out} {r:Option Out} (o:Out) (h:bf body s0=some o) (hk:K o=r):(bf body s0).bind K=r:=by
 rw [h];exact hk
theorem GR {α:Type} {body:List D→Option Out} (st:α→List D) (Inv:α→Prop) (μ:α→Nat) (Q:α→Out→Prop)
  (hs:∀a,Inv a→(∃a',body (st a)=some (.nrm (st a'))∧Inv a'∧μ a'<μ a∧∀o,Q a' o→Q a o)∨∃o,body (st a)=some o∧o.ends=true∧Q a o) (a:α) (h:Inv a) {s0:List D} (h0:s0=st a):∃o,bf body s0=some o∧Q a o:=by
 rw [h0];have key:∀(n:Nat) (a:α),μ a<n→Inv a→∃o,Runs body (st a) o∧Q a o:=by
  intro n;induction n with
  | zero=>exact fun a h=>by omega
  | succ n ih =>
   intro a hn hI;rcases hs a hI with ⟨a',h1,h2,h3,h4⟩ | ⟨o,h1,h2,h3⟩
   ·obtain⟨o,h5,h6⟩:=ih a' (by omega) h2
    exact⟨o,.nrm h1 h5,h4 o h6⟩
   ·exact⟨o,Runs.one h1 h2,h3⟩
 obtain⟨o,h1,h2⟩:=key (μ a+1) a (by omega) h;exact⟨o,h1.loop,h2⟩
theorem lp {α:Type} {body:List D→Option Out} {K:Out→Option Out} (R:Option Out→Prop) (st:α→List D) (Inv:α→Prop) (μ:α→Nat) (Q:Out→Prop)
  (hs:∀a,Inv a→(∃a',body (st a)=some (.nrm (st a'))∧Inv a'∧μ a'<μ a)∨∃o,body (st a)=some o∧o.ends=true∧Q o) (a:α) (h:Inv a) {s0:List D} (h0:s0=st a) (hk:∀o,Q o→R (K o)):R ((bf body s0).bind K):=by
 obtain⟨o,h1,h2⟩:=GR st Inv μ (fun _ o=>Q o) (fun a ha=>by
  rcases hs a ha with ⟨a',g1,g2,g3⟩ | h
  ·exact .inl ⟨a',g1,g2,g3,fun _ h=>h⟩
  ·exact .inr h) a h h0
 rw [h1];exact hk o h2
theorem GC:(type_of% @tk)∧(type_of% @Cv)∧(type_of% @xu)∧(type_of% @xU)∧(type_of% @xo)∧(type_of% @CO)∧(∀{α β:Type} (a:α) (f:α→Option β),(some a).bind f=f a)∧(∀{α β:Type} (a:α) (f:α→β),(some a).map f=some (f a))∧(type_of% @nf)∧(type_of% @En)∧(type_of% @FO)∧(type_of% @Ei)∧(type_of% @CA)∧(type_of% @CN)∧(type_of% @CS)∧(type_of% @xT)∧(type_of% @CL)∧(type_of% @tW)∧(type_of% @He)∧(∀{α:Type} {_h:Decidable True} (t e:α),(if True then t else e)=t)∧(∀{α:Type} {_h:Decidable False} (t e:α),(if False then t else e)=e)∧(type_of% @Jh)∧(type_of% @BM)∧(type_of% @Jp)∧(type_of% @Kf)∧(type_of% @decide_true)∧(type_of% @decide_false)∧(type_of% @and_self)∧(type_of% @zX)∧(type_of% @Nat.beq_refl)∧(type_of% @Cg)∧(type_of% @Co)∧(type_of% @CG)∧(type_of% @Cu)∧(type_of% @CK)∧(type_of% @mZ)∧(type_of% @Cq)∧(type_of% @Ck)∧(type_of% @CF)∧(type_of% @cd)∧(type_of% @AK)∧(∀{α β:Type} {l:List α} (f:α→β),(l.map f).length=l.length)∧(type_of% @CJ)∧(type_of% @Ce)∧(type_of% @EG)∧(type_of% @zG)∧(∀{α:Type} {l:List α},l.drop 0=l)∧(∀{α:Type} {a:α} {l:List α} {i:Nat},(a::l).drop (i+1)=l.drop i)∧(type_of% @CR)∧(type_of% @ee) :=
 ⟨@tk,⟨@Cv,⟨@xu,⟨@xU,⟨@xo,⟨@CO,⟨@IW,⟨@Option.map_some,⟨@nf,⟨@En,⟨@FO,⟨@Ei,⟨@CA,⟨@CN,⟨@CS,⟨@xT,⟨@CL,⟨@tW,⟨@He,⟨@if_true,⟨@if_false,⟨@Jh,⟨@BM,⟨@Jp,⟨@Kf,⟨@decide_true,⟨@decide_false,⟨@and_self,⟨@zX,⟨@Nat.beq_refl,⟨@Cg,⟨@Co,⟨@CG,⟨@Cu,⟨@CK,⟨@mZ,⟨@Cq,⟨@Ck,⟨@CF,⟨@cd,⟨@AK,⟨@IV,⟨@CJ,⟨@Ce,⟨@EG,⟨@zG,⟨@JN,⟨@JQ,⟨@CR,@ee⟩⟩⟩⟩⟩⟩⟩⟩⟩⟩⟩⟩⟩⟩⟩⟩⟩⟩⟩⟩⟩⟩⟩⟩⟩⟩⟩⟩⟩⟩⟩⟩⟩⟩⟩⟩⟩⟩⟩⟩⟩⟩⟩⟩⟩⟩⟩⟩⟩
end Go.V

namespace Go.V
open Go.RowKit
section
variable {P:Program} {c:Cx} {B:Nat} {X:Nat→Prop} {w0:World} {F0 F:Nat→Prop} {O:Nat→Option (Nat × Nat)} {a:Act} {w:World} {δ:List D}
end
end Go.V

namespace Go.Proofs.Ytankikbbdfgkbaa
open Go Go.V
abbrev gl0:List (Nat × (Obj→Prop)):=[]
end Go.Proofs.Ytankikbbdfgkbaa

namespace Go.Proofs.Ytankikbbdfgkbaa
open Go.V
set_option maxRecDepth 100000
theorem vP:Try.prog.follows .mixedOrders=true:=by kernel_rfl
theorem aJ {c:Cx} {S:FS} {f:FuncId} {fn:Func} (hS:∀f S,dl c.S f=some S→aF c.G Try.prog f S) (hf:Try.prog.funcs[f]?=some fn) (hres:c.res=fn.results.toList) (hF:S.f=bJ c fn)
  (hb:(okT Try.prog c.T&&(!(fn.name== "runtime.NumGoroutine")&&GQ c fn S.pm S.rm))=true):aF c.G Try.prog f S:=by
 obtain⟨pm,rm,g⟩:=S;cases hF;simp only [Jj,JV] at hb;exact Ep hb.1 hS vP hf hb.2.1 hb.2.2 hres
@[reducible] def ty3:TI:={n:=1,zero:=[.v (.int .i64 0)],ik:=some .i64}
@[reducible] def ty4:TI:={n:=1,zero:=[.v (.bool false)],bl:=true}
@[reducible] def ty5:TI:={n:=1,zero:=[.v (.int .u8 0)],ik:=some .u8}
@[reducible] def ty9:TI:={n:=1,zero:=[.v (.string ⟨#[]⟩)],str:=true}
@[reducible] def HC:TI:={n:=1,zero:=[.arr 4 []],elem:=79,ez:=4,eb:=40}
@[reducible] def Ie:TI:={n:=1,zero:=[.arr 4 []],elem:=81,ez:=4,eb:=48}
@[reducible] def IC:TI:={agg:=true,n:=4,zero:=[.arr 4 [],.arr 4 [],.v (.int .i64 0),.v (.int .i64 0)],fs:=[(0,22),(1,23),(2,3),(3,3)]}
@[reducible] def Gn:TI:={n:=1,zero:=[.arr 1 []],elem:=3,ez:=1,eb:=8}
@[reducible] def jU:TI:={n:=1,zero:=[.arr 4 []],elem:=85,ez:=4,eb:=40}
@[reducible] def zD:TI:={n:=1,zero:=[.arr 4 []],elem:=63,ez:=4,eb:=48}
@[reducible] def DO:TI:={agg:=true,n:=4,zero:=[.arr 4 [],.arr 4 [],.v (.int .i64 0),.v (.int .i64 0)],fs:=[(0,30),(1,31),(2,3),(3,3)]}
@[reducible] def jr:TI:={n:=1,zero:=[.arr 1 []],elem:=9,ez:=1,eb:=16}
@[reducible] def uN:TI:={agg:=true,n:=4,zero:=[.v (.int .i64 0),.arr 1 [],.v (.bool false),.v (.int .i64 0)],fs:=[(0,3),(1,61),(2,4),(3,3)]}
@[reducible] def FP:TI:={agg:=true,n:=4,zero:=[.v (.string ⟨#[]⟩),.v (.int .i64 0),.v (.int .i64 0),.v (.int .i64 0)],fs:=[(0,9),(1,3),(2,3),(3,3)],eq:=[3,1,1,1]}
@[reducible] def HB:TI:={agg:=true,n:=4,zero:=[.v (.int .i64 0),.arr 1 [],.v (.bool false),.v (.int .i64 0)],fs:=[(0,3),(1,61),(2,4),(3,3)]}
@[reducible] def jV:TI:={agg:=true,n:=4,zero:=[.v (.string ⟨#[]⟩),.v (.int .i64 0),.v (.int .i64 0),.v (.int .i64 0)],fs:=[(0,9),(1,3),(2,3),(3,3)],eq:=[3,1,1,1]}
@[reducible] def Iq:TI:={n:=1,zero:=[.arr 1 []],elem:=5,ez:=1,eb:=1}
@[reducible] def qw:Cx:={K:=[Y,Y,.box 4 0 false,.no,Y,Y,Yr 2,Y,Y,Y,Y,Y,Y],T:=[(3,ty3),(9,ty9),(79,FP)],S:=[],H:=[],res:=[.tmp 4],ios:=[],G:=gl0}
def iP:List D→Option Out:=bJ qw Try.f50
@[reducible] def pX:FS:={pm:=[Y,Y],rm:=[Y],f:=iP}
theorem zh:aF gl0 Try.prog 50 pX:=aJ (c:=qw) aB Try.func50 rfl rfl (by kernel_rfl)
@[reducible] def ov:Cx:={K:=[Yc,Y,.no,.no,Y,Y,Y,Yc,Y,Y,Y,Y,Y,Yc,Y,Y,Y,Y,Yc,Y,Yc,Y,Y,Y,Y,Y,Y],T:=[(3,ty3),(9,ty9),(22,HC),(79,FP)],S:=[(50,pX)],H:=[(0,([0,1,5],[1]))],res:=[.tmp 4],ios:=[],G:=gl0}
def gS:List D→Option Out:=bJ ov Try.f29
@[reducible] def og:FS:={pm:=[Yc,Y],rm:=[Y],f:=gS}
theorem wJ:aF gl0 Try.prog 29 og:=aJ (c:=ov) (ao zh aB) Try.func29 rfl rfl (by kernel_rfl)
@[reducible] def kw:Cx:={K:=[Yc,Y,.no,.no,Y,Y,Y,Yc,Y,Y,Y,Y,Y,Yc,Y,Y,Y,Y,Y,Yc,Y,Yc,Y,Y,Y,Y,Y,Y],T:=[(3,ty3),(9,ty9),(61,jr)],S:=[],H:=[(0,([0,1,5],[1]))],res:=[.tmp 4],ios:=[],G:=gl0}
def dA:List D→Option Out:=bJ kw Try.f74
@[reducible] def kr:FS:={pm:=[Yc,Y],rm:=[Y],f:=dA}
theorem qW:aF gl0 Try.prog 74 kr:=aJ (c:=kw) aB Try.func74 rfl rfl (by kernel_rfl)
@[reducible] def mV:Cx:={K:=[Yc,Y,.box 4 2 false,.no,Y,Yr 2,Yc,Y,Y,Y,Y,Y],T:=[(3,ty3),(4,ty4),(9,ty9),(61,jr),(81,HB)],S:=[(74,kr)],H:=[],res:=[.tmp 4],ios:=[],G:=gl0}
def eR:List D→Option Out:=bJ mV Try.f51
@[reducible] def mg:FS:={pm:=[Yc,Y],rm:=[Y],f:=eR}
theorem tu:aF gl0 Try.prog 51 mg:=aJ (c:=mV) (ao qW aB) Try.func51 rfl rfl (by kernel_rfl)
@[reducible] def lI:Cx:={K:=[Yc,Y,.no,.no,Y,Y,Y,Yc,Y,Y,Y,Y,Y,Yc,Y,Y,Y,Y,Yc,Y,Yc,Yc,Y,Y,Y,Y,Y],T:=[(3,ty3),(4,ty4),(23,Ie),(61,jr),(81,HB)],S:=[(51,mg)],H:=[(0,([0,1,5],[1]))],res:=[.tmp 4],ios:=[],G:=gl0}
def dY:List D→Option Out:=bJ lI Try.f30
@[reducible] def lD:FS:={pm:=[Yc,Y],rm:=[Y],f:=dY}
theorem sI:aF gl0 Try.prog 30 lD:=aJ (c:=lI) (ao tu aB) Try.func30 rfl rfl (by kernel_rfl)
@[reducible] def oo:Cx:={K:=[Yc,Y,.box 4 2 false,.no,Y,Yr 2,Yc,Y,Y,Y,Y,Yr 2,Yc,Y,Y,Y,Y,Y],T:=[(3,ty3),(22,HC),(23,Ie),(25,IC),(79,FP),(81,HB)],S:=[(29,og),(30,lD)],H:=[],res:=[.tmp 4],ios:=[],G:=gl0}
def fj:List D→Option Out:=bJ oo Try.f7
@[reducible] def wN:FS:={pm:=[Yc,Y],rm:=[Y],f:=fj}
theorem wR:aF gl0 Try.prog 7 wN:=aJ (c:=oo) (ao wJ (ao sI aB)) Try.func7 rfl rfl (by kernel_rfl)
@[reducible] def qc:Cx:={K:=[Y,.box 4 0 false,.box 4 0 false,.box 4 0 false,Yr 1,Y,Yr 3,Yr 1,Y,Yr 3,Yr 1,Y,Yr 3,Yr 1,Y,Yr 3,Y],T:=[(3,ty3),(9,ty9),(79,FP),(85,jV)],S:=[],H:=[],res:=[.cell 2 85],ios:=[],G:=gl0}
def iJ:List D→Option Out:=bJ qc Try.f55
@[reducible] def qI:FS:={pm:=[Y],rm:=[Y],f:=iJ}
theorem yw:aF gl0 Try.prog 55 qI:=aJ (c:=qc) aB Try.func55 rfl rfl (by kernel_rfl)
@[reducible] def nE:Cx:={K:=[Yc,.no,Yo 4 0,Yo 4 0,Y,Yc,Y,Yo 4 0,Y,Yc,Y,Y,Y,Y,.via 3,Y,Yc,Y,Yc,Y,Y,Yr 3,Yo 4 0],T:=[(3,ty3),(9,ty9),(22,HC),(30,jU),(79,FP),(85,jV)],S:=[(55,qI)],H:=[(0,([0,3,4],[3]))],res:=[.tmp 2],ios:=[],G:=gl0}
def kj:List D→Option Out:=bJ nE Try.f32
@[reducible] def vT:FS:={pm:=[Yc],rm:=[Yo 4 0],f:=kj}
theorem wX:aF gl0 Try.prog 32 vT:=aJ (c:=nE) (ao yw aB) Try.func32 rfl rfl (by kernel_rfl)
@[reducible] def kG:Cx:={K:=[Yc,.no,Yo 1 0,Yo 1 0,Y,Yc,Y,Yo 1 0,Y,Yc,Y,Y,Y,Y,.via 3,Y,Yc,Y,Yc,Y,Yr 3,Yo 1 0],T:=[(3,ty3),(9,ty9),(61,jr)],S:=[],H:=[(0,([0,3,4],[3]))],res:=[.tmp 2],ios:=[],G:=gl0}
def gN:List D→Option Out:=bJ kG Try.f76
@[reducible] def rb:FS:={pm:=[Yc],rm:=[Yo 1 0],f:=gN}
theorem qY:aF gl0 Try.prog 76 rb:=aJ (c:=kG) aB Try.func76 rfl rfl (by kernel_rfl)
@[reducible] def qt:Cx:={K:=[Y,Y,.box 4 0 false,.box 4 0 false,Y,Yr 2,Y,Yr 3,Y,Y,Yr 2,Y,Yr 3,Y,Y,Yr 2,Y,Yr 3,Y,Y,Yr 2,Y,Yr 3,Y,Y],T:=[(3,ty3),(9,ty9),(85,jV)],S:=[],H:=[],res:=[.tmp 4],ios:=[],G:=gl0}
def iL:List D→Option Out:=bJ qt Try.f60
@[reducible] def qo:FS:={pm:=[Y,Y],rm:=[Y],f:=iL}
theorem ze:aF gl0 Try.prog 60 qo:=aJ (c:=qt) aB Try.func60 rfl rfl (by kernel_rfl)
@[reducible] def nN:Cx:={K:=[Yc,Yc,.no,.no,Y,Y,Yc,Y,Yc,Y,Y,Y,Yc,Y,Y,Y,Y,Yc,Y,Yc,Y,Yc,Y,Yc,Y,Y,Y],T:=[(3,ty3),(9,ty9),(30,jU),(85,jV)],S:=[(60,qo)],H:=[(0,([0,1,5],[]))],res:=[.tmp 4],ios:=[],G:=gl0}
def gX:List D→Option Out:=bJ nN Try.f35
@[reducible] def nP:FS:={pm:=[Yc,Yc],rm:=[Y],f:=gX}
theorem xn:aF gl0 Try.prog 35 nP:=aJ (c:=nN) (ao ze aB) Try.func35 rfl rfl (by kernel_rfl)
@[reducible] def kv:Cx:={K:=[Yc,Yc,.no,.no,Y,Y,Yc,Y,Yc,Y,Y,Y,Yc,Y,Y,Y,Y,Yc,Y,Yc,Y,Yc,Y,Yc,Y,Y],T:=[(3,ty3),(9,ty9),(61,jr)],S:=[],H:=[(0,([0,1,5],[]))],res:=[.tmp 4],ios:=[],G:=gl0}
def eV:List D→Option Out:=bJ kv Try.f80
@[reducible] def kH:FS:={pm:=[Yc,Yc],rm:=[Y],f:=eV}
theorem qX:aF gl0 Try.prog 80 kH:=aJ (c:=kv) aB Try.func80 rfl rfl (by kernel_rfl)
@[reducible] def ma:Cx:={K:=[Yc,Yc,.box 4 2 false,.box 4 2 false,Y,Yr 2,Y,Yr 3,Y,Y,Yr 2,Yc,Yr 3,Yc,Y,Y,Yr 2,Y,Yr 3,Y,Y,Yr 2,Y,Yr 3,Y,Y],T:=[(3,ty3),(4,ty4),(9,ty9),(61,jr),(63,uN)],S:=[(80,kH)],H:=[],res:=[.tmp 4],ios:=[],G:=gl0}
def gr:List D→Option Out:=bJ ma Try.f61
@[reducible] def mJ:FS:={pm:=[Yc,Yc],rm:=[Y],f:=gr}
theorem tv:aF gl0 Try.prog 61 mJ:=aJ (c:=ma) (ao qX aB) Try.func61 rfl rfl (by kernel_rfl)
@[reducible] def lE:Cx:={K:=[Yc,Yc,.no,.no,Y,Y,Yc,Y,Yc,Y,Y,Y,Yc,Y,Y,Y,Y,Yc,Y,Yc,Yc,Yc,Y,Yc,Yc,Y,Y],T:=[(3,ty3),(4,ty4),(31,zD),(61,jr),(63,uN)],S:=[(61,mJ)],H:=[(0,([0,1,5],[]))],res:=[.tmp 4],ios:=[],G:=gl0}
def fH:List D→Option Out:=bJ lE Try.f36
@[reducible] def lM:FS:={pm:=[Yc,Yc],rm:=[Y],f:=fH}
theorem sK:aF gl0 Try.prog 36 lM:=aJ (c:=lE) (ao tv aB) Try.func36 rfl rfl (by kernel_rfl)
@[reducible] def nR:Cx:={K:=[Yc,Yc,.box 4 2 false,.box 4 2 false,Y,Yr 2,Yc,Yr 3,Yc,Y,Y,Yr 2,Yc,Yr 3,Yc,Y,Y,Yr 2,Y,Yr 3,Y,Y,Yr 2,Y,Yr 3,Y,Y],T:=[(3,ty3),(30,jU),(31,zD),(33,DO),(63,uN),(85,jV)],S:=[(35,nP),(36,lM)],H:=[],res:=[.tmp 4],ios:=[],G:=gl0}
def kh:List D→Option Out:=bJ nR Try.f12
@[reducible] def wI:FS:={pm:=[Yc,Yc],rm:=[Y],f:=kh}
theorem wz:aF gl0 Try.prog 12 wI:=aJ (c:=nR) (ao xn (ao sK aB)) Try.func12 rfl rfl (by kernel_rfl)
@[reducible] def ly:Cx:={K:=[Y,.no,Y,Y,Y,Y,Y,Y,Y,Y,Y,Y,Yb,Y,Y,Y,Y,Y,Y,Y],T:=[(3,ty3),(5,ty5),(9,ty9),(100,Iq)],S:=[],H:=[(0,([0,3],[3]))],res:=[.tmp 2],ios:=[],G:=gl0}
def bY:List D→Option Out:=bJ ly Try.f49
@[reducible] def cX:FS:={pm:=[Y],rm:=[Y],f:=bY}
theorem dU:aF gl0 Try.prog 49 cX:=aJ (c:=ly) aB Try.func49 rfl rfl (by kernel_rfl)
@[reducible] def lz:Cx:={K:=[.own 4 0 true,Y,.no,.no,Y,Y,Y,.via 0,Y,Y,Y,Y,.via 0,Y,Y,Y,Yr 0,Yr 0,Y,Y,.via 0,Y,Y,Yr 0,Yr 0,Y,Y,.via 0,Y,Y,Yr 0,Yr 0,Y,Y,.via 0,Y,Y,Yr 0,Yr 0,Y,Y,Y],T:=[(3,ty3),(9,ty9),(30,jU),(85,jV)],S:=[(49,cX)],H:=[(0,([0,1,5],[0,1]))],res:=[.tmp 4],ios:=[0],G:=gl0}
def iz:List D→Option Out:=bJ lz Try.f37
@[reducible] def sy:FS:={pm:=[.own 4 0 true,Y],rm:=[Y],f:=iz}
theorem tj:aF gl0 Try.prog 37 sy:=aJ (c:=lz) (ao dU aB) Try.func37 rfl rfl (by kernel_rfl)
@[reducible] def jn:Cx:={K:=[.own 1 0 true,Y,.no,.no,Y,Y,Y,.via 0,Y,Y,Y,Y,.via 0,Y,Y,Y,Yr 0,Y,Y,Y],T:=[(3,ty3),(9,ty9),(61,jr)],S:=[(49,cX)],H:=[(0,([0,1,5],[0,1]))],res:=[.tmp 4],ios:=[0],G:=gl0}
def fL:List D→Option Out:=bJ jn Try.f62
@[reducible] def ph:FS:={pm:=[.own 1 0 true,Y],rm:=[Y],f:=fL}
theorem po:aF gl0 Try.prog 62 ph:=aJ (c:=jn) (ao dU aB) Try.func62 rfl rfl (by kernel_rfl)
@[reducible] def jb:Cx:={K:=[Yc,Y,.no,.no,Y,Y,Y,Yc,Y,Y,Y,Y,Yc,Y,Yc,Y,Y,Y,Y,Y,Y,Y],T:=[(3,ty3),(9,ty9),(61,jr)],S:=[(49,cX)],H:=[(0,([0,1,5],[1]))],res:=[.tmp 4],ios:=[],G:=gl0}
def dT:List D→Option Out:=bJ jb Try.f66
@[reducible] def iX:FS:={pm:=[Yc,Y],rm:=[Y],f:=dT}
theorem oC:aF gl0 Try.prog 66 iX:=aJ (c:=jb) (ao dU aB) Try.func66 rfl rfl (by kernel_rfl)
@[reducible] def lK:Cx:={K:=[Yc,Y,.no,.no,Y,Y,Y,Yc,Y,Y,Y,Y,Yc,Y,Yc,Yc,Y,Y,Y,Y,Y,Y,Yc,Y,Yc,Yc,Y,Y,Y,Y,Y,Yc,Y,Yc,Yc,Y,Y,Y,Y,Y,Yc,Y,Yc,Yc,Y,Y,Y,Y,Y,Y],T:=[(3,ty3),(9,ty9),(30,jU),(85,jV)],S:=[(49,cX)],H:=[(0,([0,1,5],[1]))],res:=[.tmp 4],ios:=[],G:=gl0}
def fE:List D→Option Out:=bJ lK Try.f43
@[reducible] def lG:FS:={pm:=[Yc,Y],rm:=[Y],f:=fE}
theorem sO:aF gl0 Try.prog 43 lG:=aJ (c:=lK) (ao dU aB) Try.func43 rfl rfl (by kernel_rfl)
@[reducible] def sc:Cx:={K:=[Y,Y,Y,.no,.no,.no,Y,Y,Y,Y,Y,Y,Y,Y,Y],T:=[(3,ty3)],S:=[],H:=[],res:=[.tmp 6],ios:=[],G:=gl0}
def bV:List D→Option Out:=bJ sc Try.f54
@[reducible] def eG:FS:={pm:=[Y,Y,Y],rm:=[Y],f:=bV}
theorem fP:aF gl0 Try.prog 54 eG:=aJ (c:=sc) aB Try.func54 rfl rfl (by kernel_rfl)
@[reducible] def oa:Cx:={K:=[Yc,Y,.no,.no,Y,Y,.box 4 0 false,Yc,Y,Y,Y,Y,Yc,Y,Yr 6,Y,Y,Y,Y,Y],T:=[(3,ty3),(9,ty9),(30,jU),(85,jV)],S:=[],H:=[(0,([1,7,8,9],[]))],res:=[.tmp 4],ios:=[],G:=gl0}
def fr:List D→Option Out:=bJ oa Try.f64
@[reducible] def kf:FS:={pm:=[Yc,Y],rm:=[Y],f:=fr}
theorem nY:aF gl0 Try.prog 64 kf:=aJ (c:=oa) aB Try.func64 rfl rfl (by kernel_rfl)
@[reducible] def mb:Cx:={K:=[Yc,Yc,.no,.box 4 2 false,Y,.no,Y,Yr 3,Y,Y,Y,Y,Yr 3,Yc,Y,Y,Y,Y,Yr 3,Y,Y,Y,Y,Y,Yr 3,Y,Y,Yr 3,Yc,Y,Y,Y,Y,Yr 3,Yc,Y,Y,Y,Yc,Y,Yc,Y,Y,Y,Y],T:=[(3,ty3),(4,ty4),(9,ty9),(61,jr),(63,uN)],S:=[(54,eG),(64,kf)],H:=[(0,([0,34,35,36],[]))],res:=[.tmp 4],ios:=[],G:=gl0}
def fU:List D→Option Out:=bJ mb Try.f52
@[reducible] def mz:FS:={pm:=[Yc,Yc],rm:=[Y],f:=fU}
theorem uf:aF gl0 Try.prog 52 mz:=aJ (c:=mb) (ao fP (ao nY aB)) Try.func52 rfl rfl (by kernel_rfl)
@[reducible] def kt:Cx:={K:=[Y,Y,.no,.no,Y,Y,Y,Y,Y,Y,Y,Y,Y,Y,Y,Y,Y,Y,Y,Y,Y,Y,Y,Y,Y,Y],T:=[(3,ty3),(5,ty5),(9,ty9)],S:=[(54,eG)],H:=[(0,([0,1,5],[0,1]))],res:=[.tmp 4],ios:=[],G:=gl0}
def dH:List D→Option Out:=bJ kt Try.f88
@[reducible] def gQ:FS:={pm:=[Y,Y],rm:=[Y],f:=dH}
theorem kD:aF gl0 Try.prog 88 gQ:=aJ (c:=kt) (ao fP aB) Try.func88 rfl rfl (by kernel_rfl)
@[reducible] def pN:Cx:={K:=[Y,.box 4 0 false,Y,Yr 1,Y,Y,Y,Yr 1,Y,Y,Y,Y,Yr 1,Y,Y,Y,Y,Yr 1,Y,Y,Y],T:=[(3,ty3),(9,ty9),(85,jV)],S:=[(54,eG),(88,gQ)],H:=[],res:=[.tmp 2],ios:=[],G:=gl0}
def iS:List D→Option Out:=bJ pN Try.f75
@[reducible] def qH:FS:={pm:=[Y],rm:=[Y],f:=iS}
theorem zg:aF gl0 Try.prog 75 qH:=aJ (c:=pN) (ao fP (ao kD aB)) Try.func75 rfl rfl (by kernel_rfl)
@[reducible] def nH:Cx:={K:=[Yc,.no,Y,Y,.box 4 0 false,.no,.box 4 0 false,Yc,Y,Y,Y,Y,Yc,Y,Y,Y,Y,Y,Y,Y,Y,Yc,Y,Y,Yc,Yc,Y,Yr 4,Y,Y,Y,Y,Yc,Y,Yc,Y,Y,Y,Yc,Y,Yr 6,Y,Yr 4,Y,Y,Y,Yr 6,Y,Yr 4,Y,Y,Y,Y,Y,Yc,Y,Y],T:=[(3,ty3),(9,ty9),(30,jU),(85,jV)],S:=[(54,eG),(75,qH)],H:=[(0,([0,7,8,9],[0])),(2,([0,4,7,8,9,34,35,36],[0,7,8,9]))],res:=[.tmp 2],ios:=[],G:=gl0}
def fu:List D→Option Out:=bJ nH Try.f53
@[reducible] def kg:FS:={pm:=[Yc],rm:=[Y],f:=fu}
theorem nT:aF gl0 Try.prog 53 kg:=aJ (c:=nH) (ao fP (ao zg aB)) Try.func53 rfl rfl (by kernel_rfl)
@[reducible] def nQ:Cx:={K:=[Yc,.box 4 2 false,Y,Y,Y,.box 4 2 false,Yr 1,Yc,Y,Y,Y,Y,Yc,Yc,Yr 1,Yc,Yc,Y,Y,Y,Y,Y,Y,Yr 1,Yc,Y,Y,Yc,Yc,Y,Yr 5,Y,Y,Y,Y,Y,Yr 5,Y,Y,Y,Yr 1,Yc,Y,Y,Yr 1,Yc,Y,Y,Y,Y,Yr 1,Y,Y,Y,Y,Yr 1,Y,Y,Y,Y],T:=[(3,ty3),(4,ty4),(30,jU),(31,zD),(33,DO),(61,jr),(63,uN),(85,jV)],S:=[(52,mz),(53,kg),(54,eG)],H:=[(0,([1,3,7,8,9],[1,3]))],res:=[.tmp 2],ios:=[],G:=gl0}
def kb:List D→Option Out:=bJ nQ Try.f31
@[reducible] def wE:FS:={pm:=[Yc],rm:=[Y],f:=kb}
theorem vV:aF gl0 Try.prog 31 wE:=aJ (c:=nQ) (ao uf (ao nT (ao fP aB))) Try.func31 rfl rfl (by kernel_rfl)
@[reducible] def nB:Cx:={K:=[Y,Y,Y,.no,.no,.no,Y,Y,Y,Y,Y,Y,Y,Y,Y],T:=[(3,ty3)],S:=[],H:=[],res:=[.tmp 6],ios:=[],G:=gl0}
def bP:List D→Option Out:=bJ nB Try.f59
@[reducible] def cv:FS:={pm:=[Y,Y,Y],rm:=[Y],f:=bP}
theorem cK:aF gl0 Try.prog 59 cv:=aJ (c:=nB) aB Try.func59 rfl rfl (by kernel_rfl)
@[reducible] def kl:Cx:={K:=[Y,.no,Y,Y,Y],T:=[],S:=[(59,cv)],H:=[],res:=[.tmp 2],ios:=[],G:=gl0}
def dG:List D→Option Out:=bJ kl Try.f69
@[reducible] def gM:FS:={pm:=[Y],rm:=[Y],f:=dG}
theorem kn:aF gl0 Try.prog 69 gM:=aJ (c:=kl) (ao cK aB) Try.func69 rfl rfl (by kernel_rfl)
@[reducible] def pG:Cx:={K:=[Yc,Y,.no,.no,Y,Y,.box 4 0 false,Yc,Y,Y,Y,Y,Yc,Y,Yr 6,Y,Y,Y,Y,Y],T:=[(3,ty3),(9,ty9),(30,jU),(85,jV)],S:=[],H:=[(0,([1,7,8,9],[]))],res:=[.tmp 4],ios:=[],G:=gl0}
def fX:List D→Option Out:=bJ pG Try.f81
@[reducible] def lb:FS:={pm:=[Yc,Y],rm:=[Y],f:=fX}
theorem ql:aF gl0 Try.prog 81 lb:=aJ (c:=pG) aB Try.func81 rfl rfl (by kernel_rfl)
@[reducible] def jL:Cx:={K:=[Y,Y,Y,.no,.no,.no,Y,Y,Y,Y,Y,Y,Y,Y,Y,Y,Y,Y,Y,Y,Y,Y,Y,Y,Y,Y,Y,Y,Y],T:=[(3,ty3),(5,ty5),(9,ty9)],S:=[(59,cv)],H:=[(0,([0,1,2,7],[0,1,2]))],res:=[.tmp 6],ios:=[],G:=gl0}
def dc:List D→Option Out:=bJ jL Try.f85
@[reducible] def fZ:FS:={pm:=[Y,Y,Y],rm:=[Y],f:=dc}
theorem jx:aF gl0 Try.prog 85 fZ:=aJ (c:=jL) (ao cK aB) Try.func85 rfl rfl (by kernel_rfl)
@[reducible] def oz:Cx:={K:=[Y,.no,Y,Y,Y],T:=[],S:=[(85,fZ)],H:=[],res:=[.tmp 2],ios:=[],G:=gl0}
def hJ:List D→Option Out:=bJ oz Try.f89
@[reducible] def nW:FS:={pm:=[Y],rm:=[Y],f:=hJ}
theorem wb:aF gl0 Try.prog 89 nW:=aJ (c:=oz) (ao jx aB) Try.func89 rfl rfl (by kernel_rfl)
@[reducible] def mT:Cx:={K:=[Y,.no,Y,Y,Y],T:=[],S:=[(59,cv)],H:=[],res:=[.tmp 2],ios:=[],G:=gl0}
def eD:List D→Option Out:=bJ mT Try.f90
@[reducible] def mB:FS:={pm:=[Y],rm:=[Y],f:=eD}
theorem ud:aF gl0 Try.prog 90 mB:=aJ (c:=mT) (ao cK aB) Try.func90 rfl rfl (by kernel_rfl)
@[reducible] def pV:Cx:={K:=[Y,.box 4 0 false,Y,Yr 1,Y,Y,Y,Yr 1,Y,Y,Y,Y,Yr 1,Y,Y,Y,Y,Yr 1,Y,Y,Y],T:=[(3,ty3),(9,ty9),(85,jV)],S:=[(59,cv),(89,nW),(90,mB)],H:=[],res:=[.tmp 2],ios:=[],G:=gl0}
def iO:List D→Option Out:=bJ pV Try.f78
@[reducible] def pE:FS:={pm:=[Y],rm:=[Y],f:=iO}
theorem zk:aF gl0 Try.prog 78 pE:=aJ (c:=pV) (ao cK (ao wb (ao ud aB))) Try.func78 rfl rfl (by kernel_rfl)
@[reducible] def mC:Cx:={K:=[Yc,Y,Y,.no,.no,.no,Y,.no,.box 4 0 false,Yc,Y,Y,Y,Yc,Y,Yr 8,Y,Y,Y,Y,Yr 8,Y,Y,Y,Y,Y],T:=[(3,ty3),(9,ty9),(30,jU),(85,jV)],S:=[],H:=[(0,([1,2,9,10,11],[]))],res:=[.tmp 6],ios:=[],G:=gl0}
def fV:List D→Option Out:=bJ mC Try.f79
@[reducible] def mR:FS:={pm:=[Yc,Y,Y],rm:=[Y],f:=fV}
theorem vE:aF gl0 Try.prog 79 mR:=aJ (c:=mC) aB Try.func79 rfl rfl (by kernel_rfl)
@[reducible] def nZ:Cx:={K:=[Yc,.no,Y,Y,.box 4 0 false,Yc,Y,Y,Y,Y,Yc,Y,Y,Y,Y,Y,Y,Y,Y,Yc,Y,Y,Yc,Yc,Y,Yr 4,Y,Y,Y,Y,Y,Yc,Y,Yc,Yr 4,Y,Yr 4,Y,Y,Y,Y,Yc,Y,Y],T:=[(3,ty3),(9,ty9),(30,jU),(85,jV)],S:=[(59,cv),(78,pE),(79,mR)],H:=[(0,([0,5,6,7],[0]))],res:=[.tmp 2],ios:=[],G:=gl0}
def dZ:List D→Option Out:=bJ nZ Try.f58
@[reducible] def hD:FS:={pm:=[Yc],rm:=[Y],f:=dZ}
theorem jZ:aF gl0 Try.prog 58 hD:=aJ (c:=nZ) (ao cK (ao zk (ao vE aB))) Try.func58 rfl rfl (by kernel_rfl)
@[reducible] def lC:Cx:={K:=[Yc,Yc,.no,.no,Y,.no,Y,Yc,Y,Y,Y,Yc,Y,Yc,Y,Y,Y,Y,Yc,Y,Y,Yc,Y,Y,Y],T:=[(3,ty3),(9,ty9),(61,jr)],S:=[(58,hD),(81,lb)],H:=[(0,([0,1,7,8,9],[0,1]))],res:=[.tmp 4],ios:=[],G:=gl0}
def dX:List D→Option Out:=bJ lC Try.f77
@[reducible] def iA:FS:={pm:=[Yc,Yc],rm:=[Y],f:=dX}
theorem lJ:aF gl0 Try.prog 77 iA:=aJ (c:=lC) (ao jZ (ao ql aB)) Try.func77 rfl rfl (by kernel_rfl)
@[reducible] def me:Cx:={K:=[Yc,Yc,.no,.box 4 2 false,Y,Yr 3,Y,Y,Y,Yc,Yr 3,Yc,Y,Y,Y,Yr 3,Yc,Y,Y,Y,Y,Yr 3,Y,Y,Y,Y,Yr 3,Y,Y,Y,Yr 3,Yc,Y,Y,Y,Y],T:=[(3,ty3),(4,ty4),(9,ty9),(61,jr),(63,uN)],S:=[(59,cv),(69,gM),(77,iA)],H:=[],res:=[.tmp 4],ios:=[],G:=gl0}
def gj:List D→Option Out:=bJ me Try.f57
@[reducible] def mw:FS:={pm:=[Yc,Yc],rm:=[Y],f:=gj}
theorem um:aF gl0 Try.prog 57 mw:=aJ (c:=me) (ao cK (ao kn (ao lJ aB))) Try.func57 rfl rfl (by kernel_rfl)
@[reducible] def od:Cx:={K:=[Yc,.box 4 2 false,Y,Y,Y,.box 4 2 false,Yr 1,Yc,Y,Y,Y,Y,Yc,Yc,Yr 1,Yc,Yc,Y,Y,Y,Y,Y,Y,Yr 1,Yc,Y,Y,Yc,Yc,Y,Yr 5,Y,Y,Y,Y,Y,Yr 5,Y,Y,Y,Yr 1,Yc,Y,Y,Yr 1,Yc,Y,Y,Y,Y,Yr 1,Y,Y,Y,Y,Yr 1,Y,Y,Y,Y,Yr 1,Y,Y,Y,Y],T:=[(3,ty3),(4,ty4),(30,jU),(31,zD),(33,DO),(61,jr),(63,uN),(85,jV)],S:=[(57,mw),(58,hD),(59,cv)],H:=[(0,([1,3,7,8,9],[1,3]))],res:=[.tmp 2],ios:=[],G:=gl0}
def jW:List D→Option Out:=bJ od Try.f34
@[reducible] def we:FS:={pm:=[Yc],rm:=[Y],f:=jW}
theorem wT:aF gl0 Try.prog 34 we:=aJ (c:=od) (ao um (ao jZ (ao cK aB))) Try.func34 rfl rfl (by kernel_rfl)
@[reducible] def nM:Cx:={K:=[Yc,.no,Yo 1 0,Yo 1 0,Yc,Yo 1 0],T:=[(9,ty9),(61,jr)],S:=[],H:=[],res:=[.tmp 2],ios:=[],G:=gl0}
def ki:List D→Option Out:=bJ nM Try.f63
@[reducible] def wS:FS:={pm:=[Yc],rm:=[Yo 1 0],f:=ki}
theorem vY:aF gl0 Try.prog 63 wS:=aJ (c:=nM) aB Try.func63 rfl rfl (by kernel_rfl)
@[reducible] def oe:Cx:={K:=[Yc,Yc,Y,.no,.no,.no,Yo 4 0,Y,Yo 4 0,.no,Y,Yo 4 0,Yc,Yo 4 0,Yc,Y,Y,Y,Yc,Y,.via 8,.via 8,Y,Y,Yr 8,Yr 8,Y,Y,Y,Yr 8,Yr 8,Y,.via 8,Y,Y,Yo 4 0],T:=[(3,ty3),(9,ty9),(30,jU),(61,jr),(85,jV)],S:=[(53,kg),(64,kf)],H:=[(0,([2,8,14,15,16],[8]))],res:=[.tmp 6,.tmp 7],ios:=[],G:=gl0}
def jX:List D→Option Out:=bJ oe Try.f40
@[reducible] def wq:FS:={pm:=[Yc,Yc,Y],rm:=[Yo 4 0,Y],f:=jX}
theorem wG:aF gl0 Try.prog 40 wq:=aJ (c:=oe) (ao nT (ao nY aB)) Try.func40 rfl rfl (by kernel_rfl)
open Go Go.V
theorem yi (x0 x1:D):iP [x0,x1]=((fg 4 x0).bind fun y=>(ac y (.ref 0 0)).bind fun z=>((atD y z).bind (an false 1)).bind fun z=>(lenD true z).bind fun z=>(bin .sub false [] x1 z).bind fun z=>(bin .lss false [] z (I 0)).bind fun c=>ifD c (some (.ret [I (-1)] [])) (some (.ret [z] []))):=by kernel_rfl
theorem xj (x0 x1:D):gS [x0,x1]=((lenD false x0).bind fun z=>(bin .sub false [] x1 z).bind fun z=>(bin .lss false [] z (I 0)).bind fun d=>ifD d (some (.ret [I (-1)] [])) ((bf (fun s=>(lenD false (sl s 0)).bind fun z=>(bin .lss false [] (sl s 2) z).bind fun z=>ifD z ((IP D.ptr (bg 4 (sl s 0) (sl s 2))).bind fun z=>((ldD true 4 z).bind bq).bind fun z=>aL (iP [z,sl s 1]) fun c _=>(bin .lss false [] (sl c 0) (I 0)).bind fun z=>ifD z (some (.ret [I (-1)] [])) ((bin .add false [] (sl s 2) (I 1)).bind fun z=>some (.nrm [sl s 0,sl c 0,z]))) (some (.ext 0 [sl s 1]))) [x0,z,I 0]).bind fun o=>cO o (fun i s=>ifN (i.beq 0) (some (.ret [sl s 0] [])) none) fun a b=>some (.ret a b))):=by kernel_rfl
theorem kx (x0 x1:D):dA [x0,x1]=((lenD false x0).bind fun z=>(bin .sub false [] x1 z).bind fun z=>(bin .lss false [] z (I 0)).bind fun c=>ifD c (some (.ret [I (-1)] [])) ((bf (fun s=>(lenD false (sl s 0)).bind fun z=>(bin .lss false [] (sl s 2) z).bind fun z=>ifD z ((IP D.ptr (bg 1 (sl s 0) (sl s 2))).bind fun z=>((ldD false 1 z).bind bq).bind fun z=>(lenD true z).bind fun z=>(bin .sub false [] (sl s 1) z).bind fun z=>(bin .lss false [] z (I 0)).bind fun d=>ifD d (some (.ret [I (-1)] [])) ((bin .add false [] (sl s 2) (I 1)).bind fun e=>some (.nrm [sl s 0,z,e]))) (some (.ext 0 [sl s 1]))) [x0,z,I 0]).bind fun o=>cO o (fun i s=>ifN (i.beq 0) (some (.ret [sl s 0] [])) none) fun a b=>some (.ret a b))):=by kernel_rfl
theorem mr (x0 x1:D):eR [x0,x1]=((fg 4 x0).bind fun y=>(ac y (.ref 0 1)).bind fun z=>((atD y z).bind (an false 1)).bind fun z=>aL (dA [z,x1]) fun c _=>(bin .lss false [] (sl c 0) (I 0)).bind fun z=>ifD z (some (.ret [I (-1)] [])) (some (.ret [sl c 0] []))):=by kernel_rfl
theorem lH (x0 x1:D):dY [x0,x1]=((lenD false x0).bind fun z=>(bin .sub false [] x1 z).bind fun z=>(bin .lss false [] z (I 0)).bind fun d=>ifD d (some (.ret [I (-1)] [])) ((bf (fun s=>(lenD false (sl s 0)).bind fun z=>(bin .lss false [] (sl s 2) z).bind fun z=>ifD z ((IP D.ptr (bg 4 (sl s 0) (sl s 2))).bind fun z=>(ldD true 4 z).bind fun z=>aL (eR [z,sl s 1]) fun c _=>(bin .lss false [] (sl c 0) (I 0)).bind fun z=>ifD z (some (.ret [I (-1)] [])) ((bin .add false [] (sl s 2) (I 1)).bind fun z=>some (.nrm [sl s 0,sl c 0,z]))) (some (.ext 0 [sl s 1]))) [x0,z,I 0]).bind fun o=>cO o (fun i s=>ifN (i.beq 0) (some (.ret [sl s 0] [])) none) fun a b=>some (.ret a b))):=by kernel_rfl
theorem nC (x0 x1:D):fj [x0,x1]=((fg 4 x0).bind fun y=>(ac y (.ref 0 0)).bind fun z=>((atD y z).bind (an false 1)).bind fun z=>aL (gS [z,x1]) fun c _=>(bin .lss false [] (sl c 0) (I 0)).bind fun z=>ifD z (some (.ret [I (-1)] [])) ((ac y (.ref 0 1)).bind fun z=>((atD y z).bind (an false 1)).bind fun z=>aL (dY [z,sl c 0]) fun c _=>(bin .lss false [] (sl c 0) (I 0)).bind fun z=>ifD z (some (.ret [I (-1)] [])) (some (.ret [sl c 0] [])))):=by kernel_rfl
theorem ym (x0:D):iJ [x0]=((fg 4 x0).bind fun y=>(ac y (.ref 0 0)).bind fun z=>((atD y z).bind (an false 1)).bind fun z=>(ac (.agg [.v (.string ⟨⟨[]⟩⟩),I 0,I 0,I 0]) (.ref 0 0)).bind fun c=>(stD 1 (.agg [.v (.string ⟨⟨[]⟩⟩),I 0,I 0,I 0]) c z).bind fun b=>(ac y (.ref 0 1)).bind fun z=>((atD y z).bind (an false 1)).bind fun z=>(ac b (.ref 0 1)).bind fun d=>(stD 1 b d z).bind fun b=>(ac y (.ref 0 2)).bind fun z=>((atD y z).bind (an false 1)).bind fun z=>(ac b (.ref 0 2)).bind fun e=>(stD 1 b e z).bind fun b=>(ac y (.ref 0 3)).bind fun z=>((atD y z).bind (an false 1)).bind fun z=>(ac b (.ref 0 3)).bind fun f=>(stD 1 b f z).bind fun b=>(lj true 4 0 b).bind fun z=>(stD 4 (.agg [.v (.string ⟨⟨[]⟩⟩),I 0,I 0,I 0]) (.ref 0 0) z).bind fun b=>(lj true 4 0 b).bind fun y=>some (.ret [y] [])):=by kernel_rfl
theorem xh (x0:D):kj [x0]=((lenD false x0).bind fun z=>(BI 4 40 (.agg [.v (.string ⟨⟨[]⟩⟩),I 0,I 0,I 0]) z z).bind fun y=>(bf (fun s=>(lenD false (sl s 0)).bind fun z=>(bin .lss false [] (sl s 2) z).bind fun z=>ifD z ((ac (sl s 1) (.ref 0 0)).bind fun z=>(IP D.ptr (bg 4 (sl s 0) (sl s 2))).bind fun c=>((ldD true 4 c).bind bq).bind fun d=>aL (iJ [d]) fun e _=>((ac z (sl s 1)).bind fun b=>iy 4 b (sl s 2)).bind fun z=>(stD 4 (sl s 1) z (sl e 0)).bind fun b=>(bin .add false [] (sl s 2) (I 1)).bind fun z=>some (.nrm [sl s 0,b,z])) (some (.ext 0 [sl s 1]))) [x0,y,I 0]).bind fun o=>cO o (fun i s=>ifN (i.beq 0) (some (.ret [sl s 0] [])) none) fun a b=>some (.ret a b)):=by kernel_rfl
theorem rD (x0:D):gN [x0]=((lenD false x0).bind fun z=>(BI 1 16 (.v (.string ⟨⟨[]⟩⟩)) z z).bind fun y=>(bf (fun s=>(lenD false (sl s 0)).bind fun z=>(bin .lss false [] (sl s 2) z).bind fun z=>ifD z ((ac (sl s 1) (.ref 0 0)).bind fun z=>(IP D.ptr (bg 1 (sl s 0) (sl s 2))).bind fun c=>((ldD false 1 c).bind bq).bind fun d=>((ac z (sl s 1)).bind fun b=>iy 1 b (sl s 2)).bind fun z=>(stD 1 (sl s 1) z d).bind fun b=>(bin .add false [] (sl s 2) (I 1)).bind fun z=>some (.nrm [sl s 0,b,z])) (some (.ext 0 [sl s 1]))) [x0,y,I 0]).bind fun o=>cO o (fun i s=>ifN (i.beq 0) (some (.ret [sl s 0] [])) none) fun a b=>some (.ret a b)):=by kernel_rfl
theorem yV (x0 x1:D):iL [x0,x1]=((fg 4 x0).bind fun y=>(fg 4 x1).bind fun c=>(ac y (.ref 0 0)).bind fun z=>((atD y z).bind (an false 1)).bind fun z=>(ac c (.ref 0 0)).bind fun d=>((atD c d).bind (an false 1)).bind fun e=>(bin .neq false [] z e).bind fun z=>ifD z (some (.ret [B false] [])) ((ac y (.ref 0 1)).bind fun z=>((atD y z).bind (an false 1)).bind fun z=>(ac c (.ref 0 1)).bind fun f=>((atD c f).bind (an false 1)).bind fun g=>(bin .neq false [] z g).bind fun z=>ifD z (some (.ret [B false] [])) ((ac y (.ref 0 2)).bind fun z=>((atD y z).bind (an false 1)).bind fun z=>(ac c (.ref 0 2)).bind fun h=>((atD c h).bind (an false 1)).bind fun j=>(bin .neq false [] z j).bind fun z=>ifD z (some (.ret [B false] [])) ((ac y (.ref 0 3)).bind fun z=>((atD y z).bind (an false 1)).bind fun z=>(ac c (.ref 0 3)).bind fun k=>((atD c k).bind (an false 1)).bind fun l=>(bin .neq false [] z l).bind fun z=>ifD z (some (.ret [B false] [])) (some (.ret [B true] [])))))):=by kernel_rfl
theorem wC (x0 x1:D):gX [x0,x1]=((lenD false x0).bind fun z=>(lenD false x1).bind fun c=>(bin .neq false [] z c).bind fun z=>ifD z (some (.ret [B false] [])) ((bf (fun s=>(lenD false (sl s 0)).bind fun z=>(bin .lss false [] (sl s 2) z).bind fun z=>ifD z ((IP D.ptr (bg 4 (sl s 0) (sl s 2))).bind fun z=>((ldD true 4 z).bind bq).bind fun z=>(IP D.ptr (bg 4 (sl s 1) (sl s 2))).bind fun d=>((ldD true 4 d).bind bq).bind fun e=>aL (iL [z,e]) fun f _=>(un .not (sl f 0)).bind fun z=>ifD z (some (.ret [B false] [])) ((bin .add false [] (sl s 2) (I 1)).bind fun z=>some (.nrm [sl s 0,sl s 1,z]))) (some (.ext 0 []))) [x0,x1,I 0]).bind fun o=>cO o (fun i _=>ifN (i.beq 0) (some (.ret [B true] [])) none) fun a b=>some (.ret a b))):=by kernel_rfl
theorem rO (x0 x1:D):eV [x0,x1]=((lenD false x0).bind fun z=>(lenD false x1).bind fun c=>(bin .neq false [] z c).bind fun z=>ifD z (some (.ret [B false] [])) ((bf (fun s=>(lenD false (sl s 0)).bind fun z=>(bin .lss false [] (sl s 2) z).bind fun z=>ifD z ((IP D.ptr (bg 1 (sl s 0) (sl s 2))).bind fun z=>((ldD false 1 z).bind bq).bind fun z=>(IP D.ptr (bg 1 (sl s 1) (sl s 2))).bind fun d=>((ldD false 1 d).bind bq).bind fun e=>(bin .neq false [] z e).bind fun z=>ifD z (some (.ret [B false] [])) ((bin .add false [] (sl s 2) (I 1)).bind fun z=>some (.nrm [sl s 0,sl s 1,z]))) (some (.ext 0 []))) [x0,x1,I 0]).bind fun o=>cO o (fun i _=>ifN (i.beq 0) (some (.ret [B true] [])) none) fun a b=>some (.ret a b))):=by kernel_rfl
theorem tX (x0 x1:D):gr [x0,x1]=((fg 4 x0).bind fun y=>(fg 4 x1).bind fun c=>(ac y (.ref 0 0)).bind fun z=>(((atD y z).bind (an false 1)).bind bq).bind fun z=>(ac c (.ref 0 0)).bind fun d=>(((atD c d).bind (an false 1)).bind bq).bind fun e=>(bin .neq false [] z e).bind fun z=>ifD z (some (.ret [B false] [])) ((ac y (.ref 0 1)).bind fun z=>((atD y z).bind (an false 1)).bind fun z=>(ac c (.ref 0 1)).bind fun f=>((atD c f).bind (an false 1)).bind fun g=>aL (eV [z,g]) fun h _=>(un .not (sl h 0)).bind fun z=>ifD z (some (.ret [B false] [])) ((ac y (.ref 0 2)).bind fun z=>(((atD y z).bind (an false 1)).bind bq).bind fun z=>(ac c (.ref 0 2)).bind fun j=>(((atD c j).bind (an false 1)).bind bq).bind fun k=>(bin .neq true [] z k).bind fun z=>ifD z (some (.ret [B false] [])) ((ac y (.ref 0 3)).bind fun z=>(((atD y z).bind (an false 1)).bind bq).bind fun z=>(ac c (.ref 0 3)).bind fun l=>(((atD c l).bind (an false 1)).bind bq).bind fun m=>(bin .neq false [] z m).bind fun z=>ifD z (some (.ret [B false] [])) (some (.ret [B true] [])))))):=by kernel_rfl
theorem sM (x0 x1:D):fH [x0,x1]=((lenD false x0).bind fun z=>(lenD false x1).bind fun c=>(bin .neq false [] z c).bind fun z=>ifD z (some (.ret [B false] [])) ((bf (fun s=>(lenD false (sl s 0)).bind fun z=>(bin .lss false [] (sl s 2) z).bind fun z=>ifD z ((IP D.ptr (bg 4 (sl s 0) (sl s 2))).bind fun z=>(ldD true 4 z).bind fun z=>(IP D.ptr (bg 4 (sl s 1) (sl s 2))).bind fun d=>(ldD true 4 d).bind fun e=>aL (gr [z,e]) fun f _=>(un .not (sl f 0)).bind fun z=>ifD z (some (.ret [B false] [])) ((bin .add false [] (sl s 2) (I 1)).bind fun z=>some (.nrm [sl s 0,sl s 1,z]))) (some (.ext 0 []))) [x0,x1,I 0]).bind fun o=>cO o (fun i _=>ifN (i.beq 0) (some (.ret [B true] [])) none) fun a b=>some (.ret a b))):=by kernel_rfl
theorem vZ (x0 x1:D):kh [x0,x1]=((fg 4 x0).bind fun y=>(fg 4 x1).bind fun c=>(ac y (.ref 0 0)).bind fun z=>((atD y z).bind (an false 1)).bind fun z=>(ac c (.ref 0 0)).bind fun e=>((atD c e).bind (an false 1)).bind fun f=>aL (gX [z,f]) fun d _=>(un .not (sl d 0)).bind fun z=>ifD z (some (.ret [B false] [])) ((ac y (.ref 0 1)).bind fun z=>((atD y z).bind (an false 1)).bind fun z=>(ac c (.ref 0 1)).bind fun g=>((atD c g).bind (an false 1)).bind fun h=>aL (fH [z,h]) fun d _=>(un .not (sl d 0)).bind fun z=>ifD z (some (.ret [B false] [])) ((ac y (.ref 0 2)).bind fun z=>(((atD y z).bind (an false 1)).bind bq).bind fun z=>(ac c (.ref 0 2)).bind fun j=>(((atD c j).bind (an false 1)).bind bq).bind fun k=>(bin .neq false [] z k).bind fun z=>ifD z (some (.ret [B false] [])) ((ac y (.ref 0 3)).bind fun z=>(((atD y z).bind (an false 1)).bind bq).bind fun z=>(ac c (.ref 0 3)).bind fun l=>(((atD c l).bind (an false 1)).bind bq).bind fun m=>(bin .neq false [] z m).bind fun z=>ifD z (some (.ret [B false] [])) (some (.ret [B true] [])))))):=by kernel_rfl
theorem sY (x0:D):bY [x0]=((bin .leq false [] x0 (I 0)).bind fun z=>ifD z (some (.ret [.v (.string ⟨⟨[109,48]⟩⟩)] [])) ((bf (fun s=>(bin .gtr false [] (sl s 0) (I 0)).bind fun z=>ifD z ((bin .rem false [] (sl s 0) (I 10)).bind fun z=>(bin .add false [] (I 48) z).bind fun z=>(xA (some .u8) false z).bind fun z=>(dF 1 [z]).bind fun a=>(yA a).bind fun z=>(bin .add false [] z (sl s 1)).bind fun z=>(bin .quo false [] (sl s 0) (I 10)).bind fun c=>some (.nrm [c,z])) (some (.ext 0 [sl s 1]))) [x0,.v (.string ⟨⟨[]⟩⟩)]).bind fun o=>cO o (fun i s=>ifN (i.beq 0) ((bin .add false [] (.v (.string ⟨⟨[109]⟩⟩)) (sl s 0)).bind fun z=>some (.ret [z] [])) none) fun a b=>some (.ret a b))):=by kernel_rfl
theorem sS (x0 x1:D):iz [x0,x1]=((bf (fun s=>(ac (sl s 0) (.ref 0 0)).bind fun z=>((ac z (sl s 0)).bind (lenD false)).bind fun z=>(bin .lss false [] (sl s 2) z).bind fun z=>ifD z ((ac (sl s 0) (.ref 0 0)).bind fun z=>aL (bY [sl s 1]) fun c _=>((ac z (sl s 0)).bind fun b=>iy 4 b (sl s 2)).bind fun z=>(eP 0 z).bind fun z=>(stD 1 (sl s 0) z (sl c 0)).bind fun b=>(bin .add false [] (sl s 1) (I 1)).bind fun z=>(ac b (.ref 0 0)).bind fun d=>((ac d b).bind fun b=>iy 4 b (sl s 2)).bind fun e=>(eP 1 e).bind fun f=>(stD 1 b f z).bind fun b=>(bin .add false [] z (I 1)).bind fun z=>(ac b (.ref 0 0)).bind fun g=>((ac g b).bind fun b=>iy 4 b (sl s 2)).bind fun h=>(eP 2 h).bind fun j=>(stD 1 b j z).bind fun b=>(bin .add false [] z (I 1)).bind fun z=>(ac b (.ref 0 0)).bind fun k=>((ac k b).bind fun b=>iy 4 b (sl s 2)).bind fun l=>(eP 3 l).bind fun m=>(stD 1 b m z).bind fun b=>(bin .add false [] z (I 1)).bind fun z=>(bin .add false [] (sl s 2) (I 1)).bind fun n=>some (.nrm [b,z,n])) (some (.ext 0 [sl s 0,sl s 1]))) [x0,x1,I 0]).bind fun o=>cO o (fun i s=>ifN (i.beq 0) ((ac (sl s 0) (sl s 0)).bind fun _=>some (.ret [sl s 1] [sl s 0])) none) fun a b=>some (.ret a b)):=by kernel_rfl
theorem py (x0 x1:D):fL [x0,x1]=((bf (fun s=>(ac (sl s 0) (.ref 0 0)).bind fun z=>((ac z (sl s 0)).bind (lenD false)).bind fun z=>(bin .lss false [] (sl s 2) z).bind fun z=>ifD z ((ac (sl s 0) (.ref 0 0)).bind fun z=>aL (bY [sl s 1]) fun c _=>((ac z (sl s 0)).bind fun b=>iy 1 b (sl s 2)).bind fun z=>(stD 1 (sl s 0) z (sl c 0)).bind fun b=>(bin .add false [] (sl s 1) (I 1)).bind fun z=>(bin .add false [] (sl s 2) (I 1)).bind fun d=>some (.nrm [b,z,d])) (some (.ext 0 [sl s 0,sl s 1]))) [x0,x1,I 0]).bind fun o=>cO o (fun i s=>ifN (i.beq 0) ((ac (sl s 0) (sl s 0)).bind fun _=>some (.ret [sl s 1] [sl s 0])) none) fun a b=>some (.ret a b)):=by kernel_rfl
theorem pu (x0 x1:D):dT [x0,x1]=((bf (fun s=>(lenD false (sl s 0)).bind fun z=>(bin .lss false [] (sl s 2) z).bind fun z=>ifD z ((IP D.ptr (bg 1 (sl s 0) (sl s 2))).bind fun z=>((ldD false 1 z).bind bq).bind fun z=>aL (bY [sl s 1]) fun c _=>(bin .neq false [] z (sl c 0)).bind fun z=>ifD z (some (.ret [I (-1)] [])) ((bin .add false [] (sl s 1) (I 1)).bind fun z=>(bin .add false [] (sl s 2) (I 1)).bind fun d=>some (.nrm [sl s 0,z,d]))) (some (.ext 0 [sl s 1]))) [x0,x1,I 0]).bind fun o=>cO o (fun i s=>ifN (i.beq 0) (some (.ret [sl s 0] [])) none) fun a b=>some (.ret a b)):=by kernel_rfl
theorem sZ (x0 x1:D):fE [x0,x1]=((bf (fun s=>(lenD false (sl s 0)).bind fun z=>(bin .lss false [] (sl s 2) z).bind fun z=>ifD z ((IP D.ptr (bg 4 (sl s 0) (sl s 2))).bind fun z=>(jT 0 z).bind fun z=>((ldD false 1 z).bind bq).bind fun z=>aL (bY [sl s 1]) fun c _=>(bin .neq false [] z (sl c 0)).bind fun z=>ifD z (some (.ret [I (-1)] [])) ((bin .add false [] (sl s 1) (I 1)).bind fun z=>(IP D.ptr (bg 4 (sl s 0) (sl s 2))).bind fun d=>(jT 1 d).bind fun e=>((ldD false 1 e).bind bq).bind fun f=>(bin .neq false [] f z).bind fun g=>ifD g (some (.ret [I (-1)] [])) ((bin .add false [] z (I 1)).bind fun z=>(IP D.ptr (bg 4 (sl s 0) (sl s 2))).bind fun h=>(jT 2 h).bind fun j=>((ldD false 1 j).bind bq).bind fun k=>(bin .neq false [] k z).bind fun l=>ifD l (some (.ret [I (-1)] [])) ((bin .add false [] z (I 1)).bind fun z=>(IP D.ptr (bg 4 (sl s 0) (sl s 2))).bind fun m=>(jT 3 m).bind fun n=>((ldD false 1 n).bind bq).bind fun p=>(bin .neq false [] p z).bind fun q=>ifD q (some (.ret [I (-1)] [])) ((bin .add false [] z (I 1)).bind fun z=>(bin .add false [] (sl s 2) (I 1)).bind fun r=>some (.nrm [sl s 0,z,r])))))) (some (.ext 0 [sl s 1]))) [x0,x1,I 0]).bind fun o=>cO o (fun i s=>ifN (i.beq 0) (some (.ret [sl s 0] [])) none) fun a b=>some (.ret a b)):=by kernel_rfl
theorem Al (x0 x1 x2:D):bV [x0,x1,x2]=((bin .geq false [] x0 x1).bind fun z=>(am (.tup []) z true (some x0)).bind fun c=>(am (.tup []) z true (some x2)).bind fun d=>(am (.tup []) z true (bin .leq false [] c d)).bind fun e=>(bm z e (B false)).bind fun z=>some (.ret [z] [])):=by kernel_rfl
theorem wF (x0 x1:D):fr [x0,x1]=((lenD false x0).bind fun z=>(bf (fun s=>(bin .lss false [] (sl s 3) (sl s 2)).bind fun z=>ifD z ((IP D.ptr (bg 4 (sl s 1) (sl s 3))).bind fun z=>((ldD true 4 z).bind bq).bind fun z=>(stD 4 (.agg [.v (.string ⟨⟨[]⟩⟩),I 0,I 0,I 0]) (.ref 0 0) z).bind fun b=>(ac b (.ref 0 0)).bind fun z=>((atD b z).bind (an false 1)).bind fun z=>(bin .eql false [] z (sl s 0)).bind fun z=>ifD z (some (.ret [sl s 3] [])) ((bin .add false [] (sl s 3) (I 1)).bind fun z=>some (.nrm [sl s 0,sl s 1,sl s 2,z]))) (some (.ext 0 []))) [x1,x0,z,I 0]).bind fun o=>cO o (fun i _=>ifN (i.beq 0) (some (.ret [I (-1)] [])) none) fun a b=>some (.ret a b)):=by kernel_rfl
theorem tM (x0 x1:D):fU [x0,x1]=((fg 4 x1).bind fun y=>(ac y (.ref 0 0)).bind fun z=>(((atD y z).bind (an false 1)).bind bq).bind fun z=>aL (bV [z,I 1,I 99]) fun c _=>(un .not (sl c 0)).bind fun z=>(am D.bad z false (ac y (.ref 0 1))).bind fun e=>(am (.tup []) z false ((atD y e).bind (an false 1))).bind fun f=>(am (.tup []) z false (lenD false f)).bind fun g=>(am (.tup []) z false (bin .gtr false [] g (I 40))).bind fun h=>(bm z (B true) h).bind fun z=>(am D.bad z false (ac y (.ref 0 3))).bind fun j=>(am (.tup []) z false (((atD y j).bind (an false 1)).bind bq)).bind fun k=>fb z false (aL (bV [k,I 0,I 100000]) fun c _=>some (.nrm [sl c 0])) [.tup []] fun l=>(am (.tup []) z false (un .not (sl l 0))).bind fun m=>(bm z (B true) m).bind fun z=>(am D.bad z false (ac y (.ref 0 2))).bind fun n=>(am (.tup []) z false (((atD y n).bind (an false 1)).bind bq)).bind fun p=>(am (.tup []) z false (some p)).bind fun d=>(am D.bad d true (ac y (.ref 0 1))).bind fun q=>(am (.tup []) d true ((atD y q).bind (an false 1))).bind fun r=>(am (.tup []) d true (lenD false r)).bind fun t=>(am (.tup []) d true (bin .eql false [] t (I 0))).bind fun u=>(am (.tup []) z false (bm d u (B false))).bind fun v=>(bm z (B true) v).bind fun z=>ifD z (some (.ret [B false] [])) ((ac y (.ref 0 1)).bind fun z=>((atD y z).bind (an false 1)).bind fun z=>(lenD false z).bind fun w=>(bf (fun s=>(bin .lss false [] (sl s 3) (sl s 2)).bind fun z=>ifD z ((IP D.ptr (bg 1 (sl s 1) (sl s 3))).bind fun z=>((ldD false 1 z).bind bq).bind fun z=>aL (fr [sl s 0,z]) fun c _=>(bin .lss false [] (sl c 0) (I 0)).bind fun z=>ifD z (some (.ret [B false] [])) ((bin .add false [] (sl s 3) (I 1)).bind fun z=>some (.nrm [sl s 0,sl s 1,sl s 2,z]))) (some (.ext 0 []))) [x0,z,w,I 0]).bind fun o=>cO o (fun i _=>ifN (i.beq 0) (some (.ret [B true] [])) none) fun a b=>some (.ret a b))):=by kernel_rfl
theorem ru (x0 x1:D):dH [x0,x1]=((bf (fun s=>(lenD true (sl s 0)).bind fun z=>(bin .lss false [] (sl s 2) z).bind fun z=>ifD z ((qM (sl s 0) (sl s 2)).bind fun z=>(bin .lss false [] z (.v (Jx Jk 97))).bind fun z=>(am (.tup []) z false (some (sl s 0))).bind fun c=>(am (.tup []) z false (some (sl s 2))).bind fun d=>(am (.tup []) z false (qM c d)).bind fun e=>(am (.tup []) z false (bin .gtr false [] e (.v (Jx Jk 122)))).bind fun f=>(bm z (B true) f).bind fun z=>ifD z (some (.ret [B false] [])) ((bin .add false [] (sl s 2) (I 1)).bind fun z=>some (.nrm [sl s 0,sl s 1,z]))) (some (.ext 0 [sl s 0,sl s 1]))) [x0,x1,I 0]).bind fun o=>cO o (fun i s=>ifN (i.beq 0) ((lenD true (sl s 0)).bind fun z=>aL (bV [z,I 1,sl s 1]) fun g _=>some (.ret [sl g 0] [])) none) fun a b=>some (.ret a b)):=by kernel_rfl
theorem yt (x0:D):iS [x0]=((fg 4 x0).bind fun y=>(ac y (.ref 0 0)).bind fun z=>((atD y z).bind (an false 1)).bind fun z=>aL (dH [z,I 3]) fun c _=>(am D.bad (sl c 0) true (ac y (.ref 0 1))).bind fun z=>(am (.tup []) (sl c 0) true ((atD y z).bind (an false 1))).bind fun z=>fb (sl c 0) true (aL (bV [z,I 0,I 9]) fun c _=>some (.nrm [sl c 0])) [.tup []] fun d=>(bm (sl c 0) (sl d 0) (B false)).bind fun z=>(am D.bad z true (ac y (.ref 0 2))).bind fun e=>(am (.tup []) z true ((atD y e).bind (an false 1))).bind fun f=>fb z true (aL (bV [f,I 0,I 9]) fun c _=>some (.nrm [sl c 0])) [.tup []] fun d=>(bm z (sl d 0) (B false)).bind fun z=>(am D.bad z true (ac y (.ref 0 3))).bind fun g=>(am (.tup []) z true ((atD y g).bind (an false 1))).bind fun h=>fb z true (aL (bV [h,I 0,I 9999]) fun c _=>some (.nrm [sl c 0])) [.tup []] fun d=>(bm z (sl d 0) (B false)).bind fun z=>some (.ret [z] [])):=by kernel_rfl
theorem wY (x0:D):fu [x0]=((lenD false x0).bind fun z=>(bf (fun s=>(bin .lss false [] (sl s 3) (sl s 2)).bind fun z=>ifD z ((IP D.ptr (bg 4 (sl s 1) (sl s 3))).bind fun z=>((ldD true 4 z).bind bq).bind fun z=>(stD 4 (.agg [.v (.string ⟨⟨[]⟩⟩),I 0,I 0,I 0]) (.ref 0 0) z).bind fun b=>(lj true 4 0 b).bind fun z=>aL (iS [z]) fun d _=>(un .not (sl d 0)).bind fun z=>(am (.tup []) z false (some (sl s 3))).bind fun e=>(am (.tup []) z false (bin .gtr false [] e (I 0))).bind fun f=>(am (.tup []) z false (some f)).bind fun c=>(am (.tup []) c true (some (sl s 0))).bind fun g=>(am (.tup []) c true (some (sl s 3))).bind fun h=>(am (.tup []) c true (bin .sub false [] h (I 1))).bind fun j=>(am (.tup []) c true (IP D.ptr (bg 4 g j))).bind fun k=>(am (.tup []) c true (jT 0 k)).bind fun l=>(am (.tup []) c true ((ldD false 1 l).bind bq)).bind fun m=>(am D.bad c true (ac b (.ref 0 0))).bind fun n=>(am (.tup []) c true ((atD b n).bind (an false 1))).bind fun p=>(am (.tup []) c true (bin .geq false [] m p)).bind fun q=>(am (.tup []) z false (bm c q (B false))).bind fun r=>(bm z (B true) r).bind fun z=>ifD z (some (.ret [B false] [])) ((fe false 4 (sl s 0) (I 0) (sl s 3)).bind fun z=>(lenD false z).bind fun t=>(bf (fun s=>(bin .lss false [] (sl s 7) (sl s 6)).bind fun z=>ifD z ((IP D.ptr (bg 4 (sl s 5) (sl s 7))).bind fun z=>((ldD true 4 z).bind bq).bind fun z=>(stD 4 (.agg [.v (.string ⟨⟨[]⟩⟩),I 0,I 0,I 0]) (.ref 0 0) z).bind fun b=>(ac b (.ref 0 1)).bind fun z=>((atD b z).bind (an false 1)).bind fun z=>(ac (sl s 1) (.ref 0 1)).bind fun u=>((atD (sl s 1) u).bind (an false 1)).bind fun v=>(bin .eql false [] z v).bind fun z=>(am D.bad z true (ac b (.ref 0 2))).bind fun w=>(am (.tup []) z true ((atD b w).bind (an false 1))).bind fun za=>(am D.bad z true (ac (sl s 1) (.ref 0 2))).bind fun zb=>(am (.tup []) z true ((atD (sl s 1) zb).bind (an false 1))).bind fun zc=>(am (.tup []) z true (bin .eql false [] za zc)).bind fun zd=>(bm z zd (B false)).bind fun z=>ifD z (some (.ret [B false] [])) ((bin .add false [] (sl s 7) (I 1)).bind fun z=>some (.nrm [sl s 0,sl s 1,sl s 2,sl s 3,sl s 4,sl s 5,sl s 6,z]))) (some (.ext 2 [sl s 0,sl s 2,sl s 3,sl s 4]))) [sl s 0,b,sl s 1,sl s 2,sl s 3,z,t,I 0]).bind fun o=>cO o (fun i s=>ifN (i.beq 2) ((bin .add false [] (sl s 3) (I 1)).bind fun z=>some (.nrm [sl s 0,sl s 1,sl s 2,z])) (ifN (i.beq 1) ((bin .add false [] (sl s 3) (I 1)).bind fun z=>some (.nrm [sl s 0,sl s 1,sl s 2,z])) (some (.ext i [sl s 0])))) fun a b=>some (.ret a b))) (some (.ext 0 [sl s 0]))) [x0,x0,z,I 0]).bind fun o=>cO o (fun i s=>ifN (i.beq 0) ((lenD false (sl s 0)).bind fun z=>aL (bV [z,I 1,I 32]) fun d _=>some (.ret [sl d 0] [])) none) fun a b=>some (.ret a b)):=by kernel_rfl
theorem vQ (x0:D):kb [x0]=((fg 4 x0).bind fun y=>(ac y (.ref 0 1)).bind fun z=>((atD y z).bind (an false 1)).bind fun z=>(lenD false z).bind fun k=>(bf (fun s=>(bin .lss false [] (sl s 4) (sl s 3)).bind fun z=>ifD z ((IP D.ptr (bg 4 (sl s 2) (sl s 4))).bind fun z=>(ldD true 4 z).bind fun z=>(stD 4 (.agg [I 0,.arr 1 [],B false,I 0]) (.ref 0 0) z).bind fun b=>(ac (sl s 0) (.ref 0 0)).bind fun z=>((atD (sl s 0) z).bind (an false 1)).bind fun z=>(lj true 4 0 b).bind fun e=>aL (fU [z,e]) fun d _=>(un .not (sl d 0)).bind fun z=>(am (.tup []) z false (some (sl s 4))).bind fun f=>(am (.tup []) z false (bin .gtr false [] f (I 0))).bind fun g=>(am (.tup []) z false (some g)).bind fun c=>(am D.bad c true (ac (sl s 0) (.ref 0 1))).bind fun h=>(am (.tup []) c true ((atD (sl s 0) h).bind (an false 1))).bind fun l=>(am (.tup []) c true (some (sl s 4))).bind fun m=>(am (.tup []) c true (bin .sub false [] m (I 1))).bind fun n=>(am (.tup []) c true (IP D.ptr (bg 4 l n))).bind fun p=>(am (.tup []) c true (jT 0 p)).bind fun q=>(am (.tup []) c true ((ldD false 1 q).bind bq)).bind fun r=>(am D.bad c true (ac b (.ref 0 0))).bind fun t=>(am (.tup []) c true (((atD b t).bind (an false 1)).bind bq)).bind fun u=>(am (.tup []) c true (bin .geq false [] r u)).bind fun v=>(am (.tup []) z false (bm c v (B false))).bind fun w=>(bm z (B true) w).bind fun z=>ifD z (some (.ret [B false] [])) ((ac b (.ref 0 3)).bind fun z=>(((atD b z).bind (an false 1)).bind bq).bind fun z=>(bin .add false [] (sl s 1) z).bind fun z=>(bin .add false [] (sl s 4) (I 1)).bind fun za=>some (.nrm [sl s 0,z,sl s 2,sl s 3,za]))) (some (.ext 0 [sl s 0,sl s 1]))) [y,I 0,z,k,I 0]).bind fun o=>cO o (fun i s=>ifN (i.beq 0) ((ac (sl s 0) (.ref 0 0)).bind fun z=>((atD (sl s 0) z).bind (an false 1)).bind fun z=>aL (fu [z]) fun d _=>(am D.bad (sl d 0) true (ac (sl s 0) (.ref 0 1))).bind fun z=>(am (.tup []) (sl d 0) true ((atD (sl s 0) z).bind (an false 1))).bind fun z=>(am (.tup []) (sl d 0) true (lenD false z)).bind fun z=>(am (.tup []) (sl d 0) true (bin .leq false [] z (I 5))).bind fun z=>(bm (sl d 0) z (B false)).bind fun z=>(am D.bad z true (ac (sl s 0) (.ref 0 2))).bind fun e=>(am (.tup []) z true (((atD (sl s 0) e).bind (an false 1)).bind bq)).bind fun f=>fb z true (aL (bV [f,I 0,I 9999]) fun d _=>some (.nrm [sl d 0])) [.tup []] fun j=>(bm z (sl j 0) (B false)).bind fun z=>(am D.bad z true (ac (sl s 0) (.ref 0 3))).bind fun g=>(am (.tup []) z true (((atD (sl s 0) g).bind (an false 1)).bind bq)).bind fun c=>(am (.tup []) z true (some (sl s 1))).bind fun h=>fb z true (aL (bV [c,h,I 1000000]) fun d _=>some (.nrm [sl d 0])) [.tup []] fun j=>(bm z (sl j 0) (B false)).bind fun z=>some (.ret [z] [])) none) fun a b=>some (.ret a b)):=by kernel_rfl
theorem vX (x0 x1 x2:D):bP [x0,x1,x2]=((bin .geq false [] x0 x1).bind fun z=>(am (.tup []) z true (some x0)).bind fun c=>(am (.tup []) z true (some x2)).bind fun d=>(am (.tup []) z true (bin .leq false [] c d)).bind fun e=>(bm z e (B false)).bind fun z=>some (.ret [z] [])):=by kernel_rfl
theorem rf (x0:D):dG [x0]=(aL (bP [x0,I 1,I 99]) fun c _=>some (.ret [sl c 0] [])):=by kernel_rfl
theorem yL (x0 x1:D):fX [x0,x1]=((lenD false x0).bind fun z=>(bf (fun s=>(bin .lss false [] (sl s 3) (sl s 2)).bind fun z=>ifD z ((IP D.ptr (bg 4 (sl s 1) (sl s 3))).bind fun z=>((ldD true 4 z).bind bq).bind fun z=>(stD 4 (.agg [.v (.string ⟨⟨[]⟩⟩),I 0,I 0,I 0]) (.ref 0 0) z).bind fun b=>(ac b (.ref 0 0)).bind fun z=>((atD b z).bind (an false 1)).bind fun z=>(bin .eql false [] z (sl s 0)).bind fun z=>ifD z (some (.ret [sl s 3] [])) ((bin .add false [] (sl s 3) (I 1)).bind fun z=>some (.nrm [sl s 0,sl s 1,sl s 2,z]))) (some (.ext 0 []))) [x1,x0,z,I 0]).bind fun o=>cO o (fun i _=>ifN (i.beq 0) (some (.ret [I (-1)] [])) none) fun a b=>some (.ret a b)):=by kernel_rfl
theorem pI (x0 x1 x2:D):dc [x0,x1,x2]=((bf (fun s=>(lenD true (sl s 0)).bind fun z=>(bin .lss false [] (sl s 3) z).bind fun z=>ifD z ((qM (sl s 0) (sl s 3)).bind fun z=>(bin .lss false [] z (.v (Jx Jk 97))).bind fun z=>(am (.tup []) z false (some (sl s 0))).bind fun c=>(am (.tup []) z false (some (sl s 3))).bind fun d=>(am (.tup []) z false (qM c d)).bind fun e=>(am (.tup []) z false (bin .gtr false [] e (.v (Jx Jk 122)))).bind fun f=>(bm z (B true) f).bind fun z=>ifD z (some (.ret [B false] [])) ((bin .add false [] (sl s 3) (I 1)).bind fun z=>some (.nrm [sl s 0,sl s 1,sl s 2,z]))) (some (.ext 0 [sl s 0,sl s 1,sl s 2]))) [x0,x1,x2,I 0]).bind fun o=>cO o (fun i s=>ifN (i.beq 0) ((lenD true (sl s 0)).bind fun z=>aL (bP [z,sl s 1,sl s 2]) fun g _=>some (.ret [sl g 0] [])) none) fun a b=>some (.ret a b)):=by kernel_rfl
theorem wM (x0:D):hJ [x0]=(aL (dc [x0,I 1,I 3]) fun c _=>some (.ret [sl c 0] [])):=by kernel_rfl
theorem vJ (x0:D):eD [x0]=(aL (bP [x0,I 0,I 9]) fun c _=>some (.ret [sl c 0] [])):=by kernel_rfl
theorem yN (x0:D):iO [x0]=((fg 4 x0).bind fun y=>(ac y (.ref 0 0)).bind fun z=>((atD y z).bind (an false 1)).bind fun z=>aL (hJ [z]) fun c _=>(am D.bad (sl c 0) true (ac y (.ref 0 1))).bind fun z=>(am (.tup []) (sl c 0) true ((atD y z).bind (an false 1))).bind fun z=>fb (sl c 0) true (aL (eD [z]) fun c _=>some (.nrm [sl c 0])) [.tup []] fun d=>(bm (sl c 0) (sl d 0) (B false)).bind fun z=>(am D.bad z true (ac y (.ref 0 2))).bind fun e=>(am (.tup []) z true ((atD y e).bind (an false 1))).bind fun f=>fb z true (aL (eD [f]) fun c _=>some (.nrm [sl c 0])) [.tup []] fun d=>(bm z (sl d 0) (B false)).bind fun z=>(am D.bad z true (ac y (.ref 0 3))).bind fun g=>(am (.tup []) z true ((atD y g).bind (an false 1))).bind fun h=>fb z true (aL (bP [h,I 0,I 9999]) fun c _=>some (.nrm [sl c 0])) [.tup []] fun d=>(bm z (sl d 0) (B false)).bind fun z=>some (.ret [z] [])):=by kernel_rfl
theorem vK (x0 x1 x2:D):fV [x0,x1,x2]=((lenD false x0).bind fun z=>(bf (fun s=>(bin .lss false [] (sl s 4) (sl s 3)).bind fun z=>ifD z ((IP D.ptr (bg 4 (sl s 2) (sl s 4))).bind fun z=>((ldD true 4 z).bind bq).bind fun z=>(stD 4 (.agg [.v (.string ⟨⟨[]⟩⟩),I 0,I 0,I 0]) (.ref 0 0) z).bind fun b=>(ac b (.ref 0 1)).bind fun z=>((atD b z).bind (an false 1)).bind fun z=>(bin .eql false [] z (sl s 0)).bind fun z=>(am D.bad z true (ac b (.ref 0 2))).bind fun c=>(am (.tup []) z true ((atD b c).bind (an false 1))).bind fun d=>(am (.tup []) z true (some (sl s 1))).bind fun e=>(am (.tup []) z true (bin .eql false [] d e)).bind fun f=>(bm z f (B false)).bind fun z=>ifD z (some (.ret [B true] [])) ((bin .add false [] (sl s 4) (I 1)).bind fun z=>some (.nrm [sl s 0,sl s 1,sl s 2,sl s 3,z]))) (some (.ext 0 []))) [x1,x2,x0,z,I 0]).bind fun o=>cO o (fun i _=>ifN (i.beq 0) (some (.ret [B false] [])) none) fun a b=>some (.ret a b)):=by kernel_rfl
theorem xc (x0:D):dZ [x0]=((lenD false x0).bind fun z=>(bf (fun s=>(bin .lss false [] (sl s 3) (sl s 2)).bind fun z=>ifD z ((IP D.ptr (bg 4 (sl s 1) (sl s 3))).bind fun z=>((ldD true 4 z).bind bq).bind fun z=>(stD 4 (.agg [.v (.string ⟨⟨[]⟩⟩),I 0,I 0,I 0]) (.ref 0 0) z).bind fun b=>(lj true 4 0 b).bind fun z=>aL (iO [z]) fun d _=>(un .not (sl d 0)).bind fun z=>(am (.tup []) z false (some (sl s 3))).bind fun e=>(am (.tup []) z false (bin .gtr false [] e (I 0))).bind fun f=>(am (.tup []) z false (some f)).bind fun c=>(am (.tup []) c true (some (sl s 0))).bind fun g=>(am (.tup []) c true (some (sl s 3))).bind fun h=>(am (.tup []) c true (bin .sub false [] h (I 1))).bind fun j=>(am (.tup []) c true (IP D.ptr (bg 4 g j))).bind fun k=>(am (.tup []) c true (jT 0 k)).bind fun l=>(am (.tup []) c true ((ldD false 1 l).bind bq)).bind fun m=>(am D.bad c true (ac b (.ref 0 0))).bind fun n=>(am (.tup []) c true ((atD b n).bind (an false 1))).bind fun p=>(am (.tup []) c true (bin .geq false [] m p)).bind fun q=>(am (.tup []) z false (bm c q (B false))).bind fun r=>(bm z (B true) r).bind fun z=>(am (.tup []) z false (some (sl s 0))).bind fun t=>(am (.tup []) z false (some (sl s 3))).bind fun u=>(am (.tup []) z false (fe false 4 t (I 0) u)).bind fun v=>(am D.bad z false (ac b (.ref 0 1))).bind fun w=>(am (.tup []) z false ((atD b w).bind (an false 1))).bind fun za=>(am D.bad z false (ac b (.ref 0 2))).bind fun zb=>(am (.tup []) z false ((atD b zb).bind (an false 1))).bind fun zc=>fb z false (aL (fV [v,za,zc]) fun d _=>some (.nrm [sl d 0])) [.tup []] fun zd=>(bm z (B true) (sl zd 0)).bind fun z=>ifD z (some (.ret [B false] [])) ((bin .add false [] (sl s 3) (I 1)).bind fun z=>some (.nrm [sl s 0,sl s 1,sl s 2,z]))) (some (.ext 0 [sl s 0]))) [x0,x0,z,I 0]).bind fun o=>cO o (fun i s=>ifN (i.beq 0) ((lenD false (sl s 0)).bind fun z=>aL (bP [z,I 1,I 32]) fun d _=>some (.ret [sl d 0] [])) none) fun a b=>some (.ret a b)):=by kernel_rfl
theorem th (x0 x1:D):dX [x0,x1]=((lenD false x1).bind fun z=>(bf (fun s=>(bin .lss false [] (sl s 4) (sl s 3)).bind fun z=>ifD z ((IP D.ptr (bg 1 (sl s 2) (sl s 4))).bind fun z=>((ldD false 1 z).bind bq).bind fun z=>aL (fX [sl s 0,z]) fun c _=>(bin .lss false [] (sl c 0) (I 0)).bind fun z=>ifD z (some (.ret [B false] [])) ((bin .add false [] (sl s 4) (I 1)).bind fun z=>some (.nrm [sl s 0,sl s 1,sl s 2,sl s 3,z]))) (some (.ext 0 [sl s 0,sl s 1]))) [x0,x1,x1,z,I 0]).bind fun o=>cO o (fun i s=>ifN (i.beq 0) (aL (dZ [sl s 0]) fun c _=>(am (.tup []) (sl c 0) true (some (sl s 1))).bind fun z=>(am (.tup []) (sl c 0) true (lenD false z)).bind fun z=>(am (.tup []) (sl c 0) true (bin .leq false [] z (I 60))).bind fun z=>(bm (sl c 0) z (B false)).bind fun z=>some (.ret [z] [])) none) fun a b=>some (.ret a b)):=by kernel_rfl
theorem uP (x0 x1:D):gj [x0,x1]=((fg 4 x1).bind fun y=>(ac y (.ref 0 0)).bind fun z=>(((atD y z).bind (an false 1)).bind bq).bind fun z=>aL (dG [z]) fun c _=>(am (.tup []) (sl c 0) true (some x0)).bind fun z=>(am D.bad (sl c 0) true (ac y (.ref 0 1))).bind fun f=>(am (.tup []) (sl c 0) true ((atD y f).bind (an false 1))).bind fun g=>fb (sl c 0) true (aL (dX [z,g]) fun c _=>some (.nrm [sl c 0])) [.tup []] fun e=>(bm (sl c 0) (sl e 0) (B false)).bind fun z=>(am D.bad z true (ac y (.ref 0 1))).bind fun h=>(am (.tup []) z true ((atD y h).bind (an false 1))).bind fun j=>(am (.tup []) z true (lenD false j)).bind fun k=>(am (.tup []) z true (bin .leq false [] k (I 40))).bind fun l=>(bm z l (B false)).bind fun z=>(am D.bad z true (ac y (.ref 0 3))).bind fun m=>(am (.tup []) z true (((atD y m).bind (an false 1)).bind bq)).bind fun n=>fb z true (aL (bP [n,I 0,I 100000]) fun c _=>some (.nrm [sl c 0])) [.tup []] fun e=>(bm z (sl e 0) (B false)).bind fun z=>(am D.bad z true (ac y (.ref 0 2))).bind fun p=>(am (.tup []) z true (((atD y p).bind (an false 1)).bind bq)).bind fun q=>(am (.tup []) z true (un .not q)).bind fun r=>(am (.tup []) z true (some r)).bind fun d=>(am D.bad d false (ac y (.ref 0 1))).bind fun t=>(am (.tup []) d false ((atD y t).bind (an false 1))).bind fun u=>(am (.tup []) d false (lenD false u)).bind fun v=>(am (.tup []) d false (bin .gtr false [] v (I 0))).bind fun w=>(am (.tup []) z true (bm d (B true) w)).bind fun za=>(bm z za (B false)).bind fun z=>some (.ret [z] [])):=by kernel_rfl
theorem vN (x0:D):jW [x0]=((fg 4 x0).bind fun y=>(ac y (.ref 0 1)).bind fun z=>((atD y z).bind (an false 1)).bind fun z=>(lenD false z).bind fun n=>(bf (fun s=>(bin .lss false [] (sl s 4) (sl s 3)).bind fun z=>ifD z ((IP D.ptr (bg 4 (sl s 2) (sl s 4))).bind fun z=>(ldD true 4 z).bind fun z=>(stD 4 (.agg [I 0,.arr 1 [],B false,I 0]) (.ref 0 0) z).bind fun b=>(ac (sl s 0) (.ref 0 0)).bind fun z=>((atD (sl s 0) z).bind (an false 1)).bind fun z=>(lj true 4 0 b).bind fun e=>aL (gj [z,e]) fun d _=>(un .not (sl d 0)).bind fun z=>(am (.tup []) z false (some (sl s 4))).bind fun f=>(am (.tup []) z false (bin .gtr false [] f (I 0))).bind fun g=>(am (.tup []) z false (some g)).bind fun c=>(am D.bad c true (ac (sl s 0) (.ref 0 1))).bind fun h=>(am (.tup []) c true ((atD (sl s 0) h).bind (an false 1))).bind fun j=>(am (.tup []) c true (some (sl s 4))).bind fun k=>(am (.tup []) c true (bin .sub false [] k (I 1))).bind fun l=>(am (.tup []) c true (IP D.ptr (bg 4 j l))).bind fun p=>(am (.tup []) c true (jT 0 p)).bind fun q=>(am (.tup []) c true ((ldD false 1 q).bind bq)).bind fun r=>(am D.bad c true (ac b (.ref 0 0))).bind fun t=>(am (.tup []) c true (((atD b t).bind (an false 1)).bind bq)).bind fun u=>(am (.tup []) c true (bin .geq false [] r u)).bind fun v=>(am (.tup []) z false (bm c v (B false))).bind fun w=>(bm z (B true) w).bind fun z=>ifD z (some (.ret [B false] [])) ((ac b (.ref 0 3)).bind fun z=>(((atD b z).bind (an false 1)).bind bq).bind fun z=>(bin .add false [] (sl s 1) z).bind fun z=>(bin .add false [] (sl s 4) (I 1)).bind fun za=>some (.nrm [sl s 0,z,sl s 2,sl s 3,za]))) (some (.ext 0 [sl s 0,sl s 1]))) [y,I 0,z,n,I 0]).bind fun o=>cO o (fun i s=>ifN (i.beq 0) ((ac (sl s 0) (.ref 0 0)).bind fun z=>((atD (sl s 0) z).bind (an false 1)).bind fun z=>aL (dZ [z]) fun d _=>(am D.bad (sl d 0) true (ac (sl s 0) (.ref 0 1))).bind fun z=>(am (.tup []) (sl d 0) true ((atD (sl s 0) z).bind (an false 1))).bind fun z=>(am (.tup []) (sl d 0) true (lenD false z)).bind fun z=>(am (.tup []) (sl d 0) true (bin .leq false [] z (I 5))).bind fun z=>(bm (sl d 0) z (B false)).bind fun z=>(am D.bad z true (ac (sl s 0) (.ref 0 2))).bind fun e=>(am (.tup []) z true (((atD (sl s 0) e).bind (an false 1)).bind bq)).bind fun f=>fb z true (aL (bP [f,I 0,I 9999]) fun d _=>some (.nrm [sl d 0])) [.tup []] fun m=>(bm z (sl m 0) (B false)).bind fun z=>(am D.bad z true (ac (sl s 0) (.ref 0 3))).bind fun g=>(am (.tup []) z true (((atD (sl s 0) g).bind (an false 1)).bind bq)).bind fun c=>fb z true (aL (bP [c,I 0,I 1000000]) fun d _=>some (.nrm [sl d 0])) [.tup []] fun m=>(bm z (sl m 0) (B false)).bind fun z=>(am D.bad z true (ac (sl s 0) (.ref 0 3))).bind fun h=>(am (.tup []) z true (((atD (sl s 0) h).bind (an false 1)).bind bq)).bind fun j=>(am (.tup []) z true (some (sl s 1))).bind fun k=>(am (.tup []) z true (bin .geq false [] j k)).bind fun l=>(bm z l (B false)).bind fun z=>some (.ret [z] [])) none) fun a b=>some (.ret a b)):=by kernel_rfl
theorem vM (x0:D):ki [x0]=((dF 1 []).bind fun a=>(ll x0).bind fun b=>(js 1 16 a b).bind fun y=>some (.ret [y] [])):=by kernel_rfl
theorem xe (x0 x1 x2:D):jX [x0,x1,x2]=((dF 4 []).bind fun a=>(ll x0).bind fun b=>(js 4 40 a b).bind fun y=>(lenD false x1).bind fun z=>(bf (fun s=>(bin .lss false [] (sl s 4) (sl s 3)).bind fun z=>ifD z ((IP D.ptr (bg 1 (sl s 2) (sl s 4))).bind fun z=>((ldD false 1 z).bind bq).bind fun z=>(ac (sl s 1) (.ref 0 0)).bind fun d=>(ac (sl s 1) (.ref 0 0)).bind fun e=>(ac e (sl s 1)).bind fun i=>aL (fr [i,z]) fun c _=>((ac d (sl s 1)).bind fun b=>iy 4 b (sl c 0)).bind fun z=>(eP 3 z).bind fun z=>((atD (sl s 1) z).bind (an false 1)).bind fun z=>(bin .add false [] z (sl s 0)).bind fun z=>((ac d (sl s 1)).bind fun b=>iy 4 b (sl c 0)).bind fun f=>(eP 3 f).bind fun g=>(stD 1 (sl s 1) g z).bind fun b=>(bin .add false [] (sl s 4) (I 1)).bind fun z=>some (.nrm [sl s 0,b,sl s 2,sl s 3,z])) (some (.ext 0 [sl s 1]))) [x2,y,x1,z,I 0]).bind fun o=>cO o (fun i s=>ifN (i.beq 0) ((ac (sl s 0) (.ref 0 0)).bind fun z=>(ac z (sl s 0)).bind fun i=>aL (fu [i]) fun c _=>(un .not (sl c 0)).bind fun z=>ifD z (some (.ret [.arr 4 [],B false] [])) (some (.ret [sl s 0,B true] []))) none) fun a b=>some (.ret a b)):=by kernel_rfl
theorem bu (a b c:Int):bV [I a,I b,I c]=some (.ret [B (decide (b≤a∧a≤c))] []):=by
 rw [Al];by_cases h:b≤a<;>simp [h]
theorem bG (a b c:Int):bP [I a,I b,I c]=some (.ret [B (decide (b≤a∧a≤c))] []):=by
 rw [vX];by_cases h:b≤a<;>simp [h]
def dI {β:Type} (p:β→Bool):Nat→List β→Option Nat
 | _,[]=>none
 | i,x::l=>if p x=true then some i else dI p (i+1) l
theorem ng {β:Type} {body:List D→Option Out} (l:List β) (st:Nat→List D) (p:β→Bool) (o1:Nat→Out) (o2:Out) (hs:∀(i:Nat) (hi:i<l.length),body (st i)=some (if p l[i]=true then o1 i else .nrm (st (i+1)))) (he:body (st l.length)=some o2)
  (h1:∀i,(o1 i).ends=true) (h2:o2.ends=true) {s0:List D} (h:s0=st 0):bf body s0=some ((dI p 0 l).elim o2 o1):=by
 have e:∀(m:List β) (i:Nat),goL (fun i x (_:Unit)=>if p x=true then .inr (o1 i) else .inl ()) (fun _=>o2) i m ()=(dI p i m).elim o2 o1:=by
  intro m;induction m with
  | nil=>intro i;simp [goL,dI]
  | cons x m ih =>
   intro i;simp only [goL,dI];by_cases hp:p x=true
   ·simp [hp]
   ·simp [hp,ih]
 rw [←e];refine nm l (fun i _=>st i) (fun _ _=>True) _ _ (fun i x a hx _=>?_) (fun _ _=>⟨he,h2⟩) () trivial h
 have hi:i<l.length:=(IU.1 hx).1;have hxe:l[i]=x:=(IU.1 hx).2;have:=hs i hi;rw [hxe] at this;by_cases hp:p x=true
 ·simpa [hp,h1] using this
 ·simpa [hp] using this
theorem rN {α β:Type} {body:List D→Option Out} (l:List β) (st:Nat→α→List D) (Inv:Nat→α→Prop) (p:Nat→β→Bool) (f:α→β→α) (o1:Out) (fin:α→Out) (a:α) (hs:∀(i:Nat) (a:α) (hi:i<l.length),Inv i a→body (st i a)=some (if p i l[i]=true then .nrm (st (i+1) (f a l[i])) else o1)∧(p i l[i]=true→Inv (i+1) (f a l[i])))
  (he:∀a,Inv l.length a→body (st l.length a)=some (fin a)) (h1:o1.ends=true) (h2:∀a,(fin a).ends=true) (h0:Inv 0 a) {s0:List D} (h:s0=st 0 a):bf body s0=some (if dq p 0 l=true then fin (l.foldl f a) else o1):=by
 have e:∀(m:List β) (i:Nat) (a:α),goL (fun i x (a:α)=>if p i x=true then .inl (f a x) else .inr o1) fin i m a=if dq p i m=true then fin (m.foldl f a) else o1:=by
  intro m;induction m with
  | nil=>intro i a;simp [goL,dq]
  | cons x m ih =>
   intro i a;simp only [goL,dq,List.foldl_cons];by_cases hp:p i x=true
   ·simp [hp,ih]
   ·simp [hp]
 rw [←e];refine nm l st Inv _ _ (fun i x a hx hI=>?_) (fun a hI=>⟨he a hI,h2 a⟩) a h0 h
 have hi:i<l.length:=(IU.1 hx).1;have hxe:l[i]=x:=(IU.1 hx).2;have:=hs i a hi hI;rw [hxe] at this;by_cases hp:p i x=true
 ·simpa [hp] using this
 ·simpa [hp,h1] using this
theorem qz {β:Type} {body:List D→Option Out} {K:Out→Option Out} {R:Option Out→Prop} (l:List β) (st:Nat→Int→List D) (P:β→Prop)
  (hs:∀(i:Nat) (hi:i<l.length) (m:Int),0≤m→m≤1048576→body (st i m)=some (.ret [I (-1)] [])∨∃m',body (st i m)=some (.nrm (st (i+1) m'))∧0≤m'∧m'≤m∧P l[i])
  (he:∀m,body (st l.length m)=some (.ext 0 [I m])) (m0:Int) (h0:0≤m0) (h1:m0≤1048576) {s0:List D} (h:s0=st 0 m0)
  (hk1:R (K (.ret [I (-1)] []))) (hk2:∀m,0≤m→m≤m0→(∀x∈l,P x)→R (K (.ext 0 [I m]))):R ((bf body s0).bind K):=by
 have key:∀(n i:Nat) (m:Int),i+n=l.length→0≤m→m≤m0→(∀(j:Nat) (hj:j<l.length),j<i→P l[j])→∃o,Runs body (st i m) o∧(o = .ret [I (-1)] []∨∃m',o = .ext 0 [I m']∧0≤m'∧m'≤m0∧∀x∈l,P x):=by
  intro n;induction n with
  | zero =>
   intro i m hi g0 g1 hP;have:i=l.length:=by omega
   subst this;refine⟨_,Runs.one (he m) rfl,.inr ⟨m,rfl,g0,g1,fun x hx=>?_⟩⟩
   obtain⟨j,hj,rfl⟩:=List.mem_iff_getElem.1 hx;exact hP j hj hj
  | succ n ih =>
   intro i m hi g0 g1 hP;have hlt:i<l.length:=by omega
   rcases hs i hlt m g0 (by omega) with e | ⟨m',e,k0,k1,kP⟩
   ·exact⟨_,Runs.one e rfl,.inl rfl⟩
   ·obtain⟨o,r1,r2⟩:=ih (i+1) m' (by omega) k0 (by omega) (fun j hj hji=>by
     rcases Nat.lt_or_ge j i with h | h
     ·exact hP j hj h
     ·have:j=i:=by omega
      subst this;exact kP)
    exact⟨o,.nrm e r1,r2⟩
 obtain⟨o,r1,r2⟩:=key l.length 0 m0 (by omega) h0 (Int.le_refl _) (fun _ _ h=>absurd h (by omega));rw [h,r1.loop];rcases r2 with rfl | ⟨m,rfl,g0,g1,gP⟩
 ·exact hk1
 ·exact hk2 m g0 g1 gP
def ay (s:ByteArray):List UInt8:=s.data.toList
theorem iT {s:ByteArray} {k:IntKind} {i:Nat}:qM (T s) (.v (.int k (i:Int)))=((ay s)[i]?).map fun b=>U b.toNat:=by simp [qM,ay]
theorem dy (s:ByteArray):s.size=(ay s).length:=rfl
theorem ky {a b:ByteArray} {bl:Bool} {eq:List Nat}:bin .geq bl eq (T a) (T b)=some (B (!JE a.toList b.toList)):=by simp [bin,pt]
def az (b:UInt8):Bool:=decide (97≤(b.toNat:Int))&&decide ((b.toNat:Int)≤122)
def dR (s:ByteArray) (lo hi:Int):Bool:=dq (fun _ b=>az b) 0 (ay s)&&decide (lo≤(s.size:Int)∧(s.size:Int)≤hi)
theorem kE (s:ByteArray) (n:Int) (h:s.size≤9223372036854775807):dH [T s,I n]=some (.ret [B (dR s 1 n)] []):=by
 rw [ru];rw [dy] at h;refine aO _ (gb (ay s) (fun i=>[T s,I n,I i]) (fun _ b=>az b) (.ret [B false] []) (.ext 0 [T s,I n]) (fun i hi=>?_) ?_ rfl rfl rfl) ?_
 ·have hw:IM.wrap ((i:Int)+1)=(i:Int)+1:=ak (by omega) (by omega)
  by_cases h1:97≤(((ay s)[i]).toNat:Int)
  ·by_cases h2:(((ay s)[i]).toNat:Int)≤122
   ·simp -implicitDefEqProofs [dy,iT,hi,hw,az,h1,h2,Js.2 h1,Js.2 h2]
   ·simp -implicitDefEqProofs [dy,iT,hi,hw,az,h1,h2,Js.2 h1,JB.1 h2]
  ·simp -implicitDefEqProofs [dy,iT,hi,hw,az,h1,JB.1 h1]
 ·simp -implicitDefEqProofs [dy]
 ·by_cases hg:dq (fun _ b=>az b) 0 (ay s)=true<;>simp -implicitDefEqProofs [hg,dR,bu]
theorem jM (s:ByteArray) (m n:Int) (h:s.size≤9223372036854775807):dc [T s,I m,I n]=some (.ret [B (dR s m n)] []):=by
 rw [pI];rw [dy] at h;refine aO _ (gb (ay s) (fun i=>[T s,I m,I n,I i]) (fun _ b=>az b) (.ret [B false] []) (.ext 0 [T s,I m,I n]) (fun i hi=>?_) ?_ rfl rfl rfl) ?_
 ·have hw:IM.wrap ((i:Int)+1)=(i:Int)+1:=ak (by omega) (by omega)
  by_cases h1:97≤(((ay s)[i]).toNat:Int)
  ·by_cases h2:(((ay s)[i]).toNat:Int)≤122
   ·simp -implicitDefEqProofs [dy,iT,hi,hw,az,h1,h2,Js.2 h1,Js.2 h2]
   ·simp -implicitDefEqProofs [dy,iT,hi,hw,az,h1,h2,Js.2 h1,JB.1 h2]
  ·simp -implicitDefEqProofs [dy,iT,hi,hw,az,h1,JB.1 h1]
 ·simp -implicitDefEqProofs [dy]
 ·by_cases hg:dq (fun _ b=>az b) 0 (ay s)=true<;>simp -implicitDefEqProofs [hg,dR,bG]
theorem wh (s:ByteArray) (h:s.size≤9223372036854775807):hJ [T s]=some (.ret [B (dR s 1 3)] []):=by
 rw [wM];simp [jM s 1 3 h]
theorem tH (n:Int):eD [I n]=some (.ret [B (decide (0≤n∧n≤9))] []):=by
 rw [vJ];simp [bG]
abbrev Bx:=ByteArray × Int × Int × Int
abbrev bx (x:Bx):D:=.agg [T x.1,I x.2.1,I x.2.2.1,I x.2.2.2]
abbrev bxs (l:List Bx):D:=.arr 4 (l.map bx)
theorem FM (x:Bx):(bx x).isV=true:=rfl
def mu (l:List Bx):Prop:=l.length≤1048576∧∀x∈l,x.1.size≤1048576
def wD (x:Bx):Bool:=dR x.1 1 3&&decide (0≤x.2.1∧x.2.1≤9)&&decide (0≤x.2.2.1∧x.2.2.1≤9)&&decide (0≤x.2.2.2∧x.2.2.2≤9999)
theorem yf (x:Bx) (h:x.1.size≤1048576):iS [bx x]=some (.ret [B (wD x)] []):=by
 rw [yt];have e:=kE x.1 3 (by omega);cases h0:dR x.1 1 3<;>rw [h0] at e
 ·simp -implicitDefEqProofs [e,wD,h0]
 ·by_cases h1:0≤x.2.1∧x.2.1≤9<;>by_cases h2:0≤x.2.2.1∧x.2.2.1≤9<;>simp -implicitDefEqProofs [e,bu,wD,h0,h1,h2]
theorem zo (x:Bx) (h:x.1.size≤1048576):iO [bx x]=some (.ret [B (wD x)] []):=by
 rw [yN];have e:=wh x.1 (by omega);cases h0:dR x.1 1 3<;>rw [h0] at e
 ·simp -implicitDefEqProofs [e,wD,h0]
 ·by_cases h1:0≤x.2.1∧x.2.1≤9<;>by_cases h2:0≤x.2.2.1∧x.2.2.1≤9<;>simp -implicitDefEqProofs [e,tH,bG,wD,h0,h1,h2]
def ip (x y:Bx):Bool:=decide (y.2.1=x.2.1)&&decide (y.2.2.1=x.2.2.1)
def pBx (l:List Bx) (i:Nat) (x:Bx):Bool:=wD x && !(decide (0<i) && !JE (l.getD (i - 1) (ByteArray.empty,0,0,0)).1.toList x.1.toList)&&dq (fun _ y=>!ip x y) 0 (l.take i)
def bH (l:List Bx):Bool:=dq (pBx l) 0 l&&decide (1≤(l.length:Int)∧(l.length:Int)≤32)
theorem Ar {l:List Bx} {i:Nat} (hi:i≤l.length):fe false 4 (bxs l) (I 0) (I (i:Int))=some (bxs (l.take i)):=by
 have:=BK (z:=4) (l:=l.map bx) (k:=.i64) (k':=.i64) (Nat.zero_le i) (by simpa using hi);rw [JN,←IZ] at this;exact this
theorem gZ (l:List Bx) (h:mu l):fu [bxs l]=some (.ret [B (bH l)] []):=by
 rw [wY];have hl:=h.1;simp only [cd,IV,IW];refine aO _ (gb l (fun i=>[bxs l,bxs l,I l.length,I i]) (pBx l) (.ret [B false] []) (.ext 0 [bxs l]) (fun i hi=>?_) ?_ rfl rfl rfl) ?_
 ·have hw:IM.wrap ((i:Int)+1)=(i:Int)+1:=ak (by omega) (by omega)
  have eb:=yf l[i] (h.2 _ (IX hi));have ht:=Ar (Je hi);cases h1:wD l[i]
  ·rw [h1] at eb
   simp -implicitDefEqProofs [hi,eb,h1,pBx]
  ·rw [h1] at eb
   by_cases h0:0<i
   ·have hw2:IM.wrap ((i:Int) - 1)=((i - 1:Nat):Int):=by rw [ak (by omega) (by omega)];omega
    have hy:i - 1<l.length:=by omega
    cases h2:JE l[i - 1].1.toList l[i].1.toList
    ·simp -implicitDefEqProofs [hi,hy,eb,h1,pBx,hw2,h0,h2,ky]
    ·have hp:pBx l i l[i]=dq (fun _ y=>!ip l[i] y) 0 (l.take i):=by simp [pBx,h1,h0,h2,hy]
     rw [hp];have htl:(l.take i).length≤1048576:=by simp;omega
     simp -implicitDefEqProofs [hi,hy,eb,hw2,h0,h2,ky,ht,hw,←IZ,-Jf,-IZ];generalize l.take i=t at ht htl;refine aO _ (gb t (fun j=>[bxs l,bx l[i],bxs l,I l.length,I i,bxs t,I t.length,I j]) (fun _ y=>!ip l[i] y) (.ret [B false] []) (.ext 2 [bxs l,bxs l,I l.length,I i]) (fun j hj=>?_) ?_ rfl rfl rfl) ?_
     ·have hwj:IM.wrap ((j:Int)+1)=(j:Int)+1:=ak (by omega) (by omega)
      by_cases c1:t[j].2.1=l[i].2.1<;>by_cases c2:t[j].2.2.1=l[i].2.2.1<;>simp -implicitDefEqProofs [hj,hwj,c1,c2,ip]
     ·simp -implicitDefEqProofs
     ·cases ha:dq (fun _ y=>!ip l[i] y) 0 t<;>simp -implicitDefEqProofs [hw]
   ·have hp:pBx l i l[i]=dq (fun _ y=>!ip l[i] y) 0 (l.take i):=by simp [pBx,h1,h0]
    rw [hp];have htl:(l.take i).length≤1048576:=by simp;omega
    simp -implicitDefEqProofs [hi,eb,h0,ky,ht,hw,←IZ,-Jf,-IZ];generalize l.take i=t at ht htl;refine aO _ (gb t (fun j=>[bxs l,bx l[i],bxs l,I l.length,I i,bxs t,I t.length,I j]) (fun _ y=>!ip l[i] y) (.ret [B false] []) (.ext 2 [bxs l,bxs l,I l.length,I i]) (fun j hj=>?_) ?_ rfl rfl rfl) ?_
    ·have hwj:IM.wrap ((j:Int)+1)=(j:Int)+1:=ak (by omega) (by omega)
     by_cases c1:t[j].2.1=l[i].2.1<;>by_cases c2:t[j].2.2.1=l[i].2.2.1<;>simp -implicitDefEqProofs [hj,hwj,c1,c2,ip]
    ·simp -implicitDefEqProofs
    ·cases ha:dq (fun _ y=>!ip l[i] y) 0 t<;>simp -implicitDefEqProofs [hw]
 ·simp
 ·by_cases hg:dq (pBx l) 0 l=true<;>simp -implicitDefEqProofs [hg,bH,bu]
theorem uC (t:List Bx) (x:Bx) (h:t.length≤1048576):fV [bxs t,I x.2.1,I x.2.2.1]=some (.ret [B (!dq (fun _ y=>!ip x y) 0 t)] []):=by
 rw [vK];simp only [cd,IV,IW];refine aO _ (gb t (fun j=>[I x.2.1,I x.2.2.1,bxs t,I t.length,I j]) (fun _ y=>!ip x y) (.ret [B true] []) (.ext 0 []) (fun j hj=>?_) ?_ rfl rfl rfl) ?_
 ·have hwj:IM.wrap ((j:Int)+1)=(j:Int)+1:=ak (by omega) (by omega)
  by_cases c1:t[j].2.1=x.2.1<;>by_cases c2:t[j].2.2.1=x.2.2.1<;>simp -implicitDefEqProofs [hj,hwj,c1,c2,ip]
 ·simp -implicitDefEqProofs
 ·cases ha:dq (fun _ y=>!ip x y) 0 t<;>simp -implicitDefEqProofs
theorem dj (l:List Bx) (h:mu l):dZ [bxs l]=some (.ret [B (bH l)] []):=by
 rw [xc];have hl:=h.1;simp only [cd,IV,IW];refine aO _ (gb l (fun i=>[bxs l,bxs l,I l.length,I i]) (pBx l) (.ret [B false] []) (.ext 0 [bxs l]) (fun i hi=>?_) ?_ rfl rfl rfl) ?_
 ·have hw:IM.wrap ((i:Int)+1)=(i:Int)+1:=ak (by omega) (by omega)
  have eb:=zo l[i] (h.2 _ (IX hi));have ht:=Ar (Je hi);have et:=uC (l.take i) l[i] (by simp;omega);cases h1:wD l[i]
  ·rw [h1] at eb
   simp -implicitDefEqProofs [hi,eb,h1,pBx]
  ·rw [h1] at eb
   by_cases h0:0<i
   ·have hw2:IM.wrap ((i:Int) - 1)=((i - 1:Nat):Int):=by rw [ak (by omega) (by omega)];omega
    have hy:i - 1<l.length:=by omega
    cases h2:JE l[i - 1].1.toList l[i].1.toList
    ·simp -implicitDefEqProofs [hi,hy,eb,h1,pBx,hw2,h0,h2,ky]
    ·have hp:pBx l i l[i]=dq (fun _ y=>!ip l[i] y) 0 (l.take i):=by simp [pBx,h1,h0,h2,hy]
     rw [hp];cases ha:dq (fun _ y=>!ip l[i] y) 0 (l.take i)<;>rw [ha] at et<;>simp -implicitDefEqProofs [hi,hy,eb,hw2,h0,h2,ky,ht,hw,et,←IZ,-IZ]
   ·have hp:pBx l i l[i]=dq (fun _ y=>!ip l[i] y) 0 (l.take i):=by simp [pBx,h1,h0]
    rw [hp];cases ha:dq (fun _ y=>!ip l[i] y) 0 (l.take i)<;>rw [ha] at et<;>simp -implicitDefEqProofs [hi,eb,h0,ky,ht,hw,et,←IZ,-IZ]
 ·simp
 ·by_cases hg:dq (pBx l) 0 l=true<;>simp -implicitDefEqProofs [hg,bH,bG]
def fB (l:List Bx) (c:ByteArray):Int:=(dI (fun b:Bx=>decide (b.1=c)) 0 l).elim (-1) fun j=>(j:Int)
theorem ke (l:List Bx) (c:ByteArray) (h:l.length≤1048576):fr [bxs l,T c]=some (.ret [I (fB l c)] []):=by
 rw [wF];simp only [cd,IV,IW];refine aO _ (ng l (fun i=>[T c,bxs l,I l.length,I i]) (fun b:Bx=>decide (b.1=c)) (fun j=>.ret [I j] []) (.ext 0 []) (fun i hi=>?_) ?_ (fun _=>rfl) rfl rfl) ?_
 ·have hw:IM.wrap ((i:Int)+1)=(i:Int)+1:=ak (by omega) (by omega)
  by_cases hc:l[i].1=c<;>simp -implicitDefEqProofs [hi,hw,hc]
 ·simp
 ·unfold fB
  cases dI (fun b:Bx=>decide (b.1=c)) 0 l<;>simp -implicitDefEqProofs
theorem qE (l:List Bx) (c:ByteArray) (h:l.length≤1048576):fX [bxs l,T c]=some (.ret [I (fB l c)] []):=by
 rw [yL];simp only [cd,IV,IW];refine aO _ (ng l (fun i=>[T c,bxs l,I l.length,I i]) (fun b:Bx=>decide (b.1=c)) (fun j=>.ret [I j] []) (.ext 0 []) (fun i hi=>?_) ?_ (fun _=>rfl) rfl rfl) ?_
 ·have hw:IM.wrap ((i:Int)+1)=(i:Int)+1:=ak (by omega) (by omega)
  by_cases hc:l[i].1=c<;>simp -implicitDefEqProofs [hi,hw,hc]
 ·simp
 ·unfold fB
  cases dI (fun b:Bx=>decide (b.1=c)) 0 l<;>simp -implicitDefEqProofs
abbrev txs (l:List ByteArray):D:=.arr 1 (l.map T)
def jS (l:List Bx) (cs:List ByteArray):Bool:=dq (fun _ c=>!decide (fB l c<0)) 0 cs
theorem lB (l:List Bx) (cs:List ByteArray) (h:mu l) (hc:cs.length≤1048576):dX [bxs l,txs cs]=some (.ret [B (jS l cs&&bH l&&decide ((cs.length:Int)≤60))] []):=by
 rw [th];simp only [cd,IV,IW];refine aO _ (gb cs (fun i=>[bxs l,txs cs,txs cs,I cs.length,I i]) (fun _ c=>!decide (fB l c<0)) (.ret [B false] []) (.ext 0 [bxs l,txs cs]) (fun i hi=>?_) ?_ rfl rfl rfl) ?_
 ·have hw:IM.wrap ((i:Int)+1)=(i:Int)+1:=ak (by omega) (by omega)
  have eb:=qE l cs[i] h.1;by_cases hb:fB l cs[i]<0<;>simp -implicitDefEqProofs [hi,hw,eb,hb]
 ·simp
 ·cases ha:dq (fun _ c=>!decide (fB l c<0)) 0 cs
  ·simp -implicitDefEqProofs [jS,ha]
  ·cases hg:bH l<;>simp -implicitDefEqProofs [jS,ha,dj l h,hg]
abbrev Fm:=Int × List ByteArray × Bool × Int
abbrev fm (x:Fm):D:=.agg [I x.1,txs x.2.1,B x.2.2.1,I x.2.2.2]
abbrev fms (l:List Fm):D:=.arr 4 (l.map fm)
def BZ (l:List Fm):Prop:=l.length≤1048576∧∀x∈l,x.2.1.length≤1048576
def fJ (l:List Bx) (x:Fm):Bool:=decide (1≤x.1∧x.1≤99) && !decide (40<(x.2.1.length:Int))&&decide (0≤x.2.2.2∧x.2.2.2≤100000) && !(x.2.2.1&&decide ((x.2.1.length:Int)=0))&&jS l x.2.1
theorem tT (l:List Bx) (x:Fm) (h:l.length≤1048576) (hx:x.2.1.length≤1048576):fU [bxs l,fm x]=some (.ret [B (fJ l x)] []):=by
 rw [tM];by_cases h1:1≤x.1∧x.1≤99
 case neg=>simp -implicitDefEqProofs [bu,fJ,h1]
 by_cases h2:40<(x.2.1.length:Int)
 case pos=>simp -implicitDefEqProofs [bu,fJ,h1,h2]
 by_cases h3:0≤x.2.2.2∧x.2.2.2≤100000
 case neg=>simp -implicitDefEqProofs [bu,fJ,h1,h2,h3]
 have main:∀(body:List D→Option Out) (K:Out→Option Out) (r:Option Out),(∀(i:Nat) (hi:i<x.2.1.length),body [bxs l,txs x.2.1,I x.2.1.length,I i]=some (if (!decide (fB l x.2.1[i]<0))=true then .nrm [bxs l,txs x.2.1,I x.2.1.length,I (i+1:Nat)] else .ret [B false] [])) →
   body [bxs l,txs x.2.1,I x.2.1.length,I x.2.1.length]=some (.ext 0 [])→K (if jS l x.2.1=true then .ext 0 [] else .ret [B false] [])=r→(bf body [bxs l,txs x.2.1,I x.2.1.length,I 0]).bind K=r:=fun body K r g1 g2 g3 =>
  aO _ (gb x.2.1 (fun i=>[bxs l,txs x.2.1,I x.2.1.length,I i]) (fun _ c=>!decide (fB l c<0)) (.ret [B false] []) (.ext 0 []) g1 g2 rfl rfl rfl) g3
 cases h4:x.2.2.1
 ·simp -implicitDefEqProofs [bu,fJ,h1,h2,h3,h4]
  refine main _ _ _ (fun i hi=>?_) ?_ ?_
  ·have hw:IM.wrap ((i:Int)+1)=(i:Int)+1:=ak (by omega) (by omega)
   have eb:=ke l x.2.1[i] h;by_cases hb:fB l x.2.1[i]<0<;>simp -implicitDefEqProofs [hi,hw,eb,hb]
  ·simp
  ·cases jS l x.2.1<;>simp -implicitDefEqProofs
 ·by_cases h5:(x.2.1.length:Int)=0
  ·have h5':x.2.1=[]:=Jt (by omega)
   simp -implicitDefEqProofs [bu,fJ,h1,h3,h4,h5']
  ·have h5':¬x.2.1=[]:=fun e=>h5 (by simp [e])
   simp -implicitDefEqProofs [bu,fJ,h1,h2,h3,h4,h5,h5'];refine main _ _ _ (fun i hi=>?_) ?_ ?_
   ·have hw:IM.wrap ((i:Int)+1)=(i:Int)+1:=ak (by omega) (by omega)
    have eb:=ke l x.2.1[i] h;by_cases hb:fB l x.2.1[i]<0<;>simp -implicitDefEqProofs [hi,hw,eb,hb]
   ·simp
   ·cases jS l x.2.1<;>simp -implicitDefEqProofs
theorem aS (a:Int):dG [I a]=some (.ret [B (decide (1≤a∧a≤99))] []):=by
 rw [rf];simp [bG]
theorem mo (l:List Bx) (x:Fm) (h:mu l) (hx:x.2.1.length≤1048576):gj [bxs l,fm x]=some (.ret [B (fJ l x&&bH l)] []):=by
 rw [uP];have ec:=lB l x.2.1 h hx;by_cases h1:1≤x.1∧x.1≤99
 case neg=>simp -implicitDefEqProofs [aS,fJ,h1]
 cases ha:jS l x.2.1
 ·simp -implicitDefEqProofs [aS,fJ,h1,ec,ha]
 cases hg:bH l
 ·simp -implicitDefEqProofs [aS,fJ,h1,ec,ha,hg]
 by_cases h60:(x.2.1.length:Int)≤60
 case neg =>
  have h40:40<(x.2.1.length:Int):=by omega
  simp -implicitDefEqProofs [aS,fJ,h1,ec,ha,hg,h60,h40]
 by_cases h2:40<(x.2.1.length:Int)
 case pos=>simp -implicitDefEqProofs [aS,fJ,h1,ec,ha,hg,h60,h2,JB.2 h2]
 have h2':(x.2.1.length:Int)≤40:=by omega
 by_cases h3:0≤x.2.2.2∧x.2.2.2≤100000
 case neg=>simp -implicitDefEqProofs [aS,bG,fJ,h1,ec,ha,hg,h60,h2,h2',h3]
 cases h4:x.2.2.1
 ·simp -implicitDefEqProofs [aS,bG,fJ,h1,ec,ha,hg,h60,h2,h2',h3,h4]
 ·by_cases h5:(x.2.1.length:Int)=0
  ·have h5':x.2.1=[]:=Jt (by omega)
   rw [h5'] at ec ha;simp -implicitDefEqProofs [aS,bG,fJ,h1,ec,ha,hg,h3,h4,h5']
  ·have h5':¬x.2.1=[]:=fun e=>h5 (by simp [e])
   have h6:0<(x.2.1.length:Int):=by omega
   have h6':0<x.2.1.length:=by omega
   simp -implicitDefEqProofs [aS,bG,fJ,h1,ec,ha,hg,h60,h2,h2',h3,h4,h5,h5',h6,h6']
abbrev Sp:=List Bx × List Fm × Int × Int
abbrev sp (s:Sp):D:=.agg [bxs s.1,fms s.2.1,I s.2.2.1,I s.2.2.2]
def cr (s:Sp):Prop:=mu s.1∧BZ s.2.1
def DI (s:Sp):Prop:=(s.1.length≤9223372036854775807∧∀x∈s.1,x.1.size≤9223372036854775807)∧s.2.1.length≤9223372036854775807∧∀x∈s.2.1,x.2.1.length≤9223372036854775807∧∀c∈x.2.1,c.size≤9223372036854775807
def pS (s:Sp) (i:Nat) (x:Fm):Bool:=fJ s.1 x && !(decide (0<i)&&decide (x.1≤(s.2.1.getD (i - 1) (0,[],false,0)).1))
def qs (l:List Fm):Int:=l.foldl (fun a x=>a+x.2.2.2) 0
def aT (s:Sp):Bool:=dq (pS s) 0 s.2.1&&bH s.1&&decide ((s.2.1.length:Int)≤5)&&decide (0≤s.2.2.1∧s.2.2.1≤9999)&&decide (qs s.2.1≤s.2.2.2∧s.2.2.2≤1000000)
theorem bK {l:List Bx} {x:Fm} (h:fJ l x=true):0≤x.2.2.2∧x.2.2.2≤100000:=by
 simp only [fJ,Jj,decide_eq_true_eq] at h;exact h.1.1.2
theorem wg (s:Sp) (h:cr s):kb [sp s]=some (.ret [B (aT s)] []):=by
 rw [vQ];have hl:=h.2.1;have hb:=h.1.1;simp -implicitDefEqProofs;refine aO _ (rN s.2.1 (fun i a=>[sp s,I a,fms s.2.1,I s.2.1.length,I i]) (fun i a=>0≤a∧a≤100000*(i:Int)) (pS s) (fun a x=>a+x.2.2.2) (.ret [B false] []) (fun a=>.ext 0 [sp s,I a]) 0 (fun i a hi hI=>?_) (fun a _=>?_) rfl (fun _=>rfl) (by simp) rfl) ?_
 ·have hw:IM.wrap ((i:Int)+1)=(i:Int)+1:=ak (by omega) (by omega)
  have ef:=tT s.1 s.2.1[i] hb (h.2.2 _ (IX hi));cases h1:fJ s.1 s.2.1[i]
  ·rw [h1] at ef
   exact⟨by simp -implicitDefEqProofs [hi,ef,h1,pS],fun hc=>by simp [pS,h1] at hc⟩
  ·rw [h1] at ef
   have hpr:=bK h1;have hwa:IM.wrap (a+s.2.1[i].2.2.2)=a+s.2.1[i].2.2.2:=ak (by omega) (by omega);refine⟨?_,fun _=>by omega⟩
   by_cases h0:0<i
   ·have hw2:IM.wrap ((i:Int) - 1)=((i - 1:Nat):Int):=by rw [ak (by omega) (by omega)];omega
    have hy:i - 1<s.2.1.length:=by omega
    by_cases h2:s.2.1[i].1≤s.2.1[i - 1].1<;>simp -implicitDefEqProofs [hi,hy,ef,h1,pS,hw,hw2,hwa,h0,h2]
   ·simp -implicitDefEqProofs [hi,ef,h1,pS,hw,hwa,h0]
 ·simp -implicitDefEqProofs
 ·unfold aT qs
  cases ha:dq (pS s) 0 s.2.1
  ·simp -implicitDefEqProofs
  generalize List.foldl (fun a (x:Fm)=>a+x.2.2.2) 0 s.2.1=S;cases hg:bH s.1
  ·simp -implicitDefEqProofs [gZ s.1 h.1,hg]
  by_cases h5:s.2.1.length≤5
  case neg=>simp -implicitDefEqProofs [gZ s.1 h.1,hg,h5,show ¬(s.2.1.length:Int)≤5 by omega]
  have h5':(s.2.1.length:Int)≤5:=by omega
  by_cases h6:0≤s.2.2.1∧s.2.2.1≤9999<;>simp -implicitDefEqProofs [gZ s.1 h.1,bu,hg,h5,h5',h6]
theorem wo (s:Sp) (h:cr s):jW [sp s]=some (.ret [B (aT s)] []):=by
 rw [vN];have hl:=h.2.1;have hb:=h.1.1;simp -implicitDefEqProofs;cases hg:bH s.1
 ·refine aO _ (rN s.2.1 (fun i a=>[sp s,I a,fms s.2.1,I s.2.1.length,I i]) (fun i a=>True) (fun _ _=>false) (fun a x=>a+x.2.2.2) (.ret [B false] []) (fun a=>.ext 0 [sp s,I a]) 0 (fun i a hi hI=>⟨?_,fun _=>trivial⟩) (fun a _=>?_) rfl (fun _=>rfl) trivial rfl) ?_
  ·have ef:=mo s.1 s.2.1[i] h.1 (h.2.2 _ (IX hi))
   rw [hg,Bool.and_false] at ef;simp -implicitDefEqProofs [hi,ef]
  ·simp -implicitDefEqProofs
  ·cases dq (fun _ (_:Fm)=>false) 0 s.2.1<;>simp -implicitDefEqProofs [aT,hg,dj s.1 h.1]
 refine aO _ (rN s.2.1 (fun i a=>[sp s,I a,fms s.2.1,I s.2.1.length,I i]) (fun i a=>0≤a∧a≤100000*(i:Int)) (pS s) (fun a x=>a+x.2.2.2) (.ret [B false] []) (fun a=>.ext 0 [sp s,I a]) 0 (fun i a hi hI=>?_) (fun a _=>?_) rfl (fun _=>rfl) (by simp) rfl) ?_
 ·have hw:IM.wrap ((i:Int)+1)=(i:Int)+1:=ak (by omega) (by omega)
  have ef:=mo s.1 s.2.1[i] h.1 (h.2.2 _ (IX hi));rw [hg,Bool.and_true] at ef;cases h1:fJ s.1 s.2.1[i]
  ·rw [h1] at ef
   exact⟨by simp -implicitDefEqProofs [hi,ef,h1,pS],fun hc=>by simp [pS,h1] at hc⟩
  ·rw [h1] at ef
   have hpr:=bK h1;have hwa:IM.wrap (a+s.2.1[i].2.2.2)=a+s.2.1[i].2.2.2:=ak (by omega) (by omega);refine⟨?_,fun _=>by omega⟩
   by_cases h0:0<i
   ·have hw2:IM.wrap ((i:Int) - 1)=((i - 1:Nat):Int):=by rw [ak (by omega) (by omega)];omega
    have hy:i - 1<s.2.1.length:=by omega
    by_cases h2:s.2.1[i].1≤s.2.1[i - 1].1<;>simp -implicitDefEqProofs [hi,hy,ef,h1,pS,hw,hw2,hwa,h0,h2]
   ·simp -implicitDefEqProofs [hi,ef,h1,pS,hw,hwa,h0]
 ·simp -implicitDefEqProofs
 ·unfold aT
  cases ha:dq (pS s) 0 s.2.1
  ·simp -implicitDefEqProofs
  have hS:0≤qs s.2.1:=by
   have key:∀(l:List Fm) (i:Nat) (a:Int),0≤a→dq (pS s) i l=true→0≤l.foldl (fun a x=>a+x.2.2.2) a:=by
    intro l;induction l with
    | nil=>intro i a ha _;exact ha
    | cons x l ih =>
     intro i a h0 hp;simp only [dq,Jj] at hp;have:=bK (l:=s.1) (x:=x) (by
      have:=hp.1;simp only [pS,Jj] at this;exact this.1)
     exact ih (i+1) _ (show(0:Int)≤a+x.2.2.2 by omega) hp.2
   exact key s.2.1 0 0 (by omega) ha
  unfold qs at hS ⊢;generalize List.foldl (fun a (x:Fm)=>a+x.2.2.2) 0 s.2.1=S at hS;by_cases h5:s.2.1.length≤5
  case neg=>simp -implicitDefEqProofs [dj s.1 h.1,hg,h5,show ¬(s.2.1.length:Int)≤5 by omega]
  have h5':(s.2.1.length:Int)≤5:=by omega
  by_cases h6:0≤s.2.2.1∧s.2.2.1≤9999
  case neg=>simp -implicitDefEqProofs [dj s.1 h.1,bG,hg,h5,h5',h6]
  by_cases h7:0≤s.2.2.2∧s.2.2.2≤1000000
  case neg =>
   have h8:¬(S≤s.2.2.2∧s.2.2.2≤1000000):=by omega
   simp -implicitDefEqProofs [dj s.1 h.1,bG,hg,h5,h5',h6,h7,h8]
  by_cases h8:S≤s.2.2.2<;>simp -implicitDefEqProofs [dj s.1 h.1,bG,hg,h5,h5',h6,h7,h8]
theorem yo (x:Bx):iL [bx x,bx x]=some (.ret [B true] []):=by
 rw [yV];simp -implicitDefEqProofs
theorem vO (l:List Bx) (h:l.length≤1048577):gX [bxs l,bxs l]=some (.ret [B true] []):=by
 rw [wC];simp only [cd,IV,IW,mZ,decide_true,Jp,tW,Jh,if_false];refine aO _ (cg l.length (fun i=>[bxs l,bxs l,I i]) (.ext 0 []) (fun i hi=>?_) ?_ rfl rfl) ?_
 ·have hw:IM.wrap ((i:Int)+1)=(i:Int)+1:=ak (by omega) (by omega)
  simp -implicitDefEqProofs [hi,yo,hw]
 ·simp
 ·simp
theorem rB (l:List ByteArray) (h:l.length≤1048577):eV [txs l,txs l]=some (.ret [B true] []):=by
 rw [rO];simp only [cd,IV,IW,mZ,decide_true,Jp,tW,Jh,if_false];refine aO _ (cg l.length (fun i=>[txs l,txs l,I i]) (.ext 0 []) (fun i hi=>?_) ?_ rfl rfl) ?_
 ·have hw:IM.wrap ((i:Int)+1)=(i:Int)+1:=ak (by omega) (by omega)
  simp -implicitDefEqProofs [hi,hw]
 ·simp
 ·simp
theorem tV (x:Fm) (h:x.2.1.length≤1048577):gr [fm x,fm x]=some (.ret [B true] []):=by
 rw [tX];simp -implicitDefEqProofs [rB x.2.1 h]
theorem sR (l:List Fm) (h:BZ l):fH [fms l,fms l]=some (.ret [B true] []):=by
 rw [sM];have hl:=h.1;simp only [cd,IV,IW,mZ,decide_true,Jp,tW,Jh,if_false];refine aO _ (cg l.length (fun i=>[fms l,fms l,I i]) (.ext 0 []) (fun i hi=>?_) ?_ rfl rfl) ?_
 ·have hw:IM.wrap ((i:Int)+1)=(i:Int)+1:=ak (by omega) (by omega)
  have ef:=tV l[i] (Nat.le_trans (h.2 _ (IX hi)) (by omega));simp -implicitDefEqProofs [hi,ef,hw]
 ·simp
 ·simp
theorem xi (s:Sp) (h:cr s):kh [sp s,sp s]=some (.ret [B true] []):=by
 rw [vZ];have:=h.1.1;simp -implicitDefEqProofs [vO s.1 (by omega),sR s.2.1 h.2]
theorem yM (x:Bx):iJ [bx x]=some (.ret [bx x] []):=by
 rw [ym];simp -implicitDefEqProofs
theorem wW (l:List Bx) (h:l.length≤1048576):kj [bxs l]=some (.ret [bxs l] []):=by
 rw [xh];have h1:l.length*40≤140737488355328:=by omega
 have h2:l.length≤140737488355328:=by omega
 simp only [cd,IV,IW,uB,Jv,h1,h2,and_self,if_true];rw [oT (f:=bx) (l:=l)];refine aO (.ext 0 [bxs l]) (cg l.length (fun i=>[bxs l,.arr 4 (je bx (bx (⟨#[]⟩,0,0,0)) l i),I i]) _ (fun i hi=>?_) ?_ rfl rfl) ?_
 ·have hx:=Jd hi
  have hg:=rh (f:=bx) (z:=bx (⟨#[]⟩,0,0,0)) hi;have hs:=rl (f:=bx) (z:=bx (⟨#[]⟩,0,0,0)) hx;have hw:IM.wrap ((i:Int)+1)=(i:Int)+1:=ak (by omega) (by omega);simp -implicitDefEqProofs [hi,yM,Je hi,CB hg,hs,hw]
 ·simp [oG]
 ·simp
theorem rL (l:List ByteArray) (h:l.length≤1048576):gN [txs l]=some (.ret [txs l] []):=by
 rw [rD];have h1:l.length*16≤140737488355328:=by omega
 have h2:l.length≤140737488355328:=by omega
 simp only [cd,IV,IW,uB,Jv,h1,h2,and_self,if_true];rw [oT (f:=T) (l:=l)];refine aO (.ext 0 [txs l]) (cg l.length (fun i=>[txs l,.arr 1 (je T (T ⟨#[]⟩) l i),I i]) _ (fun i hi=>?_) ?_ rfl rfl) ?_
 ·have hx:=Jd hi
  have hg:=rh (f:=T) (z:=T ⟨#[]⟩) hi;have hs:=rl (f:=T) (z:=T ⟨#[]⟩) hx;have hw:IM.wrap ((i:Int)+1)=(i:Int)+1:=ak (by omega) (by omega);simp -implicitDefEqProofs [hi,Je hi,zN hg,hs,hw]
 ·simp [oG]
 ·simp
theorem yk (x:Bx) (n:Int) (h:x.1.size≤9223372036854775807) (h0:0≤n) (h1:n≤1048576):∃m,iP [bx x,I n]=some (.ret [I m] [])∧m≤n∧(0≤m→x.1.size≤1048576):=by
 rw [yi];have hw:IM.wrap (n - x.1.size)=n - x.1.size:=ak (by omega) (by omega);by_cases hn:n - (x.1.size:Int)<0
 ·exact⟨-1,by simp -implicitDefEqProofs [hw,hn],by omega,by omega⟩
 ·exact⟨n - x.1.size,by simp -implicitDefEqProofs [hw,hn],by omega,by omega⟩
theorem nF (l:List Bx) (n:Int) (h:l.length≤9223372036854775807∧∀x∈l,x.1.size≤9223372036854775807) (h0:0≤n) (h1:n≤1048576):∃m,gS [bxs l,I n]=some (.ret [I m] [])∧m≤n∧(0≤m→mu l):=by
 have hl:=h.1;rw [xj];have hw:IM.wrap (n - l.length)=n - l.length:=ak (by omega) (by omega);by_cases hn:n - (l.length:Int)<0
 ·exact⟨-1,by simp -implicitDefEqProofs [hw,hn],by omega,by omega⟩
 simp -implicitDefEqProofs [hw,hn];refine qz (R:=fun X=>∃m,X=some (.ret [I m] [])∧m≤n∧(0≤m→mu l)) l (fun i m=>[bxs l,I m,I i]) (fun x=>x.1.size≤1048576) (fun i hi m g0 g1=>?_) (fun m=>?_) (n - l.length) (by omega) (by omega) rfl ?_ (fun m g0 g1 gP=>?_)
 ·have hwi:IM.wrap ((i:Int)+1)=(i:Int)+1:=ak (by omega) (by omega)
  obtain⟨m',e,k1,k2⟩:=yk l[i] m (h.2 _ (IX hi)) g0 g1;by_cases hm:m'<0
  ·exact .inl (by simp -implicitDefEqProofs [hi,e,hm])
  ·exact .inr ⟨m',by simp -implicitDefEqProofs [hi,e,hm,hwi],by omega,k1,k2 (by omega)⟩
 ·simp -implicitDefEqProofs
 ·exact⟨-1,by simp -implicitDefEqProofs,by omega,by omega⟩
 ·exact⟨m,by simp -implicitDefEqProofs,by omega,fun _=>⟨by omega,gP⟩⟩
theorem rG (l:List ByteArray) (n:Int) (h:l.length≤9223372036854775807∧∀x∈l,x.size≤9223372036854775807) (h0:0≤n) (h1:n≤1048576):∃m,dA [txs l,I n]=some (.ret [I m] [])∧m≤n∧(0≤m→l.length≤1048576):=by
 have hl:=h.1;rw [kx];have hw:IM.wrap (n - l.length)=n - l.length:=ak (by omega) (by omega);by_cases hn:n - (l.length:Int)<0
 ·exact⟨-1,by simp -implicitDefEqProofs [hw,hn],by omega,by omega⟩
 simp -implicitDefEqProofs [hw,hn];refine qz (R:=fun X=>∃m,X=some (.ret [I m] [])∧m≤n∧(0≤m→l.length≤1048576)) l (fun i m=>[txs l,I m,I i]) (fun _=>True) (fun i hi m g0 g1=>?_) (fun m=>?_) (n - l.length) (by omega) (by omega) rfl ?_ (fun m g0 g1 gP=>?_)
 ·have hwi:IM.wrap ((i:Int)+1)=(i:Int)+1:=ak (by omega) (by omega)
  have hs:=h.2 l[i] (IX hi);have hwm:IM.wrap (m - l[i].size)=m - l[i].size:=ak (by omega) (by omega);by_cases hm:m - (l[i].size:Int)<0
  ·exact .inl (by simp -implicitDefEqProofs [hi,hwm,hm])
  ·exact .inr ⟨m - l[i].size,by simp -implicitDefEqProofs [hi,hwm,hm,hwi],by omega,by omega,trivial⟩
 ·simp -implicitDefEqProofs
 ·exact⟨-1,by simp -implicitDefEqProofs,by omega,by omega⟩
 ·exact⟨m,by simp -implicitDefEqProofs,by omega,fun _=>by omega⟩
theorem uc (x:Fm) (n:Int) (h:x.2.1.length≤9223372036854775807∧∀c∈x.2.1,c.size≤9223372036854775807) (h0:0≤n) (h1:n≤1048576):∃m,eR [fm x,I n]=some (.ret [I m] [])∧m≤n∧(0≤m→x.2.1.length≤1048576):=by
 rw [mr];obtain⟨m,e,k1,k2⟩:=rG x.2.1 n h h0 h1;by_cases hm:m<0
 ·exact⟨-1,by simp -implicitDefEqProofs [e,hm],by omega,by omega⟩
 ·exact⟨m,by simp -implicitDefEqProofs [e,hm],k1,k2⟩
theorem sP (l:List Fm) (n:Int) (h:l.length≤9223372036854775807∧∀x∈l,x.2.1.length≤9223372036854775807∧∀c∈x.2.1,c.size≤9223372036854775807) (h0:0≤n) (h1:n≤1048576):∃m,dY [fms l,I n]=some (.ret [I m] [])∧m≤n∧(0≤m→BZ l):=by
 have hl:=h.1;rw [lH];have hw:IM.wrap (n - l.length)=n - l.length:=ak (by omega) (by omega);by_cases hn:n - (l.length:Int)<0
 ·exact⟨-1,by simp -implicitDefEqProofs [hw,hn],by omega,by omega⟩
 simp -implicitDefEqProofs [hw,hn];refine qz (R:=fun X=>∃m,X=some (.ret [I m] [])∧m≤n∧(0≤m→BZ l)) l (fun i m=>[fms l,I m,I i]) (fun x=>x.2.1.length≤1048576) (fun i hi m g0 g1=>?_) (fun m=>?_) (n - l.length) (by omega) (by omega) rfl ?_ (fun m g0 g1 gP=>?_)
 ·have hwi:IM.wrap ((i:Int)+1)=(i:Int)+1:=ak (by omega) (by omega)
  obtain⟨m',e,k1,k2⟩:=uc l[i] m (h.2 _ (IX hi)) g0 g1;by_cases hm:m'<0
  ·exact .inl (by simp -implicitDefEqProofs [hi,e,hm])
  ·exact .inr ⟨m',by simp -implicitDefEqProofs [hi,e,hm,hwi],by omega,k1,k2 (by omega)⟩
 ·simp -implicitDefEqProofs
 ·exact⟨-1,by simp -implicitDefEqProofs,by omega,by omega⟩
 ·exact⟨m,by simp -implicitDefEqProofs,by omega,fun _=>⟨by omega,gP⟩⟩
theorem xg (s:Sp) (h:DI s):∃m,fj [sp s,I 1048576]=some (.ret [I m] [])∧m≤1048576∧(0≤m→cr s):=by
 rw [nC];obtain⟨m1,e1,k1,k2⟩:=nF s.1 1048576 h.1 (by omega) (by omega);by_cases h1:m1<0
 ·exact⟨-1,by simp -implicitDefEqProofs [e1,h1],by omega,by omega⟩
 obtain⟨m2,e2,g1,g2⟩:=sP s.2.1 m1 h.2 (by omega) k1;by_cases h2:m2<0
 ·exact⟨-1,by simp -implicitDefEqProofs [e1,h1,e2,h2],by omega,by omega⟩
 ·exact⟨m2,by simp -implicitDefEqProofs [e1,h1,e2,h2],by omega,fun h=>⟨k2 (by omega),g2 h⟩⟩
open Go Go.Proofs Go.V Go.RowKit
def dn (x:Fm) (y:Value):List Value:=[.int .i64 x.1,y,.bool x.2.2.1,.int .i64 x.2.2.2]
def aV:List Fm→List Value→List Value
 | x::l,y::ys=>dn x y++aV l ys
 | _,_=>[]
theorem bB:∀(l:List Fm) (ys:List Value),ys.length=l.length→(aV l ys).length=l.length*4
 | [],[],_=>rfl
 | x::l,y::ys,h=>by
  simp only [aV,List.length_append,bB l ys (by simpa using h),dn,JY,Ka];omega
 | [],_::_,h=>by simp at h
 | _::_,[],h=>by simp at h
theorem aD:∀(l:List Fm) (ys:List Value) (i:Nat) (x:Fm) (y:Value),l[i]?=some x→ys[i]?=some y→∀f,f<4→(aV l ys)[i*4+f]?=(dn x y)[f]?
 | a::l,b::ys,0,x,y,h1,h2,f,hf=>by
  simp only [Jn,Ji] at h1 h2;subst h1 h2;simp only [aV];rw [Nat.zero_mul,JC,List.getElem?_append_left (by simpa [dn] using hf)]
 | a::l,b::ys,i+1,x,y,h1,h2,f,hf=>by
  simp only [Jg] at h1 h2;simp only [aV];rw [show(i+1)*4+f=4+(i*4+f) by omega,Ja (by simp [dn])];simp only [dn,JY,Ka];rw [show 4+(i*4+f) - (0+1+1+1+1)=i*4+f by omega];exact aD l ys i x y h1 h2 f hf
 | [],_,_,_,_,h1,_,_,_=>by simp at h1
 | _::_,[],_,_,_,_,h2,_,_=>by simp at h2
theorem xJ:∀(l:List Fm) (ys:List Value) (i:Nat) (x x':Fm) (y:Value),l[i]?=some x→ys[i]?=some y→aV (l.set i x') ys=(((aV l ys).set (i*4) (.int .i64 x'.1)).set (i*4+2) (.bool x'.2.2.1)).set (i*4+3) (.int .i64 x'.2.2.2)
 | a::l,b::ys,0,x,x',y,h1,h2=>by
  simp [aV,dn]
 | a::l,b::ys,i+1,x,x',y,h1,h2=>by
  simp only [Jg] at h1 h2;have ih:=xJ l ys i x x' y h1 h2;simp only [aV,JT,dn,Jq,JI];rw [ih];have e0:(i+1)*4=i*4+4:=by omega
  simp [e0,Nat.add_assoc,JT]
 | [],_,_,_,_,_,h1,_=>by simp at h1
 | _::_,[],_,_,_,_,_,h2=>by simp at h2
theorem bO {w:World} {base e size n:Nat} {v:Value} {xs:List Value} (h:w.ownsRow base e size v n xs) {g cap:Nat} (hv:v = .slice (some ⟨g,0,none⟩) n cap) (j:Nat) (u:Value):(w.setCell ⟨g,j,none⟩ u).ownsRow base e size v n (xs.set j u):=by
 obtain⟨h1,⟨hn,_⟩ | ⟨g',cap',cur,hg',h2,h3,h4,h5,h6,h7⟩⟩:=h
 ·rw [hn] at hv
  cases hv
 ·have e1:=hg'.symm.trans hv
  simp only [JW,Ji,Addr.mk.injEq,and_true,true_and] at e1;obtain⟨rfl,rfl⟩:=e1;refine⟨by rw [List.length_set];exact h1,.inr ⟨g',cap',cur.setIfInBounds j u,hg',h2,heap_setCell_same _ _ _ _ _ _ h3,h4,h5,by rw [Array.size_setIfInBounds];exact h6,?_⟩⟩
  rw [Array.toList_setIfInBounds,List.take_set,h7]
structure FmsAt (w:World) (B:Nat) (V:Value) (ys:List Value) (l:List Fm):Prop where
 len:ys.length=l.length
 own:w.ownsRow B 63 4 V l.length (aV l ys)
 row:∀(i:Nat) (x:Fm) (y:Value),l[i]?=some x→ys[i]?=some y→aW w (fun _=>False) (fun b=>y.ownBlock=some b) 1 (txs x.2.1) y
 blk:∀(i:Nat) (y:Value) (b:Nat),ys[i]?=some y→y.ownBlock=some b→B≤b∧V.ownBlock≠some b
 dis:∀(i j:Nat) (y z:Value),i≠j→ys[i]?=some y→ys[j]?=some z→y.ownBlock=none∨y.ownBlock≠z.ownBlock
end Go.Proofs.Ytankikbbdfgkbaa

namespace Go.Proofs.Ytankikbbdfgkbaa
open Go Go.V
theorem HK {l:List Fm} {i:Nat} (h:i<l.length):bg 4 (fms l) (I (i:Int))=some [I l[i].1,txs l[i].2.1,B l[i].2.2.1,I l[i].2.2.2]:=by
 rw [De (by omega)];simp [h,D.cells]
theorem xZ {a b:ByteArray} (h:a.size+b.size≤1000000000000):bin .add false [] (T a) (T b)=some (T (a++b)):=by
 rw [EN,if_pos (by omega)]
theorem HT (k:Int):bin .rem false [] (I k) (I 10)=some (I (k.tmod 10)):=by simp [bin,eQ]
theorem HU (k:Int):bin .quo false [] (I k) (I 10)=some (I (IM.wrap (k.tdiv 10))):=by simp [bin,eQ]
theorem Gz (n:Int):xA (some .u8) false (I n)=some (U (Jk.wrap n)):=by simp [xA]
theorem Hn (n:Int):dF 1 [U n]=some (.arr 1 [U n]):=by simp [dF,oF]
theorem Ho (n:Int):yA (.arr 1 [U n])=some (T ⟨#[JK n.toNat]⟩):=by simp [yA,kR]
theorem xO (k:Int) (h1:0<k) (h2:k≤100000000000):∃s,bY [I k]=some (.ret [T s] []):=by
 rw [sY];have hk:¬k≤0:=by omega
 simp -implicitDefEqProofs only [GC,JF,JG,JH,hk];refine lp (fun r=>∃s,r=some (.ret [T s] [])) (fun a:Int × ByteArray=>[I a.1,T a.2]) (fun a=>0≤a.1∧a.1≤100000000000∧(a.2.size:Int)+a.1≤100000000000) (fun a=>a.1.toNat)
  (fun o=>∃s:ByteArray,o = .ext 0 [T s]∧s.size≤100000000000) (fun a ha=>?_) (k,⟨⟨[]⟩⟩) ⟨by omega,h2,by show(0:Int)+k≤_;omega⟩ rfl (fun o ho=>?_)
 ·obtain⟨n,out⟩:=a
  obtain⟨a1,a2,a3⟩:=ha;simp only at a1 a2 a3;by_cases hn:0<n
  ·left
   have ed:n.tdiv 10=n / 10:=Int.tdiv_eq_ediv_of_nonneg a1;have em:n.tmod 10=n % 10:=Int.tmod_eq_emod_of_nonneg a1;have w1:IM.wrap (n.tdiv 10)=n / 10:=by rw [ed,ak (by omega) (by omega)]
   have w2:IM.wrap (48+n.tmod 10)=48+n % 10:=by rw [em,ak (by omega) (by omega)]
   have hsz:(ByteArray.mk #[JK (Jk.wrap (48+n % 10)).toNat]).size=1:=rfl;have ha:=xZ (a:=⟨#[JK (Jk.wrap (48+n % 10)).toNat]⟩) (b:=out) (by rw [hsz];omega);refine⟨(n / 10,⟨#[JK (Jk.wrap (48+n % 10)).toNat]⟩++out),?_,⟨by show 0≤n / 10;omega,by show n / 10≤_;omega,?_⟩,?_⟩
   ·simp -implicitDefEqProofs only [GC,JF,JG,JH,hn,HT,w2,Gz,Hn,Ho,ha,HU,w1]
   ·show((_++out:ByteArray).size:Int)+n / 10≤_
    rw [ByteArray.size_append,hsz];omega
   ·show(n / 10).toNat<n.toNat
    omega
  ·right
   exact⟨.ext 0 [T out],by simp -implicitDefEqProofs only [GC,JF,JG,JH,hn],rfl,out,rfl,by omega⟩
 ·obtain⟨s,rfl,hs⟩:=ho
  have ha:=xZ (a:=⟨⟨[109]⟩⟩) (b:=s) (by show 1+s.size≤_;omega);exact⟨⟨⟨[109]⟩⟩++s,by simp -implicitDefEqProofs only [GC,JF,JG,JH,ha]⟩
def mtx (k:Int):ByteArray:=if h:0<k∧k≤100000000000 then JD (xO k h.1 h.2) else⟨#[]⟩
theorem ji (k:Int) (h1:0<k) (h2:k≤100000000000):bY [I k]=some (.ret [T (mtx k)] []):=by
 unfold mtx;rw [dif_pos ⟨h1,h2⟩];exact JM (xO k h1 h2)
def yP (k:Int) (n:Nat):List ByteArray:=(JP n).map fun(j:Nat)=>mtx (k+j)
theorem oE (l:List ByteArray) (k:Int) (h:l.length≤1048577) (h1:0<k) (h2:k≤10000000000):fL [txs l,I k]=some (.ret [I (k+l.length)] [txs (yP k l.length)]):=by
 rw [py];refine aO _ (cg l.length (fun i=>[.arr 1 (gC (fun(j:Nat)=>T (mtx (k+(j:Int)))) T l i),I (k+i),I i]) (.ext 0 [txs (yP k l.length),I (k+l.length)]) (fun i hi=>?_) ?_ rfl ?_) ?_
 ·have hw:IM.wrap ((i:Int)+1)=(i:Int)+1:=ak (by omega) (by omega)
  have w1:IM.wrap (k+(i:Int)+1)=k+(i+1):=by rw [ak (by omega) (by omega)];omega
  have hm:=ji (k+i) (by omega) (by omega);have hg:=rK (g:=fun(j:Nat)=>T (mtx (k+(j:Int)))) (f:=T) hi;have hs:=rF (g:=fun(j:Nat)=>T (mtx (k+(j:Int)))) (f:=T) hi;have hl:=kT (g:=fun(j:Nat)=>T (mtx (k+(j:Int)))) (f:=T) (Je hi);generalize gC (fun(j:Nat)=>T (mtx (k+(j:Int)))) T l i=L at *;have s1:=zN (z:=1) (v:=.string (mtx (k+i))) hg;simp [hi,hl,hw,w1,hm,s1];exact hs
 ·simp [pA,yP]
 ·simp [oN (g:=fun(j:Nat)=>T (mtx (k+(j:Int)))) (f:=T)]
 ·simp
def yT (k:Int) (j:Nat):Bx:=(mtx (k+4*j),k+4*j+1,k+4*j+2,k+4*j+3)
def yq (k:Int) (n:Nat):List Bx:=(JP n).map (yT k)
theorem sC (l:List Bx) (k:Int) (h:l.length≤1048577) (h1:0<k) (h2:k≤1000000000):iz [bxs l,I k]=some (.ret [I (k+4*l.length)] [bxs (yq k l.length)]):=by
 rw [sS];refine aO _ (cg l.length (fun i=>[.arr 4 (gC (fun j=>bx (yT k j)) bx l i),I (k+4*i),I i]) (.ext 0 [bxs (yq k l.length),I (k+4*l.length)]) (fun i hi=>?_) ?_ rfl ?_) ?_
 ·have hw:IM.wrap ((i:Int)+1)=(i:Int)+1:=ak (by omega) (by omega)
  have w1:IM.wrap (k+4*(i:Int)+1)=k+4*i+1:=ak (by omega) (by omega);have w2:IM.wrap (k+4*(i:Int)+1+1)=k+4*i+2:=by rw [ak (by omega) (by omega)];omega
  have w3:IM.wrap (k+4*(i:Int)+2+1)=k+4*i+3:=by rw [ak (by omega) (by omega)];omega
  have w4:IM.wrap (k+4*(i:Int)+3+1)=k+4*(i+1):=by rw [ak (by omega) (by omega)];omega
  have hm:=ji (k+4*i) (by omega) (by omega);have hg:=rK (g:=fun j=>bx (yT k j)) (f:=bx) hi;have hs:=rF (g:=fun j=>bx (yT k j)) (f:=bx) hi;have hl:=kT (g:=fun j=>bx (yT k j)) (f:=bx) (Je hi);generalize gC (fun j=>bx (yT k j)) bx l i=L at *;have s1:=gd (z:=4) (f:=0) (v:=.string (mtx (k+4*i))) hg (by simp);have s2:=gd (z:=4) (L:=L.set i (.agg [T (mtx (k+4*i)),I l[i].2.1,I l[i].2.2.1,I l[i].2.2.2])) (i:=i) (f:=1) (v:=.int .i64 (k+4*i+1)) (c:=[T (mtx (k+4*i)),I l[i].2.1,I l[i].2.2.1,I l[i].2.2.2]) (by simp [hl,hi]) (by simp);have s3:=gd (z:=4) (L:=L.set i (.agg [T (mtx (k+4*i)),I (k+4*i+1),I l[i].2.2.1,I l[i].2.2.2])) (i:=i) (f:=2) (v:=.int .i64 (k+4*i+2)) (c:=[T (mtx (k+4*i)),I (k+4*i+1),I l[i].2.2.1,I l[i].2.2.2]) (by simp [hl,hi]) (by simp);have s4:=gd (z:=4) (L:=L.set i (.agg [T (mtx (k+4*i)),I (k+4*i+1),I (k+4*i+2),I l[i].2.2.2])) (i:=i) (f:=3) (v:=.int .i64 (k+4*i+3)) (c:=[T (mtx (k+4*i)),I (k+4*i+1),I (k+4*i+2),I l[i].2.2.2]) (by simp [hl,hi]) (by simp);simp only [sn,Ke,JI,List.length_singleton,JC,JQ,JN,List.singleton_append,List.take_succ_cons,Jq,Nat.reduceAdd,List.set_set,List.drop_nil] at s1 s2 s3 s4;simp [hi,hl,hw,hm,w1,w2,w3,w4,s1,s2,s3,s4];exact hs
 ·simp [pA,yq,yT]
 ·simp [oN (g:=fun j=>bx (yT k j)) (f:=bx)]
 ·simp
end Go.Proofs.Ytankikbbdfgkbaa

namespace Go.V
open Go.RowKit
section
variable {P:Program} {G:List (Nat × (Obj→Prop))}
theorem ub {f:FuncId} {S:FS} (he:∀args w,(callFunc f args).run P w = .ok (.enter f args) w)
  (h:∀ds rs us,S.f ds=some (.ret rs us)→∀(args:Array Value) (w:World) (F:Nat→Prop) (ow:Nat→Option Nat),gOk G w F→dP w F ow 0 S.pm ds args.toList→(∀b,F b→b<w.heap.size∧ow b=none)→(∀b i,ow b=some i→b<w.heap.size) →
   Calls P f args w fun e w'=>∃v,e = .returned v∧∃F' R vs,v=lT vs∧CallPost S args rs us w F ow F' R vs w'):aF G P f S:=by
 intro ds rs us hd args w F ow hg ha hF hO o a next Q hn
 rw [he,Kb];refine Calls.mono (h ds rs us hd args w F ow hg ha hF hO) (fun e w' hv=>?_)
 obtain⟨v,rfl,F',R,vs,h1,h2⟩:=hv;exact hn v w' ⟨F',R,vs,h1,h2⟩
theorem yb {w:World} {F:Nat→Prop}:∀(ks:List Kd) (ys:List Value),(ks.all fun k=>!mq k)=true→ks.length=ys.length→kJ w F ks [] ys
 | [],[],_,_=>trivial
 | k::ks,y::ys,h,hl=>by
  simp only [List.all_cons,Jj,JV] at h;simp only [kJ,h.1];exact yb ks ys h.2 (by simpa using hl)
 | [],_::_,_,hl=>by cases hl
 | _::_,[],_,hl=>by cases hl
theorem ul {w:World} {F:Nat→Prop} {ow:Nat→Option Nat}:∀(ks:List Kd) (ds:List D) (ys:List Value) (i:Nat),dP w F ow i ks ds ys→ds.length=ks.length∧ys.length=ks.length
 | [],[],[],_,_=>⟨rfl,rfl⟩
 | k::ks,d::ds,y::ys,i,h=>by
  obtain⟨h1,h2⟩:=ul ks ds ys (i+1) h.2;exact⟨by simp [h1],by simp [h2]⟩
 | [],_::_,_,_,h=>h.elim
 | [],[],_::_,_,h=>h.elim
 | _::_,[],_,_,h=>by cases ‹List Value›<;>exact h.elim
 | _::_,_::_,[],_,h=>h.elim
theorem DW {w:World} {F:Nat→Prop} {ow:Nat→Option Nat} {k k':Kd} {ds:List D} {l:List Value} (h:dP w F ow 0 [k,k'] ds l) :
  ∃d y d' y',ds=[d,d']∧l=[y,y']∧cE w F (fun g=>ow g=some 0) k d y∧cE w F (fun g=>ow g=some 1) k' d' y':=by
 obtain⟨h1,h2⟩:=ul _ _ _ _ h
 match ds,l,h1,h2,h with
 | [d,d'],[y,y'],_,_,h=>exact⟨d,y,d',y',rfl,rfl,h.1,h.2.1⟩
theorem Ey {S:FS} {args:Array Value} {rs:List D} {vs:List Value} {w w':World} {F:Nat→Prop} {ow:Nat→Option Nat} (R:Nat→Option Nat) (hB:Below w.heap.size w w') (hF:∀b,F b→b<w.heap.size∧ow b=none)
  (hR:∀b j,R b=some j→w.heap.size≤b∧b<w'.heap.size) (hio:(S.pm.all fun k=>!mq k)=true) (hl:S.pm.length=args.size) (h1:vs.length=S.rm.length) (h2:rs.length=S.rm.length)
  (hres:∀j,AM w' F w.heap.size (fun g=>R g=some j) (al S.rm j) (nth rs j) (vs.getD j undef)):CallPost S args rs [] w F ow F R vs w' :=
 ⟨hB.os,hB.tape,hB.output,hB.size,fun b hb _=>hB.block b hb,fun _ h=>h,fun b hb=>⟨.inl hb,Jy (hF b hb).1 hB.size,by
  cases h:R b with
  | none=>rfl
  | some j=>exact absurd (hR b j h).1 (Nat.not_le.2 (hF b hb).1)⟩,hR,h1,h2,hres,yb _ _ hio (by simpa using hl)⟩
theorem DH {S:FS} {args:Array Value} {w w':World} {F:Nat→Prop} {ow:Nat→Option Nat} (hB:Below w.heap.size w w') (hF:∀b,F b→b<w.heap.size∧ow b=none) (hio:(S.pm.all fun k=>!mq k)=true) (hl:S.pm.length=args.size)
  (rs:List D) (vs:List Value) (hrm:S.rm=rs.map fun _=>.dat 0) (hv:vs.length=rs.length) (h:∀(j:Nat) (d:D),rs[j]?=some d→∃y:Value,vs[j]?=some y∧aM w' (fun _=>False) d y):CallPost S args rs [] w F ow F (fun _=>none) vs w':=by
 refine Ey _ hB hF (fun b j h=>by cases h) hio hl (by rw [hrm,hv];simp) (by rw [hrm];simp) (fun j=>?_)
 rw [eE,Jz];cases hj:rs[j]? with
 | none=>exact .inl rfl
 | some d =>
  obtain⟨y,h1,h2⟩:=h j d hj;have hk:al S.rm j = .dat 0:=by
   rw [hrm];clear hrm h hv h1 h2;induction rs generalizing j with
   | nil=>simp at hj
   | cons r rs ih =>
    cases j with
    | zero=>rfl
    | succ j=>exact ih j (by simpa using hj)
  refine .inr ?_
  rw [hk,Jz,h1];exact aG (fun b hb=>hb.elim) (fun _ _=>rfl) h2
end
end Go.V

namespace Go.Proofs.Ytankikbbdfgkbaa
open Go Go.Proofs Go.V Go.RowKit
theorem cW {P:Program} {G:List (Nat × (Obj→Prop))} {f:FuncId} {S:FS} (he:∀args w,(callFunc f args).run P w = .ok (.enter f args) w) (hm:aF G P f S) {ds rs us:List D} (hd:S.f ds=some (.ret rs us)) {args:Array Value} {w:World} {F:Nat→Prop} {ow:Nat→Option Nat}
  (hgl:gOk G w F) (ha:dP w F ow 0 S.pm ds args.toList) (hF:∀b,F b→b<w.heap.size∧ow b=none) (hO:∀b i,ow b=some i→b<w.heap.size) :
  Calls P f args w fun e w'=>∃v,e = .returned v∧∃F' R vs,v=lT vs∧CallPost S args rs us w F ow F' R vs w':=by
 have h2:=hm ds rs us hd args w F ow hgl ha hF hO {(default:Oper) with dst:=some 0} {tmps:=#[undef],defers:=[]} (fun a w'=>∃F' R vs,a.tmps.getD 0 undef=lT vs∧CallPost S args rs us w F ow F' R vs w') (fun _ _ _=>False) (fun v w' h=>by
  obtain⟨F',R,vs,rfl,h⟩:=h;exact⟨F',R,vs,by simp [Act.put],h⟩)
 rw [he,Kb] at h2;refine Calls.mono h2 fun e w' he=>?_
 cases e with
 | returned v =>
  obtain⟨F',R,vs,h3,h4⟩:=he;exact⟨v,rfl,F',R,vs,by simpa [Act.put] using h3,h4⟩
 | panicked c=>exact he.elim
 | outgrown=>obtain⟨_,_,h⟩:=he;exact h.elim
theorem ic {P:Program} {G:List (Nat × (Obj→Prop))} {f:FuncId} {S:FS} (he:∀args w,(callFunc f args).run P w = .ok (.enter f args) w) (hm:aF G P f S) {ds:List D} {y:Value} (f':List D→Option Out) (hf':S.f=f') (hd:f' ds=some (.ret [.v y] [])) (hrm:S.rm=[.dat 0]) {args:Array Value} {w:World} {F:Nat→Prop}
  (hgl:gOk G w F) (ha:dP w F (fun _=>none) 0 S.pm ds args.toList) (hF:∀b,F b→b<w.heap.size):Calls P f args w fun e w'=>e = .returned y∧Below w.heap.size w w':=by
 refine(cW he hm (hf' ▸ hd) hgl ha (fun b hb=>⟨hF b hb,rfl⟩) (fun b i h=>by cases h)).mono ?_
 rintro e w' ⟨v,rfl,F',R,vs,rfl,hpost⟩;have hl:=hpost.len;rw [hrm] at hl;obtain⟨u,rfl⟩:=Jo.1 hl;have h0:=hpost.res 0;rw [hrm] at h0;simp only [al,nth,JR] at h0;rcases h0 with h0 | h0
 ·cases h0
 exact⟨by rw [lT,(ek.1 h0).1],⟨hpost.os,hpost.tape,hpost.output,hpost.size,fun b hb=>hpost.keep b hb rfl⟩⟩
structure KeptX (S:Nat→Prop) (w w':World):Prop where
 os:w'.os=w.os
 tape:w'.tape=w.tape
 output:w'.output=w.output
 size:w.heap.size≤w'.heap.size
 block:∀b,b<w.heap.size→¬S b→w'.heap[b]?=w.heap[b]?
theorem KeptX.trans {S:Nat→Prop} {a b c:World} (h:KeptX S a b) (k:KeptX S b c):KeptX S a c :=
 ⟨k.os.trans h.os,k.tape.trans h.tape,k.output.trans h.output,Nat.le_trans h.size k.size,fun i hi hs=>(k.block i (Jy hi h.size) hs).trans (h.block i hi hs)⟩
theorem KeptX.refl (S:Nat→Prop) (w:World):KeptX S w w:=⟨rfl,rfl,rfl,Jv _,fun _ _ _=>rfl⟩
theorem KeptX.mono {S T:Nat→Prop} {w w':World} (h:KeptX S w w') (hst:∀b,S b→T b):KeptX T w w':=⟨h.os,h.tape,h.output,h.size,fun b hb ht=>h.block b hb fun hs=>ht (hst b hs)⟩
theorem KeptX.set {S:Nat→Prop} {w w':World} (h:KeptX S w w') (a:Addr) (v:Value) (ha:S a.block):KeptX S w (w'.setCell a v) :=
 h.trans ⟨rfl,rfl,rfl,by simp [JA],fun b _ hs=>heap_setCell_other _ _ _ _ fun e=>hs (e ▸ ha)⟩
theorem KeptX.below {S:Nat→Prop} {w w':World} {B:Nat} (h:KeptX S w w') (hb:∀b,S b→B≤b) (hs:B≤w.heap.size):Below B w w':=⟨h.os,h.tape,h.output,h.size,fun b hlt=>h.block b (by omega) fun hS=>by have:=hb b hS;omega⟩
abbrev aw (y:Value):Nat→Prop:=fun b=>y.ownBlock=some b
theorem Hq {w':World} {F':Nat→Prop} {z:Nat} {d:D} {y:Value} (h:aW w' (FB F' 0 0) (fun _=>True) z d y):aW w' (fun _=>False) (aw y) z d y:=by
 obtain⟨l,rfl,h2,h3⟩:=h;refine⟨l,rfl,h2,?_⟩
 rcases h3 with h3 | ⟨g,o,c,us,cs,e,h4,h5,h6,h7,h8,h9,_⟩
 ·exact .inl h3
 ·exact .inr ⟨g,o,c,us,cs,e,h4,h5,h6,h7,aZ (fun b hb=>hb.elim) (fun b hb=>hb.elim) _ _ h8,h9,by rw [h4];rfl⟩
theorem pl {f:Nat} {z:Nat} {ff:List D→Option Out} {d d':D} {k k':Int} (he:∀args w,(callFunc f args).run Try.prog w = .ok (.enter f args) w) (hm:aF gl0 Try.prog f {pm:=[.own z 0 true,.dat 0],rm:=[.dat 0],f:=ff}) (hd:ff [d,I k]=some (.ret [I k'] [d'])) {w:World} {y:Value}
  (hy:aW w (fun _=>False) (aw y) z d y) (hb:∀b,aw y b→b<w.heap.size) :
  Calls Try.prog f #[y,.int .i64 k] w fun e w'=>e = .returned (.int .i64 k')∧aW w' (fun _=>False) (aw y) z d' y∧KeptX (aw y) w w':=by
 refine(cW (ow:=fun b=>if y.ownBlock=some b then some 0 else none) (F:=fun _=>False) (ds:=[d,I k]) (rs:=[I k']) (us:=[d']) (args:=#[y,.int .i64 k]) he hm hd gw
  (show cE w _ _ (.own z 0 true) d y∧cE w _ _ (.dat 0) (I k) (.int .i64 k)∧True from⟨.inr ?_,.inr (ek.2 ⟨rfl,rfl⟩),trivial⟩) (fun b hb=>hb.elim) (fun b i h=>?_)).mono ?_
 ·obtain⟨l,rfl,h2,h3⟩:=hy
  refine⟨l,rfl,h2,?_⟩
  rcases h3 with h3 | ⟨g,o,c,us,cs,e,h4,h5,h6,h7,h8,h9,h10⟩
  ·exact .inl h3
  ·exact .inr ⟨g,o,c,us,cs,e,h4,h5,h6,h7,aZ (fun b hb=>hb.elim) (fun b hb=>hb.elim) _ _ h8,h9,by simp [h10]⟩
 ·split at h
  ·rename_i e
   exact hb b e
  ·cases h
 ·rintro e w' ⟨v,rfl,F',R,vs,rfl,hp⟩
  have hl:=hp.len;obtain⟨u,rfl⟩:=Jo.1 (hl.trans rfl);have h0:=hp.res 0;simp only [al,nth,JR] at h0;rcases h0 with h0 | h0
  ·cases h0
  obtain⟨rfl,_⟩:=ek.1 h0;have hu:=hp.us;simp only [kJ,mq,if_true] at hu;obtain⟨hu1,hu2,_⟩:=hu;rcases hu2 with hu2 | hu2
  ·exact absurd hu2 hu1
  ·exact⟨rfl,Hq hu2,⟨hp.os,hp.tape,hp.output,hp.size,fun b hlt hS=>hp.keep b hlt (if_neg hS)⟩⟩
theorem re (l:List ByteArray) (k:Int) (h:l.length≤1048577) (h1:0<k) (h2:k≤10000000000) {w:World} {y:Value} (hy:aW w (fun _=>False) (aw y) 1 (txs l) y) (hb:∀b,aw y b→b<w.heap.size) :
  Calls Try.prog 62 #[y,.int .i64 k] w fun e w'=>e = .returned (.int .i64 (k+l.length))∧aW w' (fun _=>False) (aw y) 1 (txs (yP k l.length)) y∧KeptX (aw y) w w' :=
 pl (Ju Try.func62 (by kernel_rfl) rfl) po (oE l k h h1 h2) hy hb
theorem wt (l:List Bx) (k:Int) (h:l.length≤1048577) (h1:0<k) (h2:k≤1000000000) {w:World} {y:Value} (hy:aW w (fun _=>False) (aw y) 4 (bxs l) y) (hb:∀b,aw y b→b<w.heap.size) :
  Calls Try.prog 37 #[y,.int .i64 k] w fun e w'=>e = .returned (.int .i64 (k+4*l.length))∧aW w' (fun _=>False) (aw y) 4 (bxs (yq k l.length)) y∧KeptX (aw y) w w' :=
 pl (Ju Try.func37 (by kernel_rfl) rfl) tj (sC l k h h1 h2) hy hb
def DE (k:Int) (x:Fm):Fm:=(k,yP (k+1) x.2.1.length,(k+1+x.2.1.length) % 3==0,k+1+x.2.1.length+1)
def mkF (k:Int):List Fm→List Fm
 | []=>[]
 | x::l=>DE k x::mkF (k+3+x.2.1.length) l
def bZ:List Fm→Int
 | []=>0
 | x::l=>3+x.2.1.length+bZ l
theorem iR:∀l,0≤bZ l
 | []=>Int.le_refl _
 | x::l=>by have:=iR l;simp only [bZ];omega
theorem vI:∀(l m:List Fm),bZ (l++m)=bZ l+bZ m
 | [],m=>by simp [bZ]
 | x::l,m=>by simp only [Jq,bZ,vI l m];omega
theorem Cp:∀(l m:List Fm) (k:Int),mkF k (l++m)=mkF k l++mkF (k+bZ l) m
 | [],m,k=>by simp [mkF,bZ]
 | x::l,m,k=>by
  simp only [Jq,mkF,bZ,Cp l m];rw [show k+3+(x.2.1.length:Int)+bZ l=k+(3+x.2.1.length+bZ l) by omega]
theorem jD:∀(l:List Fm) (k:Int),(mkF k l).length=l.length
 | [],_=>rfl
 | x::l,k=>by simp [mkF,jD l]
def stF (k:Int) (l:List Fm) (i:Nat):List Fm:=mkF k (l.take i)++l.drop i
theorem lh (k:Int) (l:List Fm) (i:Nat):(stF k l i).length=l.length:=by simp [stF,jD];omega
theorem GU (k:Int) (l:List Fm) {i:Nat} (h:i<l.length):(stF k l i)[i]?=some l[i]:=by
 unfold stF;rw [Ja (by rw [jD,Jf];omega),jD,Jf,Kc (Je h),JS,List.getElem?_drop];simp [h]
theorem Aq (k:Int) (l:List Fm) {i:Nat} (h:i<l.length):stF k l (i+1)=(stF k l i).set i (DE (k+bZ (l.take i)) l[i]):=by
 unfold stF;rw [Jc h,Cp,Jm h,Jr _ _ (by rw [jD,Jf];omega),jD,Jf,Kc (Je h),JS,Jw];simp [mkF]
theorem zL (l:List Fm) {i:Nat} (h:i<l.length):bZ (l.take (i+1))=bZ (l.take i)+3+l[i].2.1.length:=by
 rw [Jc h,vI];simp [bZ];omega
theorem Fc (l:List Fm) (i:Nat):bZ (l.take i)+bZ (l.drop i)=bZ l:=by rw [←vI,List.take_append_drop]
def FmS (V:Value) (ys:List Value):Nat→Prop:=fun b=>aw V b∨∃y∈ys,aw y b
theorem aI {w w':World} {z:Nat} {d:D} {y:Value} (h:aW w (fun _=>False) (aw y) z d y) (hb:∀b,aw y b→w'.heap[b]?=w.heap[b]?):aW w' (fun _=>False) (aw y) z d y :=
 cT (fun b hb=>hb.elim) (fun b hb=>hb.elim) (fun g _ ho=>⟨ho,hb g ho⟩) h
theorem aP {w:World} {base e size n g cap:Nat} {xs:List Value} (h:w.ownsRow base e size (.slice (some ⟨g,0,none⟩) n cap) n xs) (j:Nat):w.frozen? ⟨g,j,none⟩=false:=by
 obtain⟨_,⟨hn,_⟩ | ⟨g',cap',cur,hg',_,h3,_⟩⟩:=h
 ·cases hn
 ·simp only [JW,Ji,Addr.mk.injEq,and_true,true_and] at hg'
  obtain⟨rfl,rfl⟩:=hg';exact IY h3 j
theorem zx (g j:Nat):((⟨g,0,none⟩:Addr).add j)=⟨g,j,none⟩:=by cases j<;>simp [Addr.add]
theorem ax {w:World} {base e size n g cap:Nat} {xs:List Value} (h:w.ownsRow base e size (.slice (some ⟨g,0,none⟩) n cap) n xs) {j:Nat} {u:Value} (hj:xs[j]?=some u):w.cell? ⟨g,j,none⟩=some u:=by
 have:=h.cells (g:=g) rfl j u hj;rwa [zx] at this
theorem bI {w:World} {z:Nat} {d:D} {y:Value} (h:aW w (fun _=>False) (aw y) z d y):∀b,aw y b→b<w.heap.size:=fun b hb=>by
 obtain⟨l,_,_,h3⟩:=h;rcases h3 with ⟨rfl,_⟩ | ⟨g,o,c,us,cs,e,h4,_,h6,_⟩
 ·simp [aw,Kg] at hb
 ·rw [h4] at hb
  simp only [aw,Kg,Ji] at hb;subst hb;exact(Jl.1 h6).1
set_option maxHeartbeats 4000000 in
set_option maxRecDepth 1000000 in
theorem Bg (l:List Fm) (k:Int) (hk:0<k) (hK:k+bZ l≤1000000000) (hln:l.length≤1048576) (hls:∀x∈l,x.2.1.length≤1048576) (w:World) (B g cap:Nat) (ys:List Value) (h:FmsAt w B (.slice (some ⟨g,0,none⟩) l.length cap) ys l) :
  Calls Try.prog 38 #[.slice (some ⟨g,0,none⟩) l.length cap,.int .i64 k] w fun e w'=>e = .returned (.int .i64 (k+bZ l))∧FmsAt w' B (.slice (some ⟨g,0,none⟩) l.length cap) ys (mkF k l)∧KeptX (FmS (.slice (some ⟨g,0,none⟩) l.length cap) ys) w w':=by
 go_enter Try.func38,Try.ntmps38
 go_wp2
 go_loopw [1,5] (fun vk vi wr=>∃i:Nat,vi = .int .i64 i∧i≤l.length∧vk = .int .i64 (k+bZ (l.take i))∧FmsAt wr B (.slice (some ⟨g,0,none⟩) l.length cap) ys (stF k l i)∧KeptX (FmS (.slice (some ⟨g,0,none⟩) l.length cap) ys) w wr) (fun _ vi _=>l.length - (intOf vi).toNat)
 case atStart =>
  exact⟨0,rfl,Nat.zero_le _,by simp [bZ],by simpa [stF,mkF] using h,KeptX.refl _ _⟩
 case round =>
  obtain⟨i,rfl,hin,rfl,hF,hX⟩:=hrel;by_cases hp:i<l.length
  ·have hpi:(i:Int)<(l.length:Int):=by omega
   have hx:=GU k l hp;have ht0:=iR (l.take i);have ht1:=zL l hp;have ht2:=Fc l (i+1);have ht3:=iR (l.drop (i+1));have hxl:=hls l[i] (IX hp);obtain⟨y,hy⟩:∃y,ys[i]?=some y:=⟨ys[i]'(by rw [hF.len,lh];exact hp),Jd _⟩
   have hcells:=fun f hf=>(aD _ _ i l[i] y hx hy f hf)
   have hown:=hF.own;rw [lh] at hown;have hrow:=hF.row i l[i] y hx hy;have hblk:=fun b hb=>(hF.blk i y b hy hb).2
   have hyg:∀b,aw y b→b≠g:=fun b hb e=>hblk b hb (by rw [e];rfl)
   have hlen4:(aV (stF k l i) ys).length=l.length*4:=by rw [bB _ _ hF.len,lh]
   have hset:=xJ (stF k l i) ys i l[i] (DE (k+bZ (l.take i)) l[i]) y hx hy;rw [←Aq k l hp] at hset;have hw1:∀b,b≠g→(wr.setCell ⟨g,i*4,none⟩ (.int .i64 (k+bZ (l.take i)))).heap[b]?=wr.heap[b]?:=fun b hb=>heap_setCell_other _ _ _ _ (by simpa using hb)
   have hown1:=bO hown rfl (i*4) (.int .i64 (k+bZ (l.take i)));have f0:=aP hown (i*4);have c1:=ax hown1 (j:=i*4+1) (u:=y) (by rw [Jb (by omega),hcells 1 (by omega)];rfl);have c0:=ax hown (j:=i*4) (u:=.int .i64 l[i].1) (by have:=hcells 0 (by omega);simpa [dn] using this);have hrow1:=aI (w':=wr.setCell ⟨g,i*4,none⟩ (.int .i64 (k+bZ (l.take i)))) hrow (fun b hb=>hw1 b (hyg b hb));have hcm:=re l[i].2.1 (k+bZ (l.take i)+1) (by omega) (by omega) (by omega) hrow1 (bI hrow1);generalize hxe:l[i]=x at *
   go_wp2_with (go_at_call 62;refine hcm.mono ?_)
   rintro e w2 ⟨rfl,hy2,hx2⟩;have hown2:=hown1.kept (row:=y.ownBlock) ⟨hx2.os,hx2.tape,hx2.output,hx2.size,fun b hb hn=>hx2.block b hb fun e=>hn e.symm⟩ (.inr fun e=>hyg g e.symm rfl);have hown3:=fun v=>bO hown2 rfl (i*4+2) v
   have f2:=aP hown2 (i*4+2);have f3:=fun v=>aP (hown3 v) (i*4+3)
   have c2:=ax hown2 (j:=i*4+2) (u:=.bool x.2.2.1) (by rw [Jb (by omega),hcells 2 (by omega)];rfl);have c3:=fun v=>ax (hown3 v) (j:=i*4+3) (u:=.int .i64 x.2.2.2) (by rw [Jb (by omega),Jb (by omega),hcells 3 (by omega)];rfl)
   go_wp2
   refine⟨⟨i+1,congrArg (Jx .i64) (by omega),by omega,congrArg (Jx .i64) (by omega),?_,?_⟩,?_⟩
   ·have hw4:∀(v u:Value) (b:Nat),b≠g→((w2.setCell ⟨g,i*4+2,none⟩ v).setCell ⟨g,i*4+3,none⟩ u).heap[b]?=w2.heap[b]?:=fun v u b hb=>by
     rw [heap_setCell_other _ _ _ _ (by simpa using hb),heap_setCell_other _ _ _ _ (by simpa using hb)]
    have hss:=Aq k l hp;rw [hxe] at hss;refine⟨by rw [lh];exact hF.len.trans (lh k l i),?_,fun j x' y' hj hyj=>?_,hF.blk,hF.dis⟩
    ·rw [lh,hset]
     exact bO (hown3 _) rfl (i*4+3) _
    ·by_cases e:j=i
     ·subst e
      rw [hss,List.getElem?_set_self (by rw [lh];exact hp)] at hj;obtain rfl:=JJ hj;obtain rfl:y=y':=JJ (hy.symm.trans hyj);exact aI hy2 fun b hb=>hw4 _ _ b (hyg b hb)
     ·rw [hss,Jb (fun h=>e h.symm)] at hj
      have hr:=hF.row j x' y' hj hyj;refine aI hr fun b hb=>?_
      have hbg:b≠g:=fun h=>(hF.blk j y' b hyj hb).2 (by rw [h];rfl)
      have hby:¬aw y b:=fun h=>by
       rcases hF.dis j i y' y e hyj hy with h1 | h1
       ·rw [aw,h1] at hb
        cases hb
       ·exact h1 (hb.trans h.symm)
      have hlt:=bI hr b hb;rw [hw4 _ _ b hbg,hx2.block b (by simpa [JA] using hlt) hby,hw1 b hbg]
   ·have hS:FmS (.slice (some ⟨g,0,none⟩) l.length cap) ys g:=.inl rfl
    have hm:∀b,aw y b→FmS (.slice (some ⟨g,0,none⟩) l.length cap) ys b:=fun b hb=>.inr ⟨y,List.mem_of_getElem? hy,hb⟩
    exact(((hX.set _ _ hS).trans (hx2.mono hm)).set _ _ hS).set _ _ hS
   ·show l.length - ((i:Int)+1).toNat<l.length - (i:Int).toNat
    omega
  ·have hpi:¬(i:Int)<(l.length:Int):=by omega
   have hie:i=l.length:=by omega
   subst hie;rw [List.take_length];have hst:stF k l l.length=mkF k l:=by simp [stF]
   rw [hst] at hF
   go_wp2
   go_ret
   exact⟨rfl,hF,hX⟩
theorem ae {w:World} (o:Obj) {n:Nat} (h:n=w.heap.size):(w.alloc o).heap[n]?=some o:=by
 subst h;exact Array.getElem?_push_size
theorem af {w:World} (o:Obj) {n:Nat} {x:Obj} (h:w.heap[n]?=some x):(w.alloc o).heap[n]?=some x :=
 ((World.grownBy_alloc w o none).block n (Jl.1 h).1 (by simp)).trans h
theorem aY {w:World} {F own:Nat→Prop} {z:Nat} {d:D} {y:Value} (h:aW w F own z d y):∃A n c,y = .slice A n c:=by
 obtain⟨l,_,_,h3⟩:=h;rcases h3 with ⟨rfl,_⟩ | ⟨g,o,c,us,cs,e,h4,_⟩
 ·exact⟨_,_,_,rfl⟩
 ·exact⟨_,_,_,h4⟩
theorem uM (l:List ByteArray) (h:l.length≤1048576) {w:World} {F:Nat→Prop} {y:Value} (hr:aM w F (txs l) y) (hF:∀b,F b→b<w.heap.size) :
  Calls Try.prog 76 #[y] w fun e w'=>∃v,e = .returned v∧aW w' (fun _=>False) (aw v) 1 (txs l) v∧(∀b,aw v b→w.heap.size≤b∧b<w'.heap.size)∧Below w.heap.size w w':=by
 refine(cW (ow:=fun _=>none) (F:=F) (ds:=[txs l]) (rs:=[txs l]) (us:=[]) (args:=#[y]) (Ju Try.func76 (by kernel_rfl) rfl) qY (rL l h) gw
  (show cE w _ _ (.dat 2) (txs l) y∧True from⟨.inr hr,trivial⟩) (fun b hb=>⟨hF b hb,rfl⟩) (fun b i h=>by cases h)).mono ?_
 rintro e w' ⟨v,rfl,F',R,vs,rfl,hp⟩;have hl:=hp.len;obtain⟨u,rfl⟩:=Jo.1 (hl.trans rfl);have h0:=hp.res 0;rcases h0 with h0 | h0
 ·cases h0
 obtain⟨m,e1,h2,h3⟩:=h0;refine⟨u,rfl,⟨m,e1,h2,?_⟩,fun b hb=>?_,⟨hp.os,hp.tape,hp.output,hp.size,fun b hb=>hp.keep b hb rfl⟩⟩
 ·rcases h3 with h3 | ⟨g,o,c,us,cs,e,h4,h5,h6,h7,h8,h9,_⟩
  ·exact .inl h3
  ·have h4':u = .slice (some ⟨g,o,none⟩) m.length c:=h4
   exact .inr ⟨g,o,c,us,cs,e,h4,h5,h6,h7,aZ (fun b hb=>hb.elim) (fun b hb=>hb.elim) _ _ h8,h9,by show aw u g;rw [h4'];rfl⟩
 ·rcases h3 with ⟨h3,_⟩ | ⟨g,o,c,us,cs,e,h4,h5,h6,h7,h8,h9,h10,h11⟩
  ·have h3':u = .slice none 0 0:=h3
   rw [aw,h3'] at hb;cases hb
  ·have h4':u = .slice (some ⟨g,o,none⟩) m.length c:=h4
   rw [aw,h4'] at hb;have hb':g=b:=JJ hb;subst hb';exact⟨h11,(Jl.1 h6).1⟩
set_option maxHeartbeats 4000000 in
set_option maxRecDepth 1000000 in
theorem yu (x:Fm) (hx:x.2.1.length≤1048576) (y:Value) (w:World) (F:Nat→Prop) (hr:aM w F (txs x.2.1) y) (hF:∀b,F b→b<w.heap.size) :
  Calls Try.prog 56 #[.agg #[.int .i64 x.1,y,.bool x.2.2.1,.int .i64 x.2.2.2]] w fun e w'=>∃v,e = .returned (.agg #[.int .i64 x.1,v,.bool x.2.2.1,.int .i64 x.2.2.2])∧aW w' (fun _=>False) (aw v) 1 (txs x.2.1) v∧(∀b,aw v b→w.heap.size≤b∧b<w'.heap.size)∧Below w.heap.size w w':=by
 go_enter Try.func56,Try.ntmps56
 have hb3:∀a b c,Below w.heap.size w (((w.alloc a).alloc b).alloc c):=fun a b c=>(((Below.refl _ w).alloc (Jv _) _).alloc (by simp) _).alloc (by simp;omega) _
 have hc:=fun(a b c:Obj)=>uM x.2.1 hx (w:=((w.alloc a).alloc b).alloc c) (F:=F) (y:=y) (aG (fun _ h=>h) (fun i hi=>(hb3 a b c).block i (hF i hi)) hr) (fun i hi=>Jy (hF i hi) (hb3 a b c).size)
 go_wp2_with (go_at_call 76;refine(hc _ _ _).mono ?_)
 rintro e w4 ⟨v,rfl,hv,hvb,b4⟩;obtain⟨vA,vn,vc,rfl⟩:=aY hv;have H1:w4.heap[w.heap.size]?=some (.cells #[.int .i64 x.1,y,.bool x.2.2.1,.int .i64 x.2.2.2] 81 (0,0)):=(b4.block _ (by simp;omega)).trans (af _ (af _ (ae _ rfl)));have H2:w4.heap[w.heap.size+1]?=some (.cells #[.int .i64 0,.slice none 0 0,.bool false,.int .i64 0] 63 (0,0)):=(b4.block _ (by simp)).trans (af _ (ae _ (by simp)));have H3:w4.heap[w.heap.size+1+1]?=some (.cells #[.int .i64 x.1,.slice none 0 0,.bool false,.int .i64 0] 63 (0,0)):=(b4.block _ (by simp)).trans (ae _ (by simp));have c12:w4.cell? ⟨w.heap.size,2,none⟩=some (.bool x.2.2.1):=by rw [IQ H1];rfl
 have c13:w4.cell? ⟨w.heap.size,3,none⟩=some (.int .i64 x.2.2.2):=by rw [IQ H1];rfl
 have c31:w4.cell? ⟨w.heap.size+1+1,1,none⟩=some (.slice none 0 0):=by rw [IQ H3];rfl
 have f31:=IY H3 1;have f32:=IY H3 2;have f33:=IY H3 3;have c32:w4.cell? ⟨w.heap.size+1+1,2,none⟩=some (.bool false):=by rw [IQ H3];rfl
 have c33:w4.cell? ⟨w.heap.size+1+1,3,none⟩=some (.int .i64 0):=by rw [IQ H3];rfl
 have H7:(((w4.setCell ⟨w.heap.size+1+1,1,none⟩ (.slice vA vn vc)).setCell ⟨w.heap.size+1+1,2,none⟩ (.bool x.2.2.1)).setCell ⟨w.heap.size+1+1,3,none⟩ (.int .i64 x.2.2.2)).heap[w.heap.size+1+1]?=some (.cells #[.int .i64 x.1,.slice vA vn vc,.bool x.2.2.1,.int .i64 x.2.2.2] 63 (0,0)):=by
  rw [heap_setCell_same _ _ _ _ _ _ (heap_setCell_same _ _ _ _ _ _ (heap_setCell_same _ _ _ _ _ _ H3))];rfl
 have H72:(((w4.setCell ⟨w.heap.size+1+1,1,none⟩ (.slice vA vn vc)).setCell ⟨w.heap.size+1+1,2,none⟩ (.bool x.2.2.1)).setCell ⟨w.heap.size+1+1,3,none⟩ (.int .i64 x.2.2.2)).heap[w.heap.size+1]?=some (.cells #[.int .i64 0,.slice none 0 0,.bool false,.int .i64 0] 63 (0,0)):=by
  rw [heap_setCell_other _ _ _ _ (by simp),heap_setCell_other _ _ _ _ (by simp),heap_setCell_other _ _ _ _ (by simp),H2]
 have B7:Below w.heap.size w (((w4.setCell ⟨w.heap.size+1+1,1,none⟩ (.slice vA vn vc)).setCell ⟨w.heap.size+1+1,2,none⟩ (.bool x.2.2.1)).setCell ⟨w.heap.size+1+1,3,none⟩ (.int .i64 x.2.2.2)) :=
  ((((hb3 _ _ _).trans (b4.mono (hb3 _ _ _).size)).setCell (by simp;omega) _).setCell (by simp;omega) _).setCell (by simp;omega) _
 have O7:=aI (w':=((w4.setCell ⟨w.heap.size+1+1,1,none⟩ (.slice vA vn vc)).setCell ⟨w.heap.size+1+1,2,none⟩ (.bool x.2.2.1)).setCell ⟨w.heap.size+1+1,3,none⟩ (.int .i64 x.2.2.2)) hv (fun b hb=>by
  have:=(hvb b hb).1;simp at this;rw [heap_setCell_other _ _ _ _ (by simp;omega),heap_setCell_other _ _ _ _ (by simp;omega),heap_setCell_other _ _ _ _ (by simp;omega)])
 have L7:∀b,aw (.slice vA vn vc) b→w.heap.size+1+1<b∧b<w4.heap.size:=fun b hb=>by
  have:=hvb b hb;simp at this;omega
 have S7:(((w4.setCell ⟨w.heap.size+1+1,1,none⟩ (.slice vA vn vc)).setCell ⟨w.heap.size+1+1,2,none⟩ (.bool x.2.2.1)).setCell ⟨w.heap.size+1+1,3,none⟩ (.int .i64 x.2.2.2)).heap.size=w4.heap.size:=by simp [JA]
 have d0:=IQ H7 0;have d1:=IQ H7 1;have d2:=IQ H7 2;have d3:=IQ H7 3;have e0:=IQ H72 0;have e1:=IQ H72 1;have e2:=IQ H72 2;have e3:=IQ H72 3;have g0:=IY H72 0;have g1:=IY H72 1;have g2:=IY H72 2;have g3:=IY H72 3;simp only [JO,Jn,Jg] at d0 d1 d2 d3 e0 e1 e2 e3
 go_wp2
 generalize ((w4.setCell ⟨w.heap.size+1+1,1,none⟩ (.slice vA vn vc)).setCell ⟨w.heap.size+1+1,2,none⟩ (.bool x.2.2.1)).setCell ⟨w.heap.size+1+1,3,none⟩ (.int .i64 x.2.2.2)=W7 at *;have H11:((((W7.setCell ⟨w.heap.size+1,0,none⟩ (.int .i64 x.1)).setCell ⟨w.heap.size+1,1,none⟩ (.slice vA vn vc)).setCell ⟨w.heap.size+1,2,none⟩ (.bool x.2.2.1)).setCell ⟨w.heap.size+1,3,none⟩ (.int .i64 x.2.2.2)).heap[w.heap.size+1]?=some (.cells #[.int .i64 x.1,.slice vA vn vc,.bool x.2.2.1,.int .i64 x.2.2.2] 63 (0,0)):=by
  rw [heap_setCell_same _ _ _ _ _ _ (heap_setCell_same _ _ _ _ _ _ (heap_setCell_same _ _ _ _ _ _ (heap_setCell_same _ _ _ _ _ _ H72)))];rfl
 have d0:=IQ H11 0;have d1:=IQ H11 1;have d2:=IQ H11 2;have d3:=IQ H11 3;simp only [JO,Jn,Jg] at d0 d1 d2 d3;refine bodyPost_ret (by simp [results,Try.results56,go_sem,d0,d1,d2,d3];try rfl) rfl ?_
 refine⟨_,rfl,aI O7 (fun b hb=>?_),fun b hb=>?_,(((B7.setCell (by simp) _).setCell (by simp) _).setCell (by simp) _).setCell (by simp) _⟩
 ·have:=(L7 b hb).1
  rw [heap_setCell_other _ _ _ _ (by simp;omega),heap_setCell_other _ _ _ _ (by simp;omega),heap_setCell_other _ _ _ _ (by simp;omega),heap_setCell_other _ _ _ _ (by simp;omega)]
 ·have:=L7 b hb
  simp [JA,S7];omega
end Go.Proofs.Ytankikbbdfgkbaa

end
