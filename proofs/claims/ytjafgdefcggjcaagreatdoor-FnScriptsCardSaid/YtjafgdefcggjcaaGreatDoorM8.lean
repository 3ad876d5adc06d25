/-
  A part of the proof: contracts and plain forms of functions beneath the statement, made small by a program (names shortened, what is not needed left out).
-/
import Derived.Test.YtjafgdefcggjcaaGreatDoorRows
import Derived.Test.YtjafgdefcggjcaaGreatDoorTie
import Derived.Test.YtjafgdefcggjcaaGreatDoorCards
import Derived.Test.YtjafgdefcggjcaaGreatDoorM7
import Derived.Shelf.Strings.BuilderK
import Derived.BigCall
import Derived.Shelf.Slices.In.SortNone2
import Derived.Shelf.Sort.Plain
import Derived.Maps.OwnSet
import Derived.Maps.StringElems
import Derived.StringKeys
import Derived.WalkKit
import Derived.Shelf.Abstract
import Derived.Deep.RegionHeld
open Option renaming bind_some → aik, map_some → ais, bind_eq_some_iff → aiu, map_eq_some_iff → aiA, getD_some → ai2, isSome_some → ajd, isSome_none → ajA
open Go.IntKind renaming i64 → ail
open Bool renaming false_eq_true → aim, not_true → aix, not_false → aiV, and_eq_true → aiX, and_self → ajg, not_eq_true → ajI
open Nat renaming le_refl → ain, zero_le → aiO, beq_refl → aiS, le_div_iff_mul_le → aiT, lt_of_lt_of_le → aje, zero_add → ajB, le_add_right → ajK, not_lt_zero → ajL
open List renaming length_map → aio, replicate → aiw, map_cons → aiC, getElem?_eq_getElem → aiD, getElem?_cons_zero → aiE, getD_eq_getElem?_getD → aiF, take_succ_eq_append_getElem → aiG, length_cons → aiH, append_assoc → aiI, mem_cons → aiJ, getElem_mem → aiL, cons_append → aiM, length_append → aiP, drop_zero → aiU, take_length → aiW, drop_eq_getElem_cons → aiZ, getElem?_eq_some_iff → ai0, drop_eq_nil_of_le → ai1, length_singleton → ai3, nil_append → ai5, mem_append → ai6, map_append → ai7, length_dropLast → ai8, eq_nil_of_length_eq_zero → aja, length_pos_iff → ajb, flatMap_cons → ajh, getElem?_append_left → aji, map_nil → ajj, length_nil → ajp, getElem_cons_succ → ajr, set_append_right → ajs, replicate_succ' → ajt, sum_cons → ajx, take_succ_cons → ajy, mem_map → ajC, foldl_append → ajD, getElem?_map → ajF, length → ajG, length_take → ajJ, drop_drop → ajM
open Int renaming reduceLT → aip, reduceLE → aiq, reduceEq → air, tdiv_eq_ediv_of_nonneg → ajf, eq_ofNat_of_zero_le → ajm, natCast_mul → ajn, neg_neg → ajH
open ByteArray renaming size_append → ait
open Go.Proofs renaming enters_of → aiv
open Go.Lib renaming cell_of_heap → aiy, IsBuilderF → aiN, atoiAll → aiR, byteCells → aiY, cut → ai4, BuilderAtF → ajc, byteCells_length → ajv, byteCells_append → ajw, fresh_isBuilder → ajz
open Array renaming getElem?_eq_some_iff → aiz, getElem?_push_size → ajk
open Option.some renaming injEq → aiB, inj → ajo
open Go.Value renaming int → aiK, string → ai9
open Go.World renaming cell?_of_block → aiQ
open Go.Sort renaming putCells → ajl
open List.cons renaming injEq → ajq
open Go.RowKit.Below renaming refl → aju
open Go.Lib.IsBuilderF renaming of → ajE
set_option maxRecDepth 100000
set_option linter.unusedSimpArgs false
set_option linter.unusedVariables false
noncomputable section
namespace Go.Proofs.YtjafgdefcggjcaaGreatDoor
open Go Go.V
def GM (P:Nat→Bool):Nat→Nat
 | 0=>0
 | m+1=>if P (m+1)=true then m+1 else GM P m
theorem Zs (P:Nat→Bool):∀M,GM P M≤M
 | 0=>ain _
 | m+1=>by
  have:=Zs P m;simp only [GM];split<;>omega
theorem Ij {P:Nat→Bool}:∀{M:Nat},(∃j,j≤M∧P j=true)→P (GM P M)=true
 | 0,⟨j,h1,h2⟩=>by
  have:j=0:=by omega
  subst this;exact h2
 | m+1,⟨j,h1,h2⟩=>by
  simp only [GM];by_cases h:P (m+1)=true
  ·rw [if_pos h]
   exact h
  ·rw [if_neg h]
   refine Ij ⟨j,?_,h2⟩
   rcases Nat.lt_or_ge m j with g | g
   ·have:j=m+1:=by omega
    subst this;exact absurd h2 h
   ·exact g
theorem RE {P:Nat→Bool} {M:Nat} (h:P M=true):GM P M=M:=by
 cases M with
 | zero=>rfl
 | succ m=>simp only [GM,h,if_true]
theorem RA {P:Nat→Bool} {M:Nat} (h:P (GM P M)=true) (hn:¬P M=true):∃m,M=m+1∧GM P M=GM P m:=by
 cases M with
 | zero=>exact absurd h hn
 | succ m=>exact⟨m,rfl,by simp only [GM,hn];simp⟩
theorem aeL {a b:Option Nat} {v:Nat} (h:yM a b=some v):a=some v∨b=some v:=by
 cases a with
 | none=>exact .inr h
 | some a =>
  cases b with
  | none=>exact .inl h
  | some b =>
   simp only [yM] at h;split at h
   ·exact .inr h
   ·exact .inl h
theorem Vu {row:Nat→Option Nat} {w k v:Nat}:∀{m:Nat},qG row w k m=some v→∃j,j<m∧(row (k - j*w)).map (·+j)=some v
 | 0,h=>by cases h
 | m+1,h=>by
  rcases aeL h with h | h
  ·obtain⟨j,h1,h2⟩:=Vu h
   exact⟨j,by omega,h2⟩
  ·exact⟨m,by omega,h⟩
def slW (l:List Slp) (i:Nat):Nat:=(l.getD i (0,0)).1.toNat
def slC (l:List Slp) (i:Nat):Nat:=(l.getD i (0,0)).2.toNat
def agr (l:List Slp) (i n m:Nat):Bool:=decide ((cY (l.take i) (n - m*slW l i)).map (·+m)=cY (l.take (i+1)) n)
def mx (l:List Slp) (i n:Nat):Nat:=min (slC l i) (n / slW l i)
def pk (l:List Slp) (i n:Nat):Nat:=GM (agr l i n) (mx l i n)
def ctl (l:List Slp):Nat→Nat→List Int
 | 0,_=>[]
 | i+1,n=>ctl l i (n - pk l i n*slW l i)++[(pk l i n:Int)]
theorem YY {l:List Slp} {i n v:Nat} (hi:i<l.length) (h:cY (l.take (i+1)) n=some v):∃j,j≤mx l i n∧agr l i n j=true:=by
 have h0:=h;have hw:slW l i=l[i].1.toNat:=by simp [slW,aiF,hi]
 have hc:slC l i=l[i].2.toNat:=by simp [slC,aiF,hi]
 rw [BP hi,←hw,←hc] at h;obtain⟨j,h1,h2⟩:=Vu h;refine⟨j,by unfold iC at h1;unfold mx;omega,?_⟩
 unfold agr;rw [h0,h2,decide_eq_true rfl]
theorem Md {l:List Slp} {i n v:Nat} (hi:i<l.length) (h:cY (l.take (i+1)) n=some v):∃u,cY (l.take i) (n - pk l i n*slW l i)=some u∧u+pk l i n=v∧pk l i n≤mx l i n:=by
 have:agr l i n (pk l i n)=true:=Ij (YY hi h);unfold agr at this;rw [decide_eq_true_eq,h] at this;obtain⟨u,h1,h2⟩:=aiA.1 this;exact⟨u,h1,h2,Zs _ _⟩
theorem ab3 {o p:Option Nat} {m v:Nat} (hp:p=some v):decide (o.map (·+m)=p)=(decide (0≤iV o)&&decide (iV o+(m:Int)=iV p)):=by
 subst hp;cases o with
 | none=>simp [iV]
 | some u =>
  show decide (some (u+m)=some v)=(decide ((0:Int)≤(u:Int))&&decide ((u:Int)+(m:Int)=(v:Int)))
  rw [←Bool.decide_and];exact decide_eq_decide.2 (by rw [aiB];omega)
theorem acm {o p:Option Nat} {m v:Nat} (hp:p=some v) (hv:v≤1000):decide (o.map (·+m)=p)=decide (gL o+(m:Int)=gL p):=by
 subst hp;cases o with
 | none =>
  show decide (none=some v)=decide ((1048576:Int)+(m:Int)=(v:Int))
  exact decide_eq_decide.2 ⟨fun h=>(by cases h),fun h=>(by exfalso;omega)⟩
 | some u =>
  show decide (some (u+m)=some v)=decide ((u:Int)+(m:Int)=(v:Int))
  exact decide_eq_decide.2 (by rw [aiB];omega)
theorem adi {l:List Slp} {i:Nat} (hi:i<l.length) (h0:0≤l[i].1):((slW l i:Nat):Int)=l[i].1:=by
 simp only [slW,aiF,aiD hi,ai2];omega
theorem Uf {l:List Slp} {i:Nat} (hi:i<l.length) (h0:0≤l[i].2):((slC l i:Nat):Int)=l[i].2:=by
 simp only [slC,aiF,aiD hi,ai2];omega
theorem agS (a b:Int):Xp (I a) (I b)=some (I (if b<a then b else a)):=rfl
def ruO (l:List Slp) (n:Nat):D:=if (cY l n).isSome=true then ai (ctl l l.length n) else .v (.slice none 0 0)
theorem Qk (l:List Slp) (n:Nat) (hl:l.length≤8) (hn:n≤400) (hok:∀x∈l,(1≤x.1∧x.1≤200)∧0≤x.2∧x.2≤20) :
  oW [ai (l.map (·.1)),ai (l.map (·.2)),I (n:Int)]=some (.ret [ruO l n] []):=by
 rw [Qn];have hfw:=Dp l n hl hn hok;have htl:l.take l.length=l:=aiW;have het:=zW (l:=qg n l (l.length+1)) (i:=l.length) (by rw [qf];omega);rw [zy (by omega),htl] at het;have her:=gT (l:=yO n (cY l)) (i:=n) (by rw [vW];omega);rw [Bn (by omega)] at her;simp -implicitDefEqProofs only [hfw,am,ak,aK,aio,aik,het,ais,bk,aP,her,bD,bg];cases hv:cY l n with
 | none =>
  simp -implicitDefEqProofs only [Jv,show(-1:Int)<0 by decide,decide_true,aH,if_true,ruO,hv,ajA,aim,if_false]
 | some v =>
 have hv0:¬(v:Int)<0:=by omega
 have wl:ail.wrap ((l.length:Int) - 1)=(l.length:Int) - 1:=ah (by omega) (by omega);simp -implicitDefEqProofs only [EG,hv0,decide_false,aH,aim,if_false,zY (show l.length≤1000000 by omega),cz,aik,cr,wl];refine bH (fun r=>r=_) (fun(a:Nat × Nat × List Int)=>[ai (l.map (·.1)),ai (l.map (·.2)),I (a.2.1:Int),fA (qg n l (l.length+1)),.ref 0 0,I ((a.1:Int) - 1),ai (aiw a.1 0++a.2.2)]) (fun a=>a.1≤l.length∧a.2.1≤n∧(∃v,cY (l.take a.1) a.2.1=some v)∧ctl l l.length n=ctl l a.1 a.2.1++a.2.2) (fun a=>a.1)
  (fun o=>o = .ext 0 [.ref 0 0,ai (ctl l l.length n)]) ?_ (l.length,n,[]) ⟨ain _,ain _,⟨v,by dsimp only;rw [htl];exact hv⟩,by simp⟩ (by simp) ?_
 case refine_2 =>
  rintro o rfl;simp -implicitDefEqProofs only [bF,aiS,dE,if_true,ak,aF,MJ,ruO,hv,ajd]
 rintro⟨i1,n1,tl⟩ ⟨g1,g2,⟨v1,g3⟩,g4⟩;dsimp only at g1 g2 g3 g4;cases i1 with
 | zero =>
  right
  refine⟨_,?_,rfl,rfl⟩
  have hge:¬(0:Int)≤((0:Nat):Int) - 1:=by omega
  have e:aiw 0 0++tl=ctl l l.length n:=by rw [g4];rfl
  simp -implicitDefEqProofs only [ak,aF,jN,hge,decide_false,aik,aH,aim,if_false,e]
 | succ i =>
  left
  have hi:i<l.length:=g1;have ho:=hok l[i] (aiL hi);have hW:=adi hi (by omega);have hC:=Uf hi ho.2.1;obtain⟨u,p1,p2,p3⟩:=Md hi g3;have hpm:pk l i n1*slW l i≤n1:=by
   have:pk l i n1≤n1 / slW l i:=by unfold mx at p3;omega
   exact(aiT (by omega)).1 this
  refine⟨(i,n1 - pk l i n1*slW l i,(pk l i n1:Int)::tl),?_,⟨by dsimp only;omega,by dsimp only;omega,⟨u,p1⟩,?_⟩,by dsimp only;omega⟩
  ·have hidx:(((i+1:Nat):Int) - 1)=(i:Int):=by omega
   have hi0:(0:Int)≤(i:Int):=by omega
   have ew:ao 1 (ai (l.map (·.1))) (I (i:Int))=some [I ((slW l i:Nat):Int)]:=by rw [gT (by simpa using hi),hW];simp
   have ec:ao 1 (ai (l.map (·.2))) (I (i:Int))=some [I ((slC l i:Nat):Int)]:=by rw [gT (by simpa using hi),hC];simp
   have hw0:¬((slW l i:Nat):Int)=0:=by omega
   have hdl:n1 / slW l i≤n1:=Nat.div_le_self _ _;have hq:ail.wrap (((n1:Nat):Int).tdiv ((slW l i:Nat):Int))=((n1 / slW l i:Nat):Int):=by
    rw [ajf (by omega),←Int.natCast_ediv];generalize n1 / slW l i=q at hdl;exact ah (by omega) (by omega)
   have hmx:(if ((n1 / slW l i:Nat):Int)<((slC l i:Nat):Int) then((n1 / slW l i:Nat):Int) else((slC l i:Nat):Int))=((mx l i n1:Nat):Int):=by
    rw [agN];unfold mx;omega
   have hb:=Bg (l:=l) (fun x hx=>(hok x hx).2.2) i (by omega);have htab:=zW (l:=qg n l (l.length+1)) (i:=i) (by rw [qf];omega);rw [zy (by omega)] at htab;have htab1:=zW (l:=qg n l (l.length+1)) (i:=i+1) (by rw [qf];omega);rw [zy (by omega)] at htab1;have her1:=gT (l:=yO n (cY (l.take (i+1)))) (i:=n1) (by rw [vW];omega);rw [Bn (by omega)] at her1;have hwi:=wI (show i≤1000000 by omega);have hmc:mx l i n1≤20:=by unfold mx;omega
   simp -implicitDefEqProofs only [ak,aF,hidx,jN,hi0,decide_true,aik,aH,if_true,ew,ec,ais,bk,aP,bD,lO,hw0,if_false,hq,agS,hmx];refine bH (fun r=>r=_) (fun(m:Nat)=>[ai (l.map (·.1)),ai (l.map (·.2)),I (n1:Int),fA (qg n l (l.length+1)),.ref 0 0,I (i:Int),I (m:Int),ai (aiw (i+1) 0++tl)]) (fun m=>m≤mx l i n1∧pk l i n1=GM (agr l i n1) m) (fun m=>m)
    (fun o=>o = .ext 2 [ai (l.map (·.1)),ai (l.map (·.2)),I ((n1 - pk l i n1*slW l i:Nat):Int),fA (qg n l (l.length+1)),.ref 0 0,I (i:Int),ai (aiw i 0++(pk l i n1:Int)::tl)]) ?_ (mx l i n1) ⟨ain _,rfl⟩ rfl ?_
   case refine_2 =>
    rintro o rfl;have hwd:ail.wrap ((i:Int) - 1)=(i:Int) - 1:=ah (by omega) (by omega);simp -implicitDefEqProofs only [bF,aiS,dE,if_true,ak,aF,cr,hwd,aik]
   rintro m ⟨q1,q2⟩;have hm0:(0:Int)≤(m:Int):=by omega
   have hmw:m*slW l i≤n1:=by
    have:m≤n1 / slW l i:=by unfold mx at q1;omega
    exact(aiT (by omega)).1 this
   have hwr:ail.wrap ((m:Int)*((slW l i:Nat):Int))=((m*slW l i:Nat):Int):=by
    rw [←ajn];exact ah (by omega) (by omega)
   have hsub:ail.wrap (((n1:Nat):Int) - ((m*slW l i:Nat):Int))=((n1 - m*slW l i:Nat):Int):=by rw [ah (by omega) (by omega)];omega
   have her:=gT (l:=yO n (cY (l.take i))) (i:=n1 - m*slW l i) (by rw [vW];omega);rw [Bn (by omega)] at her;have hag:agr l i n1 m=(decide (0≤iV (cY (l.take i) (n1 - m*slW l i)))&&decide (iV (cY (l.take i) (n1 - m*slW l i))+(m:Int)=iV (cY (l.take (i+1)) n1))):=ab3 g3;have hbb : -1≤iV (cY (l.take i) (n1 - m*slW l i))∧iV (cY (l.take i) (n1 - m*slW l i))≤1000:=by
    cases ho2:cY (l.take i) (n1 - m*slW l i) with
    | none=>simp [iV]
    | some x =>
     have:=hb _ _ ho2;simp only [iV];omega
   have hsum:ail.wrap (iV (cY (l.take i) (n1 - m*slW l i))+(m:Int))=iV (cY (l.take i) (n1 - m*slW l i))+(m:Int):=ah (by omega) (by omega);by_cases hA:agr l i n1 m=true
   ·right
    have hpk:pk l i n1=m:=by rw [q2];exact RE hA
    rw [hag,aiX,decide_eq_true_eq,decide_eq_true_eq] at hA;have hsum':=hsum.trans hA.2;refine⟨_,?_,rfl,rfl⟩
    have hrf:=pF (l:=aiw (i+1) 0++tl) (i:=i) (by simp;omega);have hst:=oT (aiw (i+1) 0++tl) i (m:Int) (by simp;omega);have hset:(aiw (i+1) 0++tl).set i (m:Int)=aiw i 0++(m:Int)::tl:=by
     rw [ajt,aiI,ajs _ _ (by simp)];simp
    rw [hset] at hst;rw [hpk];simp -implicitDefEqProofs only [ak,aF,jN,hm0,decide_true,aik,aH,if_true,htab,htab1,ew,ais,bk,aP,bD,eI,hwr,cr,hsub,her,her1,hA.1,en,bw,hsum',hwi,fk,aO,ck,cz,hrf,hst]
   ·left
    obtain⟨m',rfl,hs⟩:=RA (by rw [←q2];exact Ij (YY hi g3)) hA;have hmd:ail.wrap (((m'+1:Nat):Int) - 1)=(m':Int):=by rw [ah (by omega) (by omega)];omega
    rw [hag] at hA;refine⟨m',?_,⟨by omega,by rw [q2,hs]⟩,by omega⟩
    cases hd:decide (0≤iV (cY (l.take i) (n1 - (m'+1)*slW l i)))
    ·simp -implicitDefEqProofs only [ak,aF,jN,hm0,decide_true,aik,aH,if_true,htab,ew,ais,bk,aP,bD,eI,hwr,cr,hsub,her,hd,en,aim,if_false,aO,hmd]
    ·rw [hd,Bool.true_and,ajI] at hA
     simp -implicitDefEqProofs only [ak,aF,jN,hm0,decide_true,aik,aH,if_true,htab,htab1,ew,ais,bk,aP,bD,eI,hwr,cr,hsub,her,her1,hd,en,bw,hsum,hwi,fk,hA,aO,aim,if_false,hmd]
  ·rw [g4]
   simp [ctl]
def ruL (l:List Slp) (n:Nat):List Int:=if (cY l n).isSome=true then ctl l l.length n else []
theorem Rd (l:List Slp) (n:Nat) (hl:l.length≤8) (hn:n≤400) (hok:∀x∈l,(1≤x.1∧x.1≤200)∧0≤x.2∧x.2≤20) :
  pA [sls l,I (n:Int)]=some (.ret [ai (ruL l n),B (cY l n).isSome] []):=by
 rw [PY];have hfw:=yF l n hl hn hok;have htl:l.take l.length=l:=aiW;have het:=zW (l:=oh n l (l.length+1)) (i:=l.length) (by rw [pH];omega);rw [Bp (by omega),htl] at het;have her:=gT (l:=yN n (cY l)) (i:=n) (by rw [uY];omega);rw [vI (by omega)] at her;have hb0:=Bg (l:=l) (fun x hx=>(hok x hx).2.2) l.length (ain _);rw [htl] at hb0;simp -implicitDefEqProofs only [hfw,am,ak,aK,aio,aik,het,ais,bk,aP,her,bD,jN];unfold ruL;cases hv:cY l n with
 | none =>
  simp -implicitDefEqProofs only [gL,show(1048576:Int)≤1048576 by decide,decide_true,aH,if_true,ajA,aim,if_false];rfl
 | some v =>
 have hvb:=hb0 n v hv;have hv0:¬(1048576:Int)≤(v:Int):=by omega
 have wl:ail.wrap ((l.length:Int) - 1)=(l.length:Int) - 1:=ah (by omega) (by omega);simp -implicitDefEqProofs only [gL,hv0,decide_false,aH,aim,if_false,zY (show l.length≤1000000 by omega),aik,cr,wl,ajd,if_true];refine bH (fun r=>r=_) (fun(a:Nat × Nat × List Int)=>[sls l,I (a.2.1:Int),fA (oh n l (l.length+1)),ai (aiw a.1 0++a.2.2),I ((a.1:Int) - 1)]) (fun a=>a.1≤l.length∧a.2.1≤n∧(∃v,cY (l.take a.1) a.2.1=some v)∧ctl l l.length n=ctl l a.1 a.2.1++a.2.2) (fun a=>a.1)
  (fun o=>o = .ext 0 [ai (ctl l l.length n)]) ?_ (l.length,n,[]) ⟨ain _,ain _,⟨v,by dsimp only;rw [htl];exact hv⟩,by simp⟩ (by simp) ?_
 case refine_2 =>
  rintro o rfl;simp -implicitDefEqProofs only [bF,aiS,dE,if_true,ak]
 rintro⟨i1,n1,tl⟩ ⟨g1,g2,⟨v1,g3⟩,g4⟩;dsimp only at g1 g2 g3 g4;cases i1 with
 | zero =>
  right
  refine⟨_,?_,rfl,rfl⟩
  have hge:¬(0:Int)≤((0:Nat):Int) - 1:=by omega
  have e:aiw 0 0++tl=ctl l l.length n:=by rw [g4];rfl
  simp -implicitDefEqProofs only [ak,aF,jN,hge,decide_false,aik,aH,aim,if_false,e]
 | succ i =>
  left
  have hi:i<l.length:=g1;have ho:=hok l[i] (aiL hi);have hW:=adi hi (by omega);have hC:=Uf hi ho.2.1;obtain⟨u,p1,p2,p3⟩:=Md hi g3;have hpm:pk l i n1*slW l i≤n1:=by
   have:pk l i n1≤n1 / slW l i:=by unfold mx at p3;omega
   exact(aiT (by omega)).1 this
  refine⟨(i,n1 - pk l i n1*slW l i,(pk l i n1:Int)::tl),?_,⟨by dsimp only;omega,by dsimp only;omega,⟨u,p1⟩,by rw [g4];simp [ctl]⟩,by dsimp only;omega⟩
  have hidx:(((i+1:Nat):Int) - 1)=(i:Int):=by omega
  have hi0:(0:Int)≤(i:Int):=by omega
  have es:ao 2 (sls l) (I (i:Int))=some [I ((slW l i:Nat):Int),I ((slC l i:Nat):Int)]:=by rw [elS hi,hW,hC]
  have hw0:¬((slW l i:Nat):Int)=0:=by omega
  have hdl:n1 / slW l i≤n1:=Nat.div_le_self _ _;have hq:ail.wrap (((n1:Nat):Int).tdiv ((slW l i:Nat):Int))=((n1 / slW l i:Nat):Int):=by
   rw [ajf (by omega),←Int.natCast_ediv];generalize n1 / slW l i=q at hdl;exact ah (by omega) (by omega)
  have hls:=zS ((slC l i:Nat):Int) ((n1 / slW l i:Nat):Int);have hmx:(if ((slC l i:Nat):Int)<((n1 / slW l i:Nat):Int) then((slC l i:Nat):Int) else((n1 / slW l i:Nat):Int))=((mx l i n1:Nat):Int):=by
   rw [agN];unfold mx;omega
  rw [hmx] at hls;have hb:=Bg (l:=l) (fun x hx=>(hok x hx).2.2) i (by omega);have hb1:=Bg (l:=l) (fun x hx=>(hok x hx).2.2) (i+1) hi n1 v1 g3;have htab:=zW (l:=oh n l (l.length+1)) (i:=i) (by rw [pH];omega);rw [Bp (by omega)] at htab;have htab1:=zW (l:=oh n l (l.length+1)) (i:=i+1) (by rw [pH];omega);rw [Bp (by omega)] at htab1;have her1:=gT (l:=yN n (cY (l.take (i+1)))) (i:=n1) (by rw [uY];omega);rw [vI (by omega)] at her1;have hwi:=wI (show i≤1000000 by omega);have hmc:mx l i n1≤20:=by unfold mx;omega
  simp -implicitDefEqProofs only [ak,aF,hidx,jN,hi0,decide_true,aik,aH,if_true,es,ais,ej,List.drop_succ_cons,aiU,bk,aP,bD,lO,hw0,if_false,hq,hls,am];refine bH (fun r=>r=_) (fun(m:Nat)=>[sls l,I (n1:Int),fA (oh n l (l.length+1)),ai (aiw (i+1) 0++tl),I (i:Int),I (m:Int)]) (fun m=>m≤mx l i n1∧pk l i n1=GM (agr l i n1) m) (fun m=>m)
   (fun o=>o = .ext 2 [sls l,I (n1:Int),fA (oh n l (l.length+1)),ai (aiw (i+1) 0++tl),I (i:Int),I (pk l i n1:Int)]) ?_ (mx l i n1) ⟨ain _,rfl⟩ rfl ?_
  case refine_2 =>
   rintro o rfl;have hwd:ail.wrap ((i:Int) - 1)=(i:Int) - 1:=ah (by omega) (by omega);have hrf:=pF (l:=aiw (i+1) 0++tl) (i:=i) (by simp;omega);have hst:=oT (aiw (i+1) 0++tl) i (pk l i n1:Int) (by simp;omega);have hset:(aiw (i+1) 0++tl).set i (pk l i n1:Int)=aiw i 0++(pk l i n1:Int)::tl:=by
    rw [ajt,aiI,ajs _ _ (by simp)];simp
   rw [hset] at hst;have hwr:ail.wrap ((pk l i n1:Int)*((slW l i:Nat):Int))=((pk l i n1*slW l i:Nat):Int):=by
    rw [←ajn];exact ah (by omega) (by omega)
   have hsub:ail.wrap (((n1:Nat):Int) - ((pk l i n1*slW l i:Nat):Int))=((n1 - pk l i n1*slW l i:Nat):Int):=by rw [ah (by omega) (by omega)];omega
   simp -implicitDefEqProofs only [bF,aiS,dE,if_true,ak,aF,cz,ck,hrf,hst,es,ais,ej,aiU,bk,aP,bD,eI,hwr,cr,hsub,hwd,aik]
  rintro m ⟨q1,q2⟩;have hmw:m*slW l i≤n1:=by
   have:m≤n1 / slW l i:=by unfold mx at q1;omega
   exact(aiT (by omega)).1 this
  have hwr:ail.wrap ((m:Int)*((slW l i:Nat):Int))=((m*slW l i:Nat):Int):=by
   rw [←ajn];exact ah (by omega) (by omega)
  have hsub:ail.wrap (((n1:Nat):Int) - ((m*slW l i:Nat):Int))=((n1 - m*slW l i:Nat):Int):=by rw [ah (by omega) (by omega)];omega
  have her:=gT (l:=yN n (cY (l.take i))) (i:=n1 - m*slW l i) (by rw [uY];omega);rw [vI (by omega)] at her;have hag:agr l i n1 m=decide (gL (cY (l.take i) (n1 - m*slW l i))+(m:Int)=gL (cY (l.take (i+1)) n1)):=acm g3 (by omega);have hbb:=aed (o:=cY (l.take i) (n1 - m*slW l i)) fun x hx=>by have:=hb _ _ hx;omega
  have hsum:ail.wrap (gL (cY (l.take i) (n1 - m*slW l i))+(m:Int))=gL (cY (l.take i) (n1 - m*slW l i))+(m:Int):=ah (by omega) (by omega);by_cases hA:agr l i n1 m=true
  ·right
   have hpk:pk l i n1=m:=by rw [q2];exact RE hA
   rw [hag] at hA;refine⟨_,?_,rfl,rfl⟩
   rw [hpk];simp -implicitDefEqProofs only [ak,aF,aik,htab,htab1,es,ais,ej,aiU,bk,aP,bD,eI,hwr,cr,hsub,her,her1,bw,hsum,hwi,jC,hA,aix,aH,aim,if_false]
  ·left
   obtain⟨m',rfl,hs⟩:=RA (by rw [←q2];exact Ij (YY hi g3)) hA;have hmd:ail.wrap (((m'+1:Nat):Int) - 1)=(m':Int):=by rw [ah (by omega) (by omega)];omega
   rw [hag,ajI] at hA;refine⟨m',?_,⟨by omega,by rw [q2,hs]⟩,by omega⟩
   simp -implicitDefEqProofs only [ak,aF,aik,htab,htab1,es,ais,ej,aiU,bk,aP,bD,eI,hwr,cr,hsub,her,her1,bw,hsum,hwi,jC,hA,aiV,aH,if_true,hmd]
theorem Qg (l:List Slp) (n:Nat) (hl:l.length≤8) (hn:n≤400) (hok:∀x∈l,(1≤x.1∧x.1≤200)∧0≤x.2∧x.2≤20) :
  pz [sls l,I (n:Int)]=some (.ret [ruO l n] []):=by
 rw [PL];have tp1:∀(v:List Int) (a:D),ax (fe (.tup [a,ai v]) 0) 1=some (ai v):=fun _ _=>rfl
 simp -implicitDefEqProofs only [uX l (by omega),am,tpL,tp1,aik,Qk l n hl hn hok,ak]
theorem rc (l:List Slp):∀(i n:Nat),(ctl l i n).length=i
 | 0,_=>rfl
 | i+1,n=>by simp [ctl,rc l i]
def rsS:List Slp→List Int→List Slp
 | x::l,k::cs=>(x.1,ail.wrap (x.2 - k))::rsS l cs
 | l,_=>l
theorem nw:∀(l:List Slp) (cs:List Int),(rsS l cs).length=l.length
 | [],[]=>rfl
 | [],_::_=>rfl
 | _::_,[]=>rfl
 | x::l,k::cs=>by simp [rsS,nw l cs]
theorem Pe:∀(l:List Slp) (cs:List Int) (i:Nat) (hi:i<l.length) (hc:i<cs.length),(rsS l (cs.take i)).set i (l[i].1,ail.wrap (l[i].2 - cs[i]))=rsS l (cs.take (i+1))
 | x::l,k::cs,0,_,_=>by cases l<;>rfl
 | x::l,k::cs,i+1,hi,hc=>by
  have:=Pe l cs i (by simpa using hi) (by simpa using hc);simp only [ajy,rsS,List.set_cons_succ,ajr,this]
theorem Gm:∀(l:List Slp) (cs:List Int) (i:Nat) (hi:i<l.length),(rsS l (cs.take i))[i]'(by rw [nw];exact hi)=l[i]
 | x::l,cs,0,_=>by cases l<;>rfl
 | x::l,[],i+1,hi=>by simp [rsS]
 | x::l,k::cs,i+1,hi=>by
  have:=Gm l cs i (by simpa using hi);simp only [ajy,rsS,ajr,this]
theorem WW (l:List Slp) (cs:List Int) (hl:l.length≤1000) (hc:cs.length=l.length):ul [sls l,ai cs]=some (.ret [sls (rsS l cs)] []):=by
 rw [VH];have ha0:=gX (l:=[]) (m:=l) (by simp;omega);rw [ai5] at ha0;simp -implicitDefEqProofs only [bf,oR,gP,ha0,aik,aK,aio];refine aG (.ext 0 [sls (rsS l cs)]) (aY cs.length (fun i=>[sls (rsS l (cs.take i)),ai cs,I cs.length,I i]) _ (fun i hi=>?_) ?_ rfl ?_) ?_
 ·have hi':(i:Int)<(cs.length:Int):=by omega
  have hil:i<l.length:=by omega
  have hlen:i<(rsS l (cs.take i)).length:=by rw [nw];exact hil
  have hr:fd 2 (sls (rsS l (cs.take i))) (I (i:Int))=some (.ref i 0):=by rw [lu,if_pos (by simpa using hlen)]
  have hat:(atD (sls (rsS l (cs.take i))) (.ref i 1)).bind (an false 1)=some (I l[i].2):=by
   have:=Gm l cs i hil;simp [hlen,this]
  have hs:=wJ (rsS l (cs.take i)) i (ail.wrap (l[i].2 - cs[i])) hlen;rw [Gm l cs i hil,Pe l cs i hil hi] at hs;simp -implicitDefEqProofs only [ak,aF,bg,hi',decide_true,aik,aH,if_true,gT hi,ais,bk,aP,bD,cz,ck,hr,mf,ajB,hat,cr,hs,bw,wI (show i≤1000000 by omega)]
 ·simp
 ·cases l<;>rfl
 ·simp -implicitDefEqProofs only [bF,aiS,dE,if_true,ak]
theorem QZ (l:List Slp) (cs:List Int) (hl:l.length≤1000) (hc:cs.length=l.length):oU [sls l,ai cs]=some (.ret [sls (rsS l cs)] []):=by
 rw [Qv];have ha0:=gX (l:=[]) (m:=l) (by simp;omega);rw [ai5] at ha0;simp -implicitDefEqProofs only [bf,oR,gP,ha0,aik,aK,aio];refine aG (.ext 0 [sls (rsS l cs)]) (aY cs.length (fun i=>[sls (rsS l (cs.take i)),ai cs,I cs.length,I i]) _ (fun i hi=>?_) ?_ rfl ?_) ?_
 ·have hi':(i:Int)<(cs.length:Int):=by omega
  have hil:i<l.length:=by omega
  have hlen:i<(rsS l (cs.take i)).length:=by rw [nw];exact hil
  have hr:fd 2 (sls (rsS l (cs.take i))) (I (i:Int))=some (.ref i 0):=by rw [lu,if_pos (by simpa using hlen)]
  have hat:(atD (sls (rsS l (cs.take i))) (.ref i 1)).bind (an false 1)=some (I l[i].2):=by
   have:=Gm l cs i hil;simp [hlen,this]
  have hs:=wJ (rsS l (cs.take i)) i (ail.wrap (l[i].2 - cs[i])) hlen;rw [Gm l cs i hil,Pe l cs i hil hi] at hs;simp -implicitDefEqProofs only [ak,aF,bg,hi',decide_true,aik,aH,if_true,gT hi,ais,bk,aP,bD,cz,ck,hr,mf,ajB,hat,cr,hs,bw,wI (show i≤1000000 by omega)]
 ·simp
 ·cases l<;>rfl
 ·simp -implicitDefEqProofs only [bF,aiS,dE,if_true,ak]
set_option maxHeartbeats 1000000 in
theorem Zi (c:Cur) (B:Nat) (h:c.ok B) (hB:B≤3000000):∃(l:List Slp) (c':Cur),jd [mq c]=some (.ret [sls l] [mq c'])∧l.length≤20∧c'.ok (B+60):=by
 obtain⟨v,c1,e1,l1,u1,k1⟩:=ig c 5 B h (by omega) (by omega);obtain⟨v,rfl⟩:=ajm l1;rw [ES];simp -implicitDefEqProofs only [aq,aip,aiq,air,e1];have m9:=xt (l:=[3,5,6,10,12,18,30,40,200]);have mA:=xt (l:=[200,201,1,0]);have mB:=xt (l:=[20,21,-1,1]);have mC:=xt (l:=[20,21,-1,0]);simp only [aiC,ajj] at m9 mA mB mC;refine bH (fun X=>∃(l:List Slp) (c':Cur),X=some (.ret [sls l] [mq c'])∧l.length≤20∧c'.ok (B+60)) (fun a:Cur × List Slp × Nat=>[mq a.1,sls a.2.1,I (a.2.2:Int)])
  (fun a=>a.2.2≤5∧a.1.ok (B+2+4*(5 - a.2.2))∧a.2.1.length+a.2.2≤5) (fun a=>a.2.2) (fun o=>∃(l:List Slp) (c':Cur),o = .ext 0 [mq c',sls l]∧l.length≤5∧c'.ok (B+22)) ?_ (c1,[],v) ⟨by dsimp only;omega,k1.mono (by dsimp only;omega),by simp;omega⟩ rfl ?_
 ·rintro⟨ca,l,n⟩ ⟨h1,h2,h3⟩
  dsimp only at h1 h2 h3;by_cases hn:0<n
  ·have hn':(0:Int)<(n:Int):=by omega
   obtain⟨v2,c2,e2,g2,k2⟩:=GA ca [3,5,6,10,12,18,30,40,200] _ h2 (by omega) (by simp) (by simp);obtain⟨v3,c3,e3,l3,u3,k3⟩:=ig c2 6 _ k2 (by omega) (by omega);have hw:ail.wrap ((n:Int) - 1)=((n - 1:Nat):Int):=by rw [ah (by omega) (by omega)];omega
   have hp:=xo l v2 v3 (by omega);have hz:=Ap l v2 v3;refine .inl ⟨(c3,su l v2 v3,n - 1),?_,⟨by dsimp only;omega,k3.mono (by dsimp only;omega),by dsimp only;omega⟩,by dsimp only;omega⟩
   simp -implicitDefEqProofs only [aq,aip,aiq,air,hn',m9,e2,e3,hp,hw]
  ·have hn':¬(0:Int)<(n:Int):=by omega
   refine .inr ⟨_,?_,rfl,l,ca,rfl,by omega,h2.mono (by omega)⟩
   simp -implicitDefEqProofs only [aq,aip,aiq,air,hn']
 ·rintro o ⟨l,c2,rfl,g2,k2⟩
  obtain⟨w,c3,e3,l3,u3,k3⟩:=ig c2 24 _ k2 (by omega) (by omega);by_cases h0:w=0
  ·subst h0
   obtain⟨x,c4,e4,l4,u4,k4⟩:=ig c3 2 _ k3 (by omega) (by omega);obtain⟨x,rfl⟩:=ajm l4;have hw:ail.wrap (8+(x:Int))=((8+x:Nat):Int):=by rw [ah (by omega) (by omega)];omega
   simp -implicitDefEqProofs only [aq,aip,aiq,air,e3,e4,hw];refine bH (fun X=>∃(l:List Slp) (c':Cur),X=some (.ret [sls l] [mq c'])∧l.length≤20∧c'.ok (B+60)) (fun a:Cur × List Slp=>[mq a.1,sls a.2,I ((8+x:Nat):Int)])
    (fun a=>a.2.length≤8+x∧a.1.ok (B+26+2*a.2.length)) (fun a=>8+x - a.2.length) (fun o=>∃(l:List Slp) (c':Cur),o = .ext 3 [mq c',sls l]∧l.length≤20∧c'.ok (B+60)) ?_ (c4,[]) ⟨by simp,k4.mono (by dsimp only;omega)⟩ rfl ?_
   ·rintro⟨ca,l⟩ ⟨h1,h2⟩
    dsimp only at h1 h2;by_cases hn:l.length<8+x
    ·have hn':(l.length:Int)<((8+x:Nat):Int):=by omega
     obtain⟨y,c5,e5,l5,u5,k5⟩:=ig ca 4 _ h2 (by omega) (by omega);have ha:=gX (l:=l) (m:=[(ail.wrap (2+ail.wrap (3*(l.length:Int))),y)]) (by simp;omega);refine .inl ⟨(c5,l++[(ail.wrap (2+ail.wrap (3*(l.length:Int))),y)]),?_,⟨by simp;omega,k5.mono (by simp;omega)⟩,by simp;omega⟩
     simp -implicitDefEqProofs only [aq,aip,aiq,air,hn',e5,aag,BF,gP,ha]
    ·have hn':¬(l.length:Int)<((8+x:Nat):Int):=by omega
     refine .inr ⟨_,?_,rfl,l,ca,rfl,by omega,h2.mono (by omega)⟩
     simp -implicitDefEqProofs only [aq,aip,aiq,air,hn']
   ·rintro o ⟨l,c5,rfl,g5,k5⟩
    exact⟨l,c5,by simp -implicitDefEqProofs only [aq,aip,aiq,air],g5,k5⟩
  by_cases h1:w=1
  ·subst h1
   obtain⟨v4,c4,e4,l4,k4⟩:=GA c3 [200,201,1,0] _ k3 (by omega) (by simp) (by simp);obtain⟨v5,c5,e5,l5,k5⟩:=GA c4 [20,21,-1,1] _ k4 (by omega) (by simp) (by simp);have ha:=gX (l:=l) (m:=[(v4,v5)]) (by simp;omega);refine⟨l++[(v4,v5)],c5,?_,by simp;omega,k5.mono (by omega)⟩
   simp -implicitDefEqProofs only [aq,aip,aiq,air,e3,mA,e4,mB,e5,aag,BF,gP,ha]
  by_cases h2:w=2
  ·subst h2
   by_cases hl:0<l.length
   ·have hl':(0:Int)<(l.length:Int):=by omega
    obtain⟨v4,c4,e4,l4,k4⟩:=GA c3 [20,21,-1,0] _ k3 (by omega) (by simp) (by simp);have hr:fd 2 (sls l) (I 0)=some (.ref 0 0):=by
     have:=lu (z:=2) (k:=.i64) (l:=l.map slp) (i:=0);simpa [hl] using this
    have hs:=wJ l 0 v4 hl;refine⟨l.set 0 (l[0].1,v4),c4,?_,by simp;omega,k4.mono (by omega)⟩
    simp -implicitDefEqProofs only [aq,aip,aiq,air,e3,hl',mC,e4,hr,mf,ajB,hs]
   ·have hl':¬(0:Int)<(l.length:Int):=by omega
    refine⟨l,c3,?_,by omega,k3.mono (by omega)⟩
    simp -implicitDefEqProofs only [aq,aip,aiq,air,e3,hl']
  ·refine⟨l,c3,?_,by omega,k3.mono (by omega)⟩
   simp -implicitDefEqProofs only [aq,aip,aiq,air,e3,h0,h1,h2]
def slT (x:Slp):ByteArray:=aI x.2++⟨⟨[120]⟩⟩++aI x.1++⟨⟨[32]⟩⟩
def stT:List Slp→ByteArray
 | []=>⟨⟨[]⟩⟩
 | x::l=>slT x++stT l
theorem JH (a:UInt8):(⟨⟨[a]⟩⟩:ByteArray).size=1:=rfl
theorem HO {x:Slp} (h:(1≤x.1∧x.1≤200)∧0≤x.2∧x.2≤20):(aI x.1).size≤3∧(aI x.2).size≤3∧(slT x).size≤8:=by
 have s1:=bY 2 (n:=x.1) (by omega) (by omega);have s2:=bY 2 (n:=x.2) (by omega) (by omega);simp only [slT,ait,JH];omega
theorem Zd:∀(a b:List Slp),stT (a++b)=stT a++stT b
 | [],b=>bN (by simp [stT,ac])
 | x::a,b=>by simp only [aiM,stT,Zd a b,ByteArray.append_assoc]
theorem aeC (x:Slp):stT [x]=slT x:=bN (by simp [stT,ac])
theorem adf {l:List Slp} {i:Nat} (hi:i<l.length):stT (l.take (i+1))=stT (l.take i)++slT l[i]:=by
 rw [aiG hi,Zd,aeC]
theorem We:∀(l:List Slp),(∀x∈l,(1≤x.1∧x.1≤200)∧0≤x.2∧x.2≤20)→(stT l).size≤8*l.length
 | [],_=>ain 0
 | x::l,h=>by
  have h1:=(HO (h x (by simp))).2.2;have h2:=We l fun y hy=>h y (by simp [hy])
  simp only [stT,ait,aiH];omega
theorem aia (a b:Int):(an true 2 [I a,I b]).bind aL=some (slp (a,b)):=rfl
theorem uB (l:List Slp) (hl:l.length≤1000) (hok:∀x∈l,(1≤x.1∧x.1≤200)∧0≤x.2∧x.2≤20):jq [sls l]=some (.ret [T (stT l)] []):=by
 rw [Ro];simp -implicitDefEqProofs only [aq,aip,aiq,air];refine aG (.ext 0 [T (stT l)]) (aY l.length (fun i=>[T (stT (l.take i)),sls l,I l.length,I i]) _ (fun i hi=>?_) ?_ rfl rfl) ?_
 ·have hi':(i:Int)<(l.length:Int):=by omega
  have hw:ail.wrap ((i:Int)+1)=((i+1:Nat):Int):=by rw [ah (by omega) (by omega)];omega
  have ho:=hok l[i] (aiL hi);obtain⟨z1,z2,z3⟩:=HO ho;have z4:=We (l.take i) fun x hx=>hok x (List.mem_of_mem_take hx)
  have z5:(l.take i).length≤1000:=by rw [ajJ];omega
  have n1:=bT (n:=l[i].2) (by omega) (by omega);have n2:=bT (n:=l[i].1) (by omega) (by omega);have a1:=BC (a:=aI l[i].2) (b:=⟨⟨[120]⟩⟩) (by rw [JH];omega);have a2:=BC (a:=aI l[i].2++⟨⟨[120]⟩⟩) (b:=aI l[i].1) (by rw [ait,JH];omega);have a3:=BC (a:=aI l[i].2++⟨⟨[120]⟩⟩++aI l[i].1) (b:=⟨⟨[32]⟩⟩) (by rw [ait,ait,JH,JH];omega);have a4:=BC (a:=stT (l.take i)) (b:=slT l[i]) (by omega);rw [←adf hi] at a4;have e:aI l[i].2++⟨⟨[120]⟩⟩++aI l[i].1++⟨⟨[32]⟩⟩=slT l[i]:=rfl;rw [e] at a3;simp -implicitDefEqProofs only [aq,aip,aiq,air,hi',elS hi,aia,agV,n1,n2,a1,a2,a3,a4,hw]
 ·simp -implicitDefEqProofs only [aq,aip,aiq,air,Int.lt_irrefl,aiW]
 ·simp -implicitDefEqProofs only [aq,aip,aiq,air]
theorem Aj {n:Int} (h0:0≤n):ac (aI n)≠[]∧(∀b∈ac (aI n),dig b=true)∧(120:UInt8)∉ac (aI n)∧(32:UInt8)∉ac (aI n):=by
 obtain⟨h1,h2⟩:=iI h0;exact⟨h1,h2,xc h2 (by decide),xc h2 (by decide)⟩
def prt (x:Slp):List UInt8:=ac (aI x.2)++120::ac (aI x.1)
theorem aa0 (b:UInt8):ac ⟨⟨[b]⟩⟩=[b]:=rfl
theorem abm (x:Slp):ac (slT x)=prt x++[32]:=by
 simp only [slT,prt,be,aa0];simp
theorem BH (x:Slp) (l:List Slp):ac (stT (x::l))=prt x++32::ac (stT l):=by
 simp only [stT,be,abm];simp
def adT (l:List Slp):Prop:=∀x∈l,0≤x.1∧0≤x.2
def UW (l:List Slp):List Int:=l.flatMap fun x=>[x.2,x.1]
def prS:List Int→List Slp
 | a::b::r=>(b,a)::prS r
 | _=>[]
theorem VD:∀l:List Slp,prS (UW l)=l
 | []=>rfl
 | x::l=>by
  have:=VD l;simp only [UW,ajh,aiM,ai5,prS] at this ⊢;rw [this]
theorem Wz:∀l:List Slp,adT l→oA none (ac (stT l))=(UW l).map fun n=>ac (aI n)
 | [],_=>rfl
 | x::l,h=>by
  have hx:=h x (by simp);obtain⟨a1,a2,-,-⟩:=Aj hx.1;obtain⟨b1,b2,-,-⟩:=Aj hx.2;rw [BH,prt,aiI,aiM,rD b1 b2 (by decide),rD a1 a2 (by decide),Wz l fun y hy=>h y (by simp [hy])];rfl
theorem SE:∀l:List Slp,adT l→∀b∈ac (stT l),b.toNat<128
 | [],_,b,hb=>by cases hb
 | x::l,h,b,hb=>by
  have hx:=h x (by simp);rw [BH,prt,aiI,aiM,ai6,aiJ,ai6,aiJ] at hb;rcases hb with hb | rfl | hb | rfl | hb
  ·exact Fs ((Aj hx.2).2.1 b hb)
  ·decide
  ·exact Fs ((Aj hx.1).2.1 b hb)
  ·decide
  ·exact SE l (fun y hy=>h y (by simp [hy])) b hb
theorem BL {l:List Slp} (h:cB l=true):adT l:=fun x hx=>by have:=dW h x hx;omega
theorem aay {l:List Slp} (h:cB l=true):acJ (UW l):=by
 intro n hn;obtain⟨x,hx,hn⟩:=List.mem_flatMap.1 hn;have:=dW h x hx;simp only [aiJ,List.not_mem_nil,or_false] at hn;omega
theorem acK {l:List Slp} (h:cB l=true):fu (stT l)=UW l:=Rv (SE l (BL h)) (aay h) (Wz l (BL h))
theorem RG:∀l:List Slp,adT l→aX 32 (ac (stT l))=l.map prt++[[]]
 | [],_=>rfl
 | x::l,h=>by
  have hx:=h x (by simp);have hn:(32:UInt8)∉prt x:=by
   intro hm;rw [prt,ai6,aiJ] at hm;rcases hm with hm | hm | hm
   ·exact(Aj hx.2).2.2.2 hm
   ·exact absurd hm (by decide)
   ·exact(Aj hx.1).2.2.2 hm
  rw [BH,fS hn,RG l fun y hy=>h y (by simp [hy])];rfl
theorem aaz {x:Slp} (h:0≤x.1∧0≤x.2):aX 120 (prt x)=[ac (aI x.2),ac (aI x.1)]:=by
 rw [prt,fS (Aj h.2).2.2.1,ke (Aj h.1).2.2.1]
theorem XB {c:UInt8} {a:List UInt8} {l:List (List UInt8)} (h:l≠[]):er c (a::l)=a++c::er c l:=by
 cases l with
 | nil=>exact absurd rfl h
 | cons b l=>rfl
theorem UL:∀l:List Slp,er 32 (l.map prt++[[]])=ac (stT l)
 | []=>rfl
 | x::l=>by
  rw [aiC,aiM,XB (by simp),UL l,BH]
def rdP (p:ByteArray):Option Slp:=match aC 120 p with
 | [a,b]=>some (cb b,cb a)
 | _=>none
def qQ:List ByteArray→Option (List Slp)
 | []=>some []
 | p::l=>(rdP p).bind fun x=>(qQ l).map (x::·)
abbrev mkB (l:List UInt8):ByteArray:=⟨l.toArray⟩
theorem afh {x:Slp} (h:(1≤x.1∧x.1≤200)∧0≤x.2∧x.2≤20):rdP (mkB (prt x))=some x:=by
 unfold rdP aC;rw [cW,aaz (by omega)];simp only [aiC,ajj];have e:∀s:ByteArray,(⟨(ac s).toArray⟩:ByteArray)=s:=ll;rw [e,e,oH (by omega) (by omega),oH (by omega) (by omega)]
theorem RU:∀l:List Slp,(∀x∈l,(1≤x.1∧x.1≤200)∧0≤x.2∧x.2≤20)→qQ ((l.map prt).map mkB)=some l
 | [],_=>rfl
 | x::l,h=>by
  simp only [aiC,qQ];rw [afh (h x (by simp)),RU l fun y hy=>h y (by simp [hy])];rfl
theorem abQ {p:List UInt8} {x:Slp} (h:rdP (mkB p)=some x) (h1:0≤x.1) (h2:0≤x.2):p=prt x:=by
 unfold rdP aC at h;rw [cW] at h;have hj:=mW 120 p;generalize aX 120 p=q at h hj
 match q,h with
 | [a,b],h =>
  simp only [aiC,ajj,aiB] at h;subst h;have ea:=congrArg ac (tP (w:=⟨a.toArray⟩) rfl h2);have eb:=congrArg ac (tP (w:=⟨b.toArray⟩) rfl h1);rw [cW] at ea eb;rw [prt,←ea,←eb,←hj];rfl
 | [],h=>cases h
 | [_],h=>cases h
 | _::_::_::_,h=>cases h
theorem Pb:∀(o:List (List UInt8)) (l:List Slp),qQ (o.map mkB)=some l→adT l→o=l.map prt
 | [],l,h,_=>by cases h;rfl
 | p::o,l,h,hp=>by
  simp only [aiC,qQ,aiu,aiA] at h;obtain⟨x,h1,m,h2,rfl⟩:=h;have hx:=hp x (by simp);rw [abQ h1 hx.1 hx.2,Pb o m h2 fun y hy=>hp y (by simp [hy])];rfl
def pSt (s:ByteArray):Option (List Slp):=if cB (prS (fu s))=true∧stT (prS (fu s))=s then some (prS (fu s)) else none
def sSt (s:ByteArray):Option (List Slp) :=
 if (aC 32 s).length≤9∧(aC 32 s).getLast?=some ⟨⟨[]⟩⟩ then(qQ (aC 32 s).dropLast).bind fun l=>if cB l=true then some l else none else none
theorem ahI {l:List Slp} (h:cB l=true):pSt (stT l)=some l:=by
 unfold pSt;rw [acK h,VD,if_pos ⟨h,rfl⟩]
theorem ahz {l:List Slp} (h:cB l=true):sSt (stT l)=some l:=by
 have e:aC 32 (stT l)=(l.map prt).map mkB++[⟨⟨[]⟩⟩]:=by
  unfold aC;rw [RG l (BL h),ai7];rfl
 have hl:=dT h;unfold sSt;rw [e,if_pos ⟨by simp;omega,by simp⟩,List.dropLast_concat,RU l (dW h)];simp only [aik,h,if_true]
theorem ab1 {s:ByteArray} {l:List Slp} (h:pSt s=some l):cB l=true∧stT l=s:=by
 unfold pSt at h;split at h
 ·rename_i hc
  cases h;exact hc
 ·cases h
theorem abC {s:ByteArray} {l:List Slp} (h:sSt s=some l):cB l=true∧stT l=s:=by
 unfold sSt at h;split at h
 case isFalse=>cases h
 rename_i hc;obtain⟨m,h1,h2⟩:=aiu.1 h;split at h2
 case isFalse=>cases h2
 rename_i hg;cases h2;refine⟨hg,bN ?_⟩
 have hj:=mW 32 (ac s);have hne:=ed 32 (ac s);have hd:=List.dropLast_concat_getLast hne;have hL:(aX 32 (ac s)).getLast hne=[]:=by
  have:=hc.2;unfold aC at this;rw [List.getLast?_map,List.getLast?_eq_some_getLast hne,ais,aiB] at this;have:=congrArg ac this;rw [cW] at this;exact this
 have h1':qQ ((aX 32 (ac s)).dropLast.map mkB)=some l:=by
  rw [←h1];unfold aC;rw [←List.map_dropLast]
 have ho:=Pb _ l h1' (BL hg);rw [hL,ho] at hd;rw [←hd,UL] at hj;exact hj
theorem agE (s:ByteArray):sSt s=pSt s:=by
 cases h:pSt s with
 | some l =>
  obtain⟨h1,rfl⟩:=ab1 h;exact ahz h1
 | none =>
  cases h':sSt s with
  | none=>rfl
  | some l =>
   obtain⟨h1,rfl⟩:=abC h';rw [ahI h1] at h;cases h
def stO (o:Option (List Slp)):List Slp:=o.getD []
theorem HX (s:ByteArray) (h:s.size≤1048576):jI [T s]=some (.ret [sls (stO (pSt s)),B (pSt s).isSome] []):=by
 rw [GK,←agE];have hsp:=fT s 32 (by omega);have h32:U ((32:UInt8).toNat:Int)=U 32:=rfl;rw [h32] at hsp;have hsz:=fI 32 s;have hlen:(aC 32 s).length≤1048577:=by
  rw [ex];have:=eZ 32 (ac s);have:=cX s;omega
 have hpos:0<(aC 32 s).length:=by
  rw [ex];exact ajb.2 (ed _ _)
 have hdef:sSt s=if (aC 32 s).length≤9∧(aC 32 s).getLast?=some ⟨⟨[]⟩⟩ then(qQ (aC 32 s).dropLast).bind fun l=>if cB l=true then some l else none else none:=rfl
 generalize aC 32 s=ps at hsp hsz hlen hpos hdef;by_cases h9:ps.length≤9
 case neg =>
  have h9':(9:Int)<(ps.length:Int):=by omega
  rw [hdef,if_neg (fun g=>h9 g.1)];simp -implicitDefEqProofs only [aq,aip,aiq,air,hsp,h9'];rfl
 have h9':¬(9:Int)<(ps.length:Int):=by omega
 have wl:ail.wrap ((ps.length:Int) - 1)=((ps.length - 1:Nat):Int):=by rw [ah (by omega) (by omega)];omega
 have hel:ao 1 (txs ps) (I ((ps.length - 1:Nat):Int))=some [T (ps[ps.length - 1]'(by omega))]:=by
  have:ps.length - 1<ps.length:=by omega
  simp [this]
 have hlast:ps.getLast?=some (ps[ps.length - 1]'(by omega)):=by
  rw [List.getLast?_eq_getElem?,aiD (by omega)]
 by_cases hl:ps[ps.length - 1]'(by omega)=⟨⟨[]⟩⟩
 case neg =>
  rw [hdef,if_neg (fun g=>hl (by have:=hlast.symm.trans g.2;exact ajo this))];simp -implicitDefEqProofs only [aq,aip,aiq,air,hsp,h9',wl,hel,ir,hl];rfl
 have hs:dl false 1 (txs ps) (I 0) (I ((ps.length - 1:Nat):Int))=some (txs ps.dropLast):=by
  have:=mn (z:=1) (k:=.i64) (k':=.i64) (l:=ps.map T) (i:=0) (j:=ps.length - 1) (by omega) (by simp);rw [aiU,←List.map_take,←List.dropLast_eq_take] at this;exact this
 rw [if_pos ⟨h9,by rw [hlast,hl]⟩] at hdef;simp -implicitDefEqProofs only [aq,aip,aiq,air,hsp,h9',wl,hel,ir,hl,hs];have hq:∀w∈ps.dropLast,w.size≤1048576:=fun w hw=>Nat.le_trans (hsz w ((List.dropLast_sublist ps).subset hw)) h
 have hq8:ps.dropLast.length≤8:=by rw [ai8];omega
 generalize ps.dropLast=q at hdef hq hq8;refine bH (fun r=>r=_) (fun(a:List Slp × Nat)=>[sls a.1,txs q,I q.length,I (a.2:Int)]) (fun a=>a.2≤q.length∧a.1.length≤a.2∧qQ q=(qQ (q.drop a.2)).map (a.1++·)) (fun a=>q.length - a.2)
  (fun o=>o=match qQ q with
   | none=>.ret [.arr 2 [],B false] []
   | some r=>.ext 0 [sls r]) ?_ ([],0) ⟨aiO _,ain _,by simp⟩ rfl ?_
 ·rintro⟨acc,i⟩ ⟨g1,g2,g3⟩
  dsimp only at g1 g2 g3;by_cases hi:i<q.length
  ·have hi':(i:Int)<(q.length:Int):=by omega
   have hw:ail.wrap ((i:Int)+1)=((i+1:Nat):Int):=by rw [ah (by omega) (by omega)];omega
   have eq:ao 1 (txs q) (I (i:Int))=some [T q[i]]:=by simp [hi]
   have hz:=hq q[i] (aiL hi);have h2:=fT q[i] 120 (by omega);have h120:U ((120:UInt8).toNat:Int)=U 120:=rfl;rw [h120] at h2;have hz2:=fI 120 q[i];rw [aiZ hi] at g3;simp only [qQ,rdP] at g3;generalize aC 120 q[i]=w at h2 hz2 g3
   match w,h2,hz2,g3 with
   | [a,b],h2,hz2,g3 =>
    have ra:=fH a (by have:=hz2 a (by simp);omega);have rb:=fH b (by have:=hz2 b (by simp);omega);have e0:ao 1 (txs [a,b]) (I 0)=some [T a]:=rfl;have e1:ao 1 (txs [a,b]) (I 1)=some [T b]:=rfl;have ha:=gX (l:=acc) (m:=[(cb b,cb a)]) (by simp;omega);have hl2:((ajG [a,b]:Nat):Int)=2:=rfl;refine .inl ⟨(acc++[(cb b,cb a)],i+1),?_,⟨hi,by simp;omega,?_⟩,by dsimp only;omega⟩
    ·simp -implicitDefEqProofs only [aq,aip,aiq,air,hi',eq,h2,hl2,e0,e1,ra,rb,aag,BF,gP,ha,hw]
    ·rw [g3]
     simp only [aik,Option.map_map];congr 1
     funext r
     simp
   | [],h2,hz2,g3 =>
    refine .inr ⟨.ret [.arr 2 [],B false] [],?_,rfl,?_⟩
    ·simp -implicitDefEqProofs only [aq,aip,aiq,air,hi',eq,h2,ajp,Int.natCast_zero,show((0:Nat):Int)=0 from rfl]
    ·rw [g3];rfl
   | [a],h2,hz2,g3 =>
    refine .inr ⟨.ret [.arr 2 [],B false] [],?_,rfl,?_⟩
    ·have hl2:((ajG [a]:Nat):Int)=1:=rfl
     simp -implicitDefEqProofs only [aq,aip,aiq,air,hi',eq,h2,hl2]
    ·rw [g3];rfl
   | a::b::c::t,h2,hz2,g3 =>
    have hl2:¬((ajG (a::b::c::t):Nat):Int)=2:=by simp only [aiH];omega
    refine .inr ⟨.ret [.arr 2 [],B false] [],?_,rfl,?_⟩
    ·simp -implicitDefEqProofs only [aq,aip,aiq,air,hi',eq,h2,hl2]
    ·rw [g3];rfl
  ·have hi':¬(i:Int)<(q.length:Int):=by omega
   rw [ai1 (by omega)] at g3;refine .inr ⟨.ext 0 [sls acc],?_,rfl,?_⟩
   ·simp -implicitDefEqProofs only [aq,aip,aiq,air,hi']
   ·rw [g3]
    simp [qQ]
 ·rintro o rfl
  rw [hdef];cases hr:qQ q with
  | none=>rfl
  | some r =>
   have hlr:r.length≤1048576:=by
    have key:∀(q:List ByteArray) (r:List Slp),qQ q=some r→r.length=q.length:=by
     intro q;induction q with
     | nil=>intro r h;cases h;rfl
     | cons p q ih =>
      intro r h;simp only [qQ,aiu,aiA] at h;obtain⟨x,_,m,h2,rfl⟩:=h;simp [ih m h2]
    rw [key q r hr];omega
   simp -implicitDefEqProofs only [aq,aip,aiq,air,JU r hlr,agM,ago];unfold ckS stO;cases cB r<;>rfl
abbrev Nt:=Int × Int × Int
abbrev nt (x:Nt):D:=.agg [I x.1,I x.2.1,I x.2.2]
abbrev nts (l:List Nt):D:=.arr 3 (l.map nt)
def mz (x:Nt):Bool:=decide (0≤x.1∧x.1≤9999)&&decide (0≤x.2.1∧x.2.1≤3)&&decide (1≤x.2.2∧x.2.2≤99999)
theorem uw (x:Nt):py [nt x]=some (.ret [B (mz x)] []):=by
 rw [PQ];by_cases h1:0≤x.1∧x.1≤9999<;>by_cases h2:0≤x.2.1∧x.2.1≤3<;>simp [bp,mz,h1,h2]
theorem kO (a:Int):iu [I a]=some (.ret [B (decide (0≤a∧a≤9999))] []):=by
 rw [JG];simp [bB]
theorem lF (x:Nt):lj [nt x]=some (.ret [B (mz x)] []):=by
 rw [Qi];by_cases h1:0≤x.1∧x.1≤9999<;>by_cases h2:0≤x.2.1∧x.2.1≤3<;>simp [bB,kO,mz,h1,h2]
def pNt (l:List Nt) (i:Nat) (x:Nt):Bool:=mz x && !(decide (0<i)&&decide (x.1<(l.getD (i - 1) (0,0,0)).1))
def gz (l:List Nt):Bool:=nK (pNt l) 0 l&&decide (l.length≤24)
theorem eD (l:List Nt) (h:l.length≤1048576):gH [nts l]=some (.ret [B (gz l)] []):=by
 rw [Qj];simp only [aK,aio,aik];refine aG _ (pX l (fun i=>[nts l,nts l,I l.length,I i]) (pNt l) (.ret [B false] []) (.ext 0 [nts l]) (fun i hi=>?_) ?_ rfl rfl rfl) ?_
 ·have hw:ail.wrap ((i:Int)+1)=(i:Int)+1:=ah (by omega) (by omega)
  cases h1:mz l[i]
  ·simp [hi,uw,h1,pNt]
  ·by_cases h0:0<i
   ·have hw2:ail.wrap ((i:Int) - 1)=((i - 1:Nat):Int):=by rw [ah (by omega) (by omega)];omega
    have hy:i - 1<l.length:=by omega
    by_cases h2:l[i].1<l[i - 1].1<;>simp [hi,hy,uw,h1,pNt,hw,hw2,h0,h2]
   ·simp [hi,uw,h1,pNt,hw,h0]
 ·simp
 ·by_cases hg:nK (pNt l) 0 l=true<;>simp [hg,gz]
  omega
theorem cD (l:List Nt) (h:l.length≤1048576):fq [nts l]=some (.ret [B (gz l)] []):=by
 rw [Li];simp only [aK,aio,aik];refine aG _ (pX l (fun i=>[nts l,nts l,I l.length,I i]) (pNt l) (.ret [B false] []) (.ext 0 [nts l]) (fun i hi=>?_) ?_ rfl rfl rfl) ?_
 ·have hw:ail.wrap ((i:Int)+1)=(i:Int)+1:=ah (by omega) (by omega)
  cases h1:mz l[i]
  ·simp [hi,lF,h1,pNt]
  ·by_cases h0:0<i
   ·have hw2:ail.wrap ((i:Int) - 1)=((i - 1:Nat):Int):=by rw [ah (by omega) (by omega)];omega
    have hy:i - 1<l.length:=by omega
    by_cases h2:l[i].1<l[i - 1].1<;>simp [hi,hy,lF,h1,pNt,hw,hw2,h0,h2]
   ·simp [hi,lF,h1,pNt,hw,h0]
 ·simp
 ·by_cases hg:nK (pNt l) 0 l=true<;>simp [hg,gz]
  omega
theorem xz (a:Int):rv [I a]=some (.ret [B (decide (0≤a∧a≤9999))] []):=by
 rw [TX];simp [bp]
theorem eK (a:Int):fw [I a]=some (.ret [B (decide (0≤a∧a≤1000000))] []):=by
 rw [BZ];simp [bB]
def xi (g:Int) (x:Nt):Int:=if x.2.1=0∨x.2.1=3 then ail.wrap (g+x.2.2) else ail.wrap (g - x.2.2)
theorem sD (g:Int) (x:Nt):kh [I g,nt x]=some (.ret [I (xi g x)] []):=by
 rw [OK];by_cases h1:x.2.1=0
 ·simp [h1,xi]
 ·by_cases h2:x.2.1=3<;>simp [h1,h2,xi]
theorem uU (x:Nt):lJ [nt x]=some (.ret [I (if x.2.1=0∨x.2.1=3 then x.2.2 else ail.wrap (-x.2.2))] []):=by
 rw [Ql];by_cases h1:x.2.1=0
 ·simp [h1]
 ·by_cases h2:x.2.1=3<;>simp [h1,h2]
theorem Td (g:Int) (x:Nt):ail.wrap (g+if x.2.1=0∨x.2.1=3 then x.2.2 else ail.wrap (-x.2.2))=xi g x:=by
 unfold xi;split
 ·rfl
 ·exact aci
def bE (l:List Nt) (s d:Int):Int:=l.foldl (fun g x=>if x.1≤d then xi g x else g) s
def eO (l:List Nt) (s d:Int):Bool:=gz l&&decide (0≤s∧s≤1000000)&&decide (0≤d∧d≤9999)
theorem HE (l:List Nt) (s d:Int) (h:l.length≤1048576):jL [nts l,I s,I d]=some (.ret [I (if eO l s d then bE l s d else 0),B (eO l s d)] []):=by
 rw [Ie];cases h1:gz l
 ·simp [eD l h,h1,eO]
 by_cases h2:0≤s∧s≤1000000
 case neg=>simp [eD l h,bp,xz,h1,h2,eO]
 by_cases h3:0≤d∧d≤9999
 case neg=>simp [eD l h,bp,xz,h1,h2,h3,eO]
 simp only [eD l h,bp,xz,h1,h2,h3,eO,am,ak,bn,aik,bK,bZ,aO,aH,bz,aix,aim,if_false,decide_true,aK,aio,and_self,ajg,if_true];refine aG _ (aY l.length (fun i=>[I (bE (l.take i) s d),I d,nts l,I l.length,I i]) (.ext 0 [I (bE l s d)]) (fun i hi=>?_) ?_ rfl rfl) ?_
 ·have hw:ail.wrap ((i:Int)+1)=(i:Int)+1:=ah (by omega) (by omega)
  have hf:bE (l.take (i+1)) s d=if l[i].1≤d then xi (bE (l.take i) s d) l[i] else bE (l.take i) s d:=by
   unfold bE;rw [aiG hi,ajD];rfl
  by_cases h4:l[i].1≤d<;>simp [hi,h4,hw,hf,sD]
 ·simp
 ·simp
theorem GN (l:List Nt) (s d:Int) (h:l.length≤1048576):jD [nts l,I s,I d]=some (.ret [I (if eO l s d then bE l s d else 0),B (eO l s d)] []):=by
 rw [Ig];cases h1:gz l
 ·simp [cD l h,h1,eO]
 by_cases h2:0≤s∧s≤1000000
 case neg=>simp [cD l h,eK,kO,h1,h2,eO]
 by_cases h3:0≤d∧d≤9999
 case neg=>simp [cD l h,eK,kO,h1,h2,h3,eO]
 simp only [cD l h,eK,kO,h1,h2,h3,eO,am,ak,bn,aik,bK,bZ,aO,aH,bz,aix,aim,if_false,decide_true,aK,aio,and_self,ajg,if_true];refine aG _ (aY l.length (fun i=>[I (bE (l.take i) s d),I d,nts l,I l.length,I i]) (.ext 0 [I (bE l s d)]) (fun i hi=>?_) ?_ rfl rfl) ?_
 ·have hw:ail.wrap ((i:Int)+1)=(i:Int)+1:=ah (by omega) (by omega)
  have hf:bE (l.take (i+1)) s d=if l[i].1≤d then xi (bE (l.take i) s d) l[i] else bE (l.take i) s d:=by
   unfold bE;rw [aiG hi,ajD];rfl
  by_cases h4:l[i].1≤d<;>simp [hi,h4,hw,hf,uU,Td]
 ·simp
 ·simp
def mh (i:Nat) (a:Int × Int × Int) (x:Nt):Int × Int × Int:=if a.2.2<0∨xi a.1 x<a.2.1 then(xi a.1 x,xi a.1 x,i) else(xi a.1 x,a.2.1,a.2.2)
def gi (l:List Nt) (s:Int):Bool:=gz l&&decide (0≤s∧s≤1000000) && !decide (l.length=0)
def gG (l:List Nt) (s:Int):Int × Int:=if gi l s then(Eg mh 0 l (s,0,-1)).2 else(0,0)
theorem HQ (l:List Nt) (s:Int) (h:l.length≤1048576):jF [nts l,I s]=some (.ret [I (gG l s).1,I (gG l s).2,B (gi l s)] []):=by
 rw [Ha];cases h1:gz l
 ·simp [eD l h,h1,gi,gG]
 by_cases h2:0≤s∧s≤1000000
 case neg=>simp [eD l h,bp,h1,h2,gi,gG]
 by_cases h3:(l.length:Int)=0
 case pos =>
  have h3':l=[]:=aja (by omega);subst h3';simp [eD [] h,bp,h1,h2,gi,gG]
 have h3':¬l=[]:=fun e=>h3 (by simp [e])
 have hok:gi l s=true:=by simp [gi,h1,h2,h3']
 simp only [eD l h,bp,h1,h2,h3,am,ak,bn,aik,bK,bZ,aO,aH,bz,aix,aim,if_false,decide_true,decide_false,fk,aK,aio,and_self,ajg,if_true];refine aG _ (Oq l (fun i a=>[I a.1,I a.2.1,I a.2.2,nts l,I l.length,I i]) (fun _ _=>True) mh (fun a=>.ext 0 [I a.2.1,I a.2.2]) (s,0,-1) (fun i a hi _=>⟨?_,trivial⟩) (fun a _=>?_) (fun _=>rfl) trivial rfl) ?_
 ·have hw:ail.wrap ((i:Int)+1)=(i:Int)+1:=ah (by omega) (by omega)
  by_cases h4:a.2.2<0
  ·simp [hi,h4,hw,mh,sD]
  ·by_cases h5:xi a.1 l[i]<a.2.1<;>simp [hi,h4,h5,hw,mh,sD]
 ·simp
 ·simp [gG,hok]
theorem Gq (l:List Nt) (s:Int) (h:l.length≤1048576):jB [nts l,I s]=some (.ret [I (gG l s).1,I (gG l s).2,B (gi l s)] []):=by
 rw [HA];cases h1:gz l
 ·simp [cD l h,h1,gi,gG]
 by_cases h2:0≤s∧s≤1000000
 case neg=>simp [cD l h,eK,h1,h2,gi,gG]
 by_cases h3:(l.length:Int)=0
 case pos =>
  have h3':l=[]:=aja (by omega);subst h3';simp [cD [] h,eK,h1,h2,gi,gG]
 have h3':¬l=[]:=fun e=>h3 (by simp [e])
 have hok:gi l s=true:=by simp [gi,h1,h2,h3']
 simp only [cD l h,eK,h1,h2,h3,am,ak,bn,aik,bK,bZ,aO,aH,bz,aix,aim,if_false,decide_true,decide_false,fk,aK,aio,and_self,ajg,if_true];refine aG _ (Oq l (fun i a=>[I a.1,I a.2.1,I a.2.2,nts l,I l.length,I i]) (fun _ _=>True) mh (fun a=>.ext 0 [I a.2.1,I a.2.2]) (s,0,-1) (fun i a hi _=>⟨?_,trivial⟩) (fun a _=>?_) (fun _=>rfl) trivial rfl) ?_
 ·have hw:ail.wrap ((i:Int)+1)=(i:Int)+1:=ah (by omega) (by omega)
  by_cases h4:a.2.2<0
  ·simp [hi,h4,hw,mh,uU,Td]
  ·by_cases h5:xi a.1 l[i]<a.2.1<;>simp [hi,h4,h5,hw,mh,uU,Td]
 ·simp
 ·simp [gG,hok]
theorem pY {x:Nt}:mz x=true↔(0≤x.1∧x.1≤9999)∧(0≤x.2.1∧x.2.1≤3)∧(1≤x.2.2∧x.2.2≤99999):=by
 simp only [mz,aiX,decide_eq_true_eq,and_assoc]
def ckN (b:Int) (x:Nt):Int:=(31*b+17*x.1+5*x.2.1+x.2.2) % 9973
theorem rB (b:Int) (x:Nt):0≤ckN b x∧ckN b x≤9972:=by
 unfold ckN;omega
theorem WC {b:Int} {x:Nt} (hb:0≤b∧b≤9972) (hx:mz x=true):ail.wrap (31*b)=31*b∧ail.wrap (17*x.1)=17*x.1∧ail.wrap (31*b+17*x.1)=31*b+17*x.1 ∧
  ail.wrap (5*x.2.1)=5*x.2.1∧ail.wrap (31*b+17*x.1+5*x.2.1)=31*b+17*x.1+5*x.2.1∧ail.wrap (31*b+17*x.1+5*x.2.1+x.2.2)=31*b+17*x.1+5*x.2.1+x.2.2 ∧
  (31*b+17*x.1+5*x.2.1+x.2.2).tmod 9973=ckN b x:=by
 obtain⟨h1,h2,h3⟩:=pY.1 hx;refine⟨ah (by omega) (by omega),ah (by omega) (by omega),ah (by omega) (by omega),ah (by omega) (by omega),ah (by omega) (by omega),ah (by omega) (by omega),?_⟩
 rw [Int.tmod_eq_emod_of_nonneg (by omega)];rfl
theorem FM {b:Int} {x:Nt} (hb:0≤b∧b≤9972) (hx:mz x=true):kT [I b,nt x]=some (.ret [I (ckN b x)] []):=by
 rw [Uu];obtain⟨h1,h2,h3,h4,h5,h6,h7⟩:=WC hb hx;simp -implicitDefEqProofs [h1,h2,h3,h4,h5,h6,h7]
theorem AU {b:Int} {x:Nt} (hb:0≤b∧b≤9972) (hx:mz x=true):ie [I b,nt x]=some (.ret [I (ckN b x)] []):=by
 rw [OD];obtain⟨h1,h2,h3,h4,h5,h6,h7⟩:=WC hb hx;simp -implicitDefEqProofs [h1,h2,h3,h4,h5,h6,h7]
def lnT (x:Nt) (c:Int):ByteArray:=aI x.1++⟨#[32]⟩++aI x.2.1++⟨#[32]⟩++aI x.2.2++⟨#[32]⟩++aI c++⟨#[10]⟩
theorem En {x:Nt} {c:Int} (hx:mz x=true) (hc:0≤c∧c≤9972):lN [nt x,I c]=some (.ret [T (lnT x c)] []):=by
 rw [Pw];obtain⟨h1,h2,h3⟩:=pY.1 hx;have s1:=bY 9 (n:=x.1) (by omega) (by omega);have s2:=bY 9 (n:=x.2.1) (by omega) (by omega);have s3:=bY 9 (n:=x.2.2) (by omega) (by omega);have s4:=bY 9 (n:=c) (by omega) (by omega);have n1:=bT (n:=x.1) (by omega) (by omega);have n2:=bT (n:=x.2.1) (by omega) (by omega);have n3:=bT (n:=x.2.2) (by omega) (by omega);have n4:=bT (n:=c) (by omega) (by omega);simp -implicitDefEqProofs (disch:=(first | assumption | (simp only [ait,sz1];omega))) [n1,n2,n3,n4,XT,-fY,lnT]
theorem Ur (l:List Int) (sep:ByteArray) (hl:l.length≤1048576) (hr:∀n∈l,-9223372036854775808≤n∧n≤9223372036854775807) (hz:(qm (l.map aI) sep).size≤140737488355328):dg [nR l,T sep]=some (.ret [T (qm (l.map aI) sep)] []):=by
 rw [zG];simp only [bf,aik,aK,aio];refine aG _ (aY l.length (fun i=>[T sep,.arr 1 (((l.take i).map aI).map T),nR l,I l.length,I (i:Int)]) (.ext 0 [T sep,.arr 1 ((l.map aI).map T)]) (fun i hi=>?_) ?_ rfl rfl) ?_
 ·have hi':(i:Int)<(l.length:Int):=by omega
  have hw:ail.wrap ((i:Int)+1)=((i+1:Nat):Int):=by rw [ah (by omega) (by omega)];omega
  have hel:ao 1 (nR l) (I (i:Int))=some [I l[i]]:=by simp [hi]
  have hr':=hr l[i] (aiL hi);have hIt:=Mg hr'.1 hr'.2;have e1:(((l.take i).map aI).map T).length+[T (aI l[i])].length=i+1:=by
   simp only [aio,ajJ,aiH,ajp];omega
  have hap:(i+1)*16≤140737488355328∧i+1≤1152921504606846976:=by omega
  have hck:cT (.arr 1 [T (aI l[i])])=some (.arr 1 [T (aI l[i])]):=sk [aI l[i]];have htk:((l.take (i+1)).map aI).map T=((l.take i).map aI).map T++[T (aI l[i])]:=by
   rw [aiG hi,ai7,ai7];rfl
  simp only [ak,aF,bg,hi',decide_true,aik,aH,if_true,hel,ais,bk,aP,bD,hIt,am,vn,hck,hD,e1,hap,and_self,bw,hw,htk]
 ·have hi':¬(l.length:Int)<(l.length:Int):=by omega
  simp only [ak,aF,bg,hi',decide_false,aik,aH,aim,if_false,aiW]
 ·have hj:Ez [.arr 1 ((l.map aI).map T),T sep]=some (.ret [T (qm (l.map aI) sep)] []):=by
   simp only [Ez,Bv,aik,aio];rw [if_pos ⟨by omega,hz⟩]
  simp only [bF,aiS,dE,if_true,ak,aF,cz,ck,aik,hj,am]
theorem ac4 {r:Option Out} {rs us:List D} {k:List D→List D→Option Out} {o:Option Out} (h:r=some (.ret rs us)) (hk:k rs us=o):ae r k=o:=by rw [h];exact hk
theorem ahH (a b c d:ByteArray) (s:ByteArray):qm [a,b,c,d] s=a++s++b++s++c++s++d:=by
 apply bN;simp only [be];unfold qm;rw [cW];simp [Lib.join,List.intercalate,List.intersperse,ac]
theorem xC {x:Nt} {c:Int} (hx:mz x=true) (hc:0≤c∧c≤9972):jl [nt x,I c]=some (.ret [T (lnT x c)] []):=by
 rw [LM];obtain⟨h1,h2,h3⟩:=pY.1 hx;have s1:=bY 9 (n:=x.1) (by omega) (by omega);have s2:=bY 9 (n:=x.2.1) (by omega) (by omega);have s3:=bY 9 (n:=x.2.2) (by omega) (by omega);have s4:=bY 9 (n:=c) (by omega) (by omega);have hj4:qm ([x.1,x.2.1,x.2.2,c].map aI) ⟨#[32]⟩=aI x.1++⟨#[32]⟩++aI x.2.1++⟨#[32]⟩++aI x.2.2++⟨#[32]⟩++aI c:=ahH _ _ _ _ _;have hjz:(qm ([x.1,x.2.1,x.2.2,c].map aI) ⟨#[32]⟩).size≤100:=by
  rw [hj4];simp only [ait,sz1];omega
 have hj:=Ur [x.1,x.2.1,x.2.2,c] ⟨#[32]⟩ (by simp) (by simp;omega) (by omega);rw [hj4] at hj;have hm:aB 1 [I x.1,I x.2.1,I x.2.2,I c]=some (nR [x.1,x.2.1,x.2.2,c]):=by simp [aB,kv]
 simp -implicitDefEqProofs [hm];refine ac4 (hj:dg [nR [x.1,x.2.1,x.2.2,c],T ⟨#[32]⟩]=_) ?_
 simp -implicitDefEqProofs (disch:=(first | assumption | (simp only [ait,sz1];omega))) [XT,-fY,lnT]
theorem Sg (x:Nt) (c:Int):ac (lnT x c)=(ac (aI x.1)++32::(ac (aI x.2.1)++32::(ac (aI x.2.2)++32::ac (aI c))))++[10]:=by
 simp only [lnT,be,aiI,aiM,show ac ⟨#[32]⟩=[32] from rfl,show ac ⟨#[10]⟩=[10] from rfl,ai5]
def lnL (x:Nt) (c:Int):List UInt8:=ac (aI x.1)++32::(ac (aI x.2.1)++32::(ac (aI x.2.2)++32::ac (aI c)))
theorem ZX {x:Nt} {c:Int} {s:ByteArray}:lnT x c=s++⟨#[10]⟩↔ac s=lnL x c:=by
 constructor
 ·intro h
  have:=congrArg ac h;rw [Sg,be] at this;exact(List.append_inj_left' this rfl).symm
 ·intro h
  apply bN;rw [Sg,be,h];rfl
theorem aaP {x:Nt} {c:Int} (hx:mz x=true) (hc:0≤c∧c≤9972) {s:ByteArray} (hs:ac s=lnL x c):fu s=[x.1,x.2.1,x.2.2,c]:=by
 obtain⟨h1,h2,h3⟩:=pY.1 hx;have d1:=iI (n:=x.1) (by omega);have d2:=iI (n:=x.2.1) (by omega);have d3:=iI (n:=x.2.2) (by omega);have d4:=iI (n:=c) (by omega);refine ab2 ?_ (by simp;omega) ?_
 ·rw [hs]
  intro b hb;simp only [lnL,ai6,aiJ] at hb;rcases hb with hb | rfl | hb | rfl | hb | rfl | hb<;>first
   | decide
   | exact Fs (d1.2 b hb)
   | exact Fs (d2.2 b hb)
   | exact Fs (d3.2 b hb)
   | exact Fs (d4.2 b hb)
 ·rw [hs,lnL,rD d1.1 d1.2 (by decide),rD d2.1 d2.2 (by decide),rD d3.1 d3.2 (by decide),Si d4.1 d4.2]
  rfl
theorem YI {x:Nt} {c:Int} (hx:mz x=true) (hc:0≤c∧c≤9972) {s:ByteArray} (hs:ac s=lnL x c):aC 32 s=[aI x.1,aI x.2.1,aI x.2.2,aI c]:=by
 obtain⟨h1,h2,h3⟩:=pY.1 hx;have d1:=iI (n:=x.1) (by omega);have d2:=iI (n:=x.2.1) (by omega);have d3:=iI (n:=x.2.2) (by omega);have d4:=iI (n:=c) (by omega);unfold aC;rw [hs,lnL,fS (xc d1.2 (by decide)),fS (xc d2.2 (by decide)),fS (xc d3.2 (by decide)),ke (xc d4.2 (by decide))];simp only [aiC,ajj,ll]
theorem kb {l:List Nt} {x:Nt} (h:gz (l++[x])=true):mz x=true∧l.length+1≤24:=by
 unfold gz at h;simp only [aiX,decide_eq_true_eq] at h;refine⟨?_,by simpa using h.2⟩
 have key:∀(p:Nat→Nt→Bool) (m:List Nt) (i:Nat),nK p i (m++[x])=true→p (i+m.length) x=true:=by
  intro p m;induction m with
  | nil=>intro i hi;simpa [nK] using hi
  | cons y m ih =>
   intro i hi;simp only [aiM,nK,aiX] at hi;have:=ih (i+1) hi.2;rw [aiH,show i+(m.length+1)=i+1+m.length by omega];exact this
 have:=key _ _ _ h.1;simp only [pNt,aiX] at this;exact this.1
def Qe (l:List Nt) (c:Int) (s:ByteArray):Option Nt :=
 match fu s with
 | [a,b,g,_]=>if gz (l++[(a,b,g)])=true∧lnT (a,b,g) (ckN c (a,b,g))=s++⟨#[10]⟩ then some (a,b,g) else none
 | _=>none
def FR (l:List Nt) (c:Int) (s:ByteArray):Option Nt :=
 match aC 32 s with
 | [a,b,g,_]=>if gz (l++[(cb a,cb b,cb g)])=true∧lnT (cb a,cb b,cb g) (ckN c (cb a,cb b,cb g))=s++⟨#[10]⟩ then some (cb a,cb b,cb g) else none
 | _=>none
theorem aaO {l:List Nt} {c:Int} {s:ByteArray} {x:Nt} (h:Qe l c s=some x):gz (l++[x])=true∧lnT x (ckN c x)=s++⟨#[10]⟩:=by
 unfold Qe at h;split at h
 ·split at h
  ·rename_i hc
   cases h;exact hc
  ·cases h
 ·cases h
theorem SD {l:List Nt} {c:Int} {s:ByteArray} {x:Nt} (h:FR l c s=some x):gz (l++[x])=true∧lnT x (ckN c x)=s++⟨#[10]⟩:=by
 unfold FR at h;split at h
 ·split at h
  ·rename_i hc
   cases h;exact hc
  ·cases h
 ·cases h
theorem afq {l:List Nt} {c:Int} {s:ByteArray} {x:Nt} (h:gz (l++[x])=true) (hs:lnT x (ckN c x)=s++⟨#[10]⟩):Qe l c s=some x:=by
 have hx:=(kb h).1;unfold Qe;rw [aaP hx (rB c x) (ZX.1 hs)];simp only;rw [if_pos ⟨h,hs⟩]
theorem aeu {l:List Nt} {c:Int} {s:ByteArray} {x:Nt} (h:gz (l++[x])=true) (hs:lnT x (ckN c x)=s++⟨#[10]⟩):FR l c s=some x:=by
 have hx:=(kb h).1;obtain⟨h1,h2,h3⟩:=pY.1 hx;unfold FR;rw [YI hx (rB c x) (ZX.1 hs)];simp only;rw [oH (n:=x.1) (by omega) (by omega),oH (n:=x.2.1) (by omega) (by omega),oH (n:=x.2.2) (by omega) (by omega),if_pos ⟨h,hs⟩]
theorem ag6 (l:List Nt) (c:Int) (s:ByteArray):Qe l c s=FR l c s:=by
 cases hi:Qe l c s with
 | some x =>
  obtain⟨h1,h2⟩:=aaO hi;rw [aeu h1 h2]
 | none =>
  cases hs:FR l c s with
  | none=>rfl
  | some x =>
   obtain⟨h1,h2⟩:=SD hs;rw [afq h1 h2] at hi;cases hi
def lb:List (List UInt8)→List Nt→Int→Nat→List Nt × Nat
 | [],l,_,u=>(l,u)
 | m::ms,l,c,u=>match FR l c ⟨m.toArray⟩ with
  | some x=>lb ms (l++[x]) (ckN c x) (u+(m.length+1))
  | none=>(l,u)
abbrev mkT (l:List UInt8):ByteArray:=⟨l.toArray⟩
theorem qc (l:List UInt8):(mkT l).size=l.length:=rfl
theorem Ok (c:UInt8):∀(l:List UInt8),∀m∈aX c l,m.length≤l.length:=by
 intro l m hm;have:=fI c (mkT l) (mkT m) (ajC.2 ⟨m,by rw [cW];exact hm,rfl⟩);exact this
theorem Yq (x:Nt):stD 3 (.agg [I 0,I 0,I 0]) (.ref 0 0) (nt x)=some (nt x):=by simp
theorem xv {l:List Nt} {m:List Nt} (h:l.length+m.length≤1048576):bC 3 24 (nts l) (nts m)=some (nts (l++m)):=by
 have e1:(l.map nt).length+(m.map nt).length=l.length+m.length:=by simp
 have h1:(l.length+m.length)*24≤140737488355328∧l.length+m.length≤1152921504606846976:=by omega
 rw [hD,e1,if_pos h1,←ai7]
theorem Um (x:Nt):aB 3 [nt x]=some (nts [x]):=by simp [aB,kv]
theorem Pr (x:Nt):bh true 3 0 (nt x)=some (nt x):=by simp
theorem Tc (l:List Nt):cT (nts l)=some (nts l):=sr fun _=>rfl
theorem ab8 (a b c:Int):dp [(0,1),(1,1),(2,1)] [I 0,I 0,I 0] [I a,I b,I c]=some (nt (a,b,c)):=by
 simp [dp,Eb]
theorem uQ (s:ByteArray) (h:s.size≤1048576):pr [T s]=some (.ret [nts (lb (aX 10 (ac s)).dropLast [] 7 0).1,I ((lb (aX 10 (ac s)).dropLast [] 7 0).2:Int)] []):=by
 rw [Qh];have hs:cg [T s,D.v (aiK IntKind.u8 10)]=some (.ret [.arr 1 ((aC 10 s).map T)] []):=fT s 10 (by omega);have hll:=eZ 10 (ac s);have hsz:s.size=(ac s).length:=rfl;have hne:=ed 10 (ac s);have hmem:∀m∈(aX 10 (ac s)).dropLast,m.length≤1048576:=by
  intro m hm;have:=Ok 10 (ac s) m (List.dropLast_subset _ hm);omega
 have hlen:(aX 10 (ac s)).dropLast.length+1=(aX 10 (ac s)).length:=by
  rw [ai8];have:=ajb.2 hne;omega
 have hpre:dl false 1 (.arr 1 ((aC 10 s).map T)) (I 0) (I ((aX 10 (ac s)).dropLast.length:Int))=some (.arr 1 (((aX 10 (ac s)).dropLast.map mkT).map T)):=by
  have:=mn (z:=1) (i:=0) (j:=(aX 10 (ac s)).dropLast.length) (l:=(aC 10 s).map T) (k:=.i64) (k':=.i64) (aiO _) (by simp [aC]);rw [show I 0=D.v (aiK .i64 ((0:Nat):Int)) from rfl,this];rw [aiU,ai8,aC];simp -implicitDefEqProofs only [←List.map_take,List.dropLast_eq_take]
 rw [hs];have e1:((aC 10 s).map T).length=(aX 10 (ac s)).length:=by simp [aC]
 have hw:ail.wrap (((aX 10 (ac s)).length:Int) - 1)=((aX 10 (ac s)).dropLast.length:Int):=by
  rw [ah (by omega) (by omega)];omega
 simp -implicitDefEqProofs only [am,ak,aK,e1,aik,cr,hw,hpre,aio];generalize (aX 10 (ac s)).dropLast=ms at hmem hlen;have hms:ms.length≤1048576:=by omega
 clear hpre hw hs e1 hlen hne hll hsz;refine aG _ (Bs ms (fun i (a:List Nt × Nat × Int)=>[nts a.1,I (a.2.1:Int),I a.2.2,.arr 1 ((ms.map mkT).map T),I (ms.length:Int),I (i:Int)]) (fun i a=>a.1.length≤24∧(0≤a.2.2∧a.2.2≤9972)∧a.2.1≤i*1048577)
  (fun _ m a=>match FR a.1 a.2.2 (mkT m) with
   | some x=>.inl (a.1++[x],a.2.1+(m.length+1),ckN a.2.2 x)
   | none=>.inr (.ext 0 [nts a.1,I (a.2.1:Int)])) (fun a=>.ext 0 [nts a.1,I (a.2.1:Int)]) ?_ ?_ ([],0,7) ⟨aiO _,⟨by decide,by decide⟩,aiO _⟩ rfl) ?_
 ·rintro i m ⟨l,u,c⟩ hm ⟨hl,hc,hu⟩
  simp only at hl hc hu;have hi:i<ms.length:=(ai0.1 hm).1;have hmz:m.length≤1048576:=hmem m (List.mem_of_getElem? hm);have hi':(i:Int)<(ms.length:Int):=by omega
  have hel:ao 1 (.arr 1 ((ms.map mkT).map T)) (I (i:Int))=some [T (mkT m)]:=by simp [hm]
  have hsp:cg [T (mkT m),D.v (aiK IntKind.u8 32)]=some (.ret [.arr 1 ((aC 32 (mkT m)).map T)] []):=fT (mkT m) 32 (by rw [qc];omega);have hz:=fI 32 (mkT m);have hll:(aC 32 (mkT m)).length≤1048577:=by
   have h1:=eZ 32 (ac (mkT m));have h2:=ex 32 (mkT m);have h3:(ac (mkT m)).length=m.length:=rfl;omega
  simp -implicitDefEqProofs only [qc] at hz;simp -implicitDefEqProofs only [ak,aF,bg,hi',decide_true,aik,aH,if_true,hel,ais,bk,aP,bD,hsp,am,aK,aio,jC];by_cases h4:(aC 32 (mkT m)).length=4
  ·obtain⟨w0,w1,w2,w3,hws⟩:∃w0 w1 w2 w3,aC 32 (mkT m)=[w0,w1,w2,w3]:=by
    generalize aC 32 (mkT m)=ws at h4
    match ws,h4 with
    | [a,b,c,d],_=>exact⟨a,b,c,d,rfl⟩
   rw [hws] at hz ⊢;have q0:=fH w0 (by have:=hz w0 (by simp);omega);have q1:=fH w1 (by have:=hz w1 (by simp);omega);have q2:=fH w2 (by have:=hz w2 (by simp);omega);have e0:ao 1 (.arr 1 ([w0,w1,w2,w3].map T)) (I 0)=some [T w0]:=rfl;have e1:ao 1 (.arr 1 ([w0,w1,w2,w3].map T)) (I 1)=some [T w1]:=rfl;have e2:ao 1 (.arr 1 ([w0,w1,w2,w3].map T)) (I 2)=some [T w2]:=rfl;have hacc:FR l c (mkT m)=if gz (l++[(cb w0,cb w1,cb w2)])=true∧lnT (cb w0,cb w1,cb w2) (ckN c (cb w0,cb w1,cb w2))=mkT m++⟨#[10]⟩ then some (cb w0,cb w1,cb w2) else none:=by
    unfold FR;rw [hws]
   have h4n:((([w0,w1,w2,w3]:List ByteArray).length:Nat):Int)=4:=rfl;rw [hacc];simp -implicitDefEqProofs only [h4n,decide_true,aix,aim,if_false,e0,e1,e2,ais,aik,bk,aP,bD,q0,q1,q2,am,ak,ab8];generalize (cb w0,cb w1,cb w2)=y at hacc ⊢;have hap:=xv (l:=l) (m:=[y]) (by simp;omega);have hg:=eD (l++[y]) (by simp;omega);have ha0:bC 3 24 (.arr 3 []) (nts l)=some (nts l):=xv (l:=[]) (m:=l) (by simp;omega);simp -implicitDefEqProofs only [Yq,aik,bf,ck,cz,cy,ha0,Pr,Um,Tc,hap,hg,am,ak,bn];cases hgd:gz (l++[y])
   ·simp -implicitDefEqProofs [hgd,Out.ends]
   have hy:=(kb hgd).1;have hck:=rB c y;have j1:=AU hc hy;have j2:=En hy hck;have hadd:bin BinOp.add false [] (T (mkT m)) (D.v (ai9 {data:={toList:=[10]}}))=some (T (mkT m++⟨#[10]⟩)):=by
    rw [show(D.v (ai9 {data:={toList:=[10]}}))=T ⟨#[10]⟩ from rfl,fY,if_pos (by simp [qc];omega)]
   simp -implicitDefEqProofs only [aix,bK,aim,if_false,aik,bZ,j1,j2,am,bz,ak,hadd,ir,aO,aH];by_cases he:lnT y (ckN c y)=mkT m++⟨#[10]⟩
   ·have hw1:ail.wrap ((m.length:Int)+1)=(m.length:Int)+1:=ah (by omega) (by omega)
    have hw2:ail.wrap ((u:Int)+((m.length:Int)+1))=((u+(m.length+1):Nat):Int):=by rw [ah (by omega) (by omega)];omega
    have hw3:ail.wrap ((i:Int)+1)=((i+1:Nat):Int):=by rw [ah (by omega) (by omega)];omega
    simp -implicitDefEqProofs only [he,decide_true,aix,aim,if_false,hgd,and_self,if_true,j1,am,ak,dZ,qc,aik,bw,hw1,hw2,hw3];have hll:(l++[y]).length≤24:=by
     rw [aiP,ai3];exact(kb hgd).2
    have huu:u+(m.length+1)≤(i+1)*1048577:=by omega
    exact⟨trivial,hll,hck,huu⟩
   ·simp [he,hgd,Out.ends]
  ·have hacc:FR l c (mkT m)=none:=by
    unfold FR;split
    ·rename_i hh
     exact absurd (by rw [hh];rfl) h4
    ·rfl
   rw [hacc];have h4':¬((aC 32 (mkT m)).length:Int)=4:=by omega
   simp -implicitDefEqProofs only [h4',decide_false,aiV,if_true];simp [Out.ends]
 ·rintro⟨l,u,c⟩ _
  have hi':¬(ms.length:Int)<(ms.length:Int):=by omega
  simp -implicitDefEqProofs only [ak,aF,bg,hi',decide_false,aik,aH,aim,if_false];simp [Out.ends]
 ·have key:∀(ms:List (List UInt8)) (i:Nat) (l:List Nt) (u:Nat) (c:Int),goL (fun _ m (a:List Nt × Nat × Int)=>match FR a.1 a.2.2 (mkT m) with
   | some x=>.inl (a.1++[x],a.2.1+(m.length+1),ckN a.2.2 x)
   | none=>.inr (.ext 0 [nts a.1,I (a.2.1:Int)])) (fun a=>.ext 0 [nts a.1,I (a.2.1:Int)]) i ms (l,u,c) = .ext 0 [nts (lb ms l c u).1,I ((lb ms l c u).2:Int)]:=by
   intro ms;induction ms with
   | nil=>intro i l u c;rfl
   | cons m ms ih =>
    intro i l u c;simp -implicitDefEqProofs only [goL,lb];cases FR l c (mkT m) with
    | some x=>exact ih (i+1) _ _ _
    | none=>rfl
  rw [key];simp -implicitDefEqProofs only [bF,aiS,dE,if_true,ak,aF]
theorem aha (w:ByteArray) (h:w.size≤1048576):Ti [T w,T ⟨#[10]⟩]=some (.ret [T (mkT (ai4 (ac w) [10]).1),T (mkT (ai4 (ac w) [10]).2.1),B (ai4 (ac w) [10]).2.2] []):=by
 simp -implicitDefEqProofs only [Ti];rw [if_pos (by omega)];rfl
theorem ahD (r:List UInt8):(10:UInt8)∉r∨∃a b,r=a++10::b∧(10:UInt8)∉a:=by
 induction r with
 | nil=>left;simp
 | cons x r ih =>
  by_cases hx:x=10
  ·right
   exact⟨[],r,by rw [hx];rfl,by simp⟩
  ·rcases ih with ih | ⟨a,b,rfl,ha⟩
   ·left
    simp -implicitDefEqProofs only [aiJ,not_or];exact⟨fun e=>hx e.symm,ih⟩
   ·right
    refine⟨x::a,b,rfl,?_⟩
    simp -implicitDefEqProofs only [aiJ,not_or];exact⟨fun e=>hx e.symm,ha⟩
theorem abJ (x y:ByteArray) (z:Bool):ax (.tup [T x,T y,B z]) 0=some (T x):=rfl
theorem adN (x y:ByteArray) (z:Bool):ax (.tup [T x,T y,B z]) 1=some (T y):=rfl
theorem ado (x y:ByteArray) (z:Bool):ax (.tup [T x,T y,B z]) 2=some (B z):=rfl
theorem wt (s:ByteArray) (h:s.size≤1048576):kP [T s]=some (.ret [nts (lb (aX 10 (ac s)).dropLast [] 7 0).1,I ((lb (aX 10 (ac s)).dropLast [] 7 0).2:Int)] []):=by
 rw [JR];have hsz:s.size=(ac s).length:=rfl;generalize hR:lb (aX 10 (ac s)).dropLast [] 7 0=R;simp -implicitDefEqProofs only [bf,aik];refine bH (fun r=>r=_) (fun(a:List Nt × Int × Nat)=>[T s,nts a.1,I a.2.1,I (a.2.2:Int)]) (fun a=>a.1.length≤24∧(0≤a.2.1∧a.2.1≤9972)∧a.2.2≤s.size∧lb (aX 10 ((ac s).drop a.2.2)).dropLast a.1 a.2.1 a.2.2=R)
  (fun a=>s.size - a.2.2) (fun o=>o = .ret [nts R.1,I (R.2:Int)] []) ?_ ([],7,0) ⟨aiO _,⟨by decide,by decide⟩,aiO _,hR⟩ rfl ?_
 ·rintro⟨l,c,u⟩ ⟨hl,hc,hu,hr⟩
  simp only at hl hc hu hr;have hsl:=GV (s:=s) (z:=0) (i:=u) hu;have hwz:(s.extract u s.size).size≤1048576:=by rw [ByteArray.size_extract];omega
  have hcut:=aha (s.extract u s.size) hwz;have hch:ac (s.extract u s.size)=(ac s).drop u:=by
   rw [eA,hsz,aiW]
  have emp:(D.v (ai9 {data:={toList:=[10]}}))=T ⟨#[10]⟩:=rfl;rw [hch] at hcut;have hlen:((ac s).drop u).length=s.size - u:=by rw [List.length_drop,hsz]
  simp -implicitDefEqProofs only [ak,aF,hsl,aik,emp,hcut,am];generalize hdrop:(ac s).drop u=r at hcut hr hlen;rcases ahD r with hn | ⟨a,b,rfl,ha⟩
  ·right
   have hnum:=kQ (mkT r) (by rw [qc];omega);rw [ke hn] at hr;refine⟨_,?_,rfl,rfl⟩
   rw [←hr,Oz hn];simp -implicitDefEqProofs only [abJ,adN,ado,aik,hnum,am,ak,bn,aiV,bK,if_true,aO,aH];rfl
  ·have hnum:=kQ (mkT a) (by rw [qc];simp at hlen;omega)
   rw [fS ha,List.dropLast_cons_of_ne_nil (ed 10 b)] at hr;simp -implicitDefEqProofs only [lb] at hr;rw [←ag6] at hr;rw [SS ha];simp -implicitDefEqProofs only [abJ,adN,ado,aik,hnum,am,ak,bn,aix,bK,aim,if_false,aK,aio,jC,aO,aH];by_cases h4:(fu (mkT a)).length=4
   ·obtain⟨w0,w1,w2,w3,hws⟩:∃w0 w1 w2 w3,fu (mkT a)=[w0,w1,w2,w3]:=by
     generalize fu (mkT a)=ws at h4
     match ws,h4 with
     | [a,b,c,d],_=>exact⟨a,b,c,d,rfl⟩
    have hacc:Qe l c (mkT a)=if gz (l++[(w0,w1,w2)])=true∧lnT (w0,w1,w2) (ckN c (w0,w1,w2))=mkT a++⟨#[10]⟩ then some (w0,w1,w2) else none:=by
     unfold Qe;rw [hws]
    rw [hacc] at hr;rw [hws];have e0:ao 1 (nR [w0,w1,w2,w3]) (I 0)=some [I w0]:=rfl;have e1:ao 1 (nR [w0,w1,w2,w3]) (I 1)=some [I w1]:=rfl;have e2:ao 1 (nR [w0,w1,w2,w3]) (I 2)=some [I w2]:=rfl;have h4n:((([w0,w1,w2,w3]:List Int).length:Nat):Int)=4:=rfl;simp -implicitDefEqProofs only [h4n,decide_true,aix,aim,if_false,e0,e1,e2,ais,aik,bk,aP,bD,am,ak,ab8];generalize (w0,w1,w2)=y at hr ⊢;have hap:=xv (l:=l) (m:=[y]) (by simp;omega);have hg:=cD (l++[y]) (by simp;omega);have ha0:bC 3 24 (.arr 3 []) (nts l)=some (nts l):=xv (l:=[]) (m:=l) (by simp;omega);simp -implicitDefEqProofs only [Yq,aik,bf,ck,cz,cy,ha0,Pr,Um,Tc,hap,hg,am,ak,bn];cases hgd:gz (l++[y])
    ·right
     rw [hgd] at hr;refine⟨_,?_,rfl,rfl⟩
     rw [←hr];simp -implicitDefEqProofs
    have hy:=(kb hgd).1;have hck:=rB c y;have j1:=FM hc hy;have j2:=xC hy hck;have haz:a.length+1≤s.size - u:=by
     rw [aiP,aiH] at hlen;omega
    have hadd:bin BinOp.add false [] (T (mkT a)) (T ⟨#[10]⟩)=some (T (mkT a++⟨#[10]⟩)):=by
     rw [fY,if_pos (by rw [qc,sz1];omega)]
    simp -implicitDefEqProofs only [aix,bK,aim,if_false,aik,bZ,j1,j2,am,bz,ak,hadd,ir,aO,aH];by_cases he:lnT y (ckN c y)=mkT a++⟨#[10]⟩
    ·left
     have hw1:ail.wrap ((a.length:Int)+1)=(a.length:Int)+1:=ah (by omega) (by omega);have hw2:ail.wrap ((u:Int)+((a.length:Int)+1))=((u+(a.length+1):Nat):Int):=by rw [ah (by omega) (by omega)];omega
     simp -implicitDefEqProofs only [he,decide_true,aix,aim,if_false,hgd,and_self,if_true,j1,am,ak,dZ,qc,aik,bw,hw1,hw2] at hr ⊢;have hll:(l++[y]).length≤24:=by
      rw [aiP,ai3];exact(kb hgd).2
     have hdr:(ac s).drop (u+(a.length+1))=b:=by
      rw [←ajM,hdrop];rw [←ajM];simp
     refine⟨(l++[y],ckN c y,u+(a.length+1)),rfl,⟨hll,hck,by simp only;omega,?_⟩,by simp only;omega⟩
     simp -implicitDefEqProofs only [hdr];exact hr
    ·right
     refine⟨_,?_,rfl,rfl⟩
     rw [if_neg (fun g=>he g.2)] at hr;rw [←hr];simp -implicitDefEqProofs [he]
   ·right
    have hacc:Qe l c (mkT a)=none:=by
     unfold Qe;split
     ·rename_i hh
      exact absurd (by rw [hh];rfl) h4
     ·rfl
    rw [hacc] at hr;have h4':¬((fu (mkT a)).length:Int)=4:=by omega
    refine⟨_,?_,rfl,rfl⟩
    rw [←hr];simp -implicitDefEqProofs only [h4',decide_false,aiV,if_true]
 ·rintro o rfl
  rfl
abbrev jo (s:ByteArray):List Nt × Nat:=lb (aX 10 (ac s)).dropLast [] 7 0
theorem NY:∀(ms:List (List UInt8)) (l:List Nt) (c:Int) (u:Nat),l.length≤24→(lb ms l c u).1.length≤24
 | [],_,_,_,h=>h
 | m::ms,l,c,u,h=>by
  simp only [lb];split
  ·rename_i x hx
   refine NY ms _ _ _ ?_
   rw [aiP,ai3];exact(kb (SD hx).1).2
  ·exact h
def acO (ms:List (List UInt8)):Nat:=(ms.map fun m=>m.length+1).sum
theorem KL:∀(ms:List (List UInt8)) (l:List Nt) (c:Int) (u:Nat),(lb ms l c u).2≤u+acO ms
 | [],_,_,_=>ajK _ _
 | m::ms,l,c,u=>by
  simp only [lb];split
  ·rename_i x hx
   refine Nat.le_trans (KL ms _ _ _) ?_
   simp only [acO,aiC,ajx];omega
  ·exact ajK _ _
theorem Ph (c:UInt8):∀(l:List UInt8),acO (aX c l).dropLast≤l.length
 | []=>ain _
 | x::l=>by
  have ih:=Ph c l;simp only [aX];by_cases hx:x=c
  ·rw [if_pos hx,List.dropLast_cons_of_ne_nil (ed c l)]
   simp only [acO,aiC,ajx,ajp,aiH] at ih ⊢;omega
  ·rw [if_neg hx]
   cases hs:aX c l with
   | nil=>exact absurd hs (ed c l)
   | cons h t =>
    rw [hs] at ih;cases t with
    | nil=>exact aiO _
    | cons h2 t =>
     simp only [Bo,List.dropLast_cons_cons,acO,aiC,ajx,aiH] at ih ⊢;omega
theorem ZP (s:ByteArray):(jo s).2≤s.size:=by
 have h1:=KL (aX 10 (ac s)).dropLast [] 7 0;have h2:=Ph 10 (ac s);have h3:s.size=(ac s).length:=rfl;unfold jo;omega
theorem agy (s:ByteArray):(jo s).1.length≤24:=NY _ _ _ _ (aiO _)
theorem kc (s:ByteArray):gB [T s]=some (.ret [B (decide (s.size≤300))] []):=by
 rw [Av];have:((s.size:Int)≤300)=(s.size≤300):=by simp only [eq_iff_iff];omega
 simp [this]
theorem tp0 (l:List Nt) (ds:List D):ax (.tup (nts l::ds)) 0=some (nts l):=rfl
theorem abB (a:D) (n:Int) (ds:List D):ax (.tup (a::I n::ds)) 1=some (I n):=rfl
theorem ahv (a:D) (b:Bool) (ds:List D):ax (.tup (a::B b::ds)) 1=some (B b):=rfl
theorem tc0 (a:D) (ds:List D):fe (.tup (a::ds)) 0 = .tup (.bad::ds):=rfl
def jrS (s:ByteArray):List Nt × Bool:=if s.size≤300∧(jo s).2=s.size then((jo s).1,true) else([],false)
theorem mw (s:ByteArray) (h:s.size≤1048576):eU [T s]=some (.ret [nts (jrS s).1,B (jrS s).2] []):=by
 rw [EN];have hu:=ZP s;unfold jrS;by_cases hs:s.size≤300
 ·by_cases h2:(jo s).2=s.size
  ·have h2':¬((jo s).2:Int)<(s.size:Int):=by omega
   rw [if_pos ⟨hs,h2⟩];simp -implicitDefEqProofs only [kc,hs,decide_true,am,ak,bn,aix,aik,aH,aim,if_false,wt s h,tp0,tc0,abB,dZ,bg,h2',decide_false]
  ·have h2':((jo s).2:Int)<(s.size:Int):=by omega
   rw [if_neg (fun g=>h2 g.2)];simp -implicitDefEqProofs only [kc,hs,decide_true,am,ak,bn,aix,aik,aH,aim,if_false,wt s h,tp0,tc0,abB,dZ,bg,h2',if_true,bf];rfl
 ·rw [if_neg (fun g=>hs g.1)]
  simp -implicitDefEqProofs only [kc,hs,decide_false,am,ak,bn,aiV,aik,aH,if_true,bf];rfl
theorem jc (s:ByteArray) (h:s.size≤1048576):dR [T s]=some (.ret [nts (jrS s).1,B (jrS s).2] []):=by
 rw [EF];have hu:=ZP s;unfold jrS;by_cases hs:s.size≤300
 ·have hs':¬(300:Int)<(s.size:Int):=by omega
  by_cases h2:(jo s).2=s.size
  ·have h2':((jo s).2:Int)=(s.size:Int):=by omega
   rw [if_pos ⟨hs,h2⟩];simp -implicitDefEqProofs only [am,ak,aik,aH,aim,if_false,uQ s h,tp0,tc0,abB,dZ,eY,hs',bK,decide_false,jC,h2',decide_true,aix,aO]
  ·have h2':¬((jo s).2:Int)=(s.size:Int):=by omega
   rw [if_neg (fun g=>h2 g.2)];simp -implicitDefEqProofs only [am,ak,aik,aH,aim,if_false,uQ s h,tp0,tc0,abB,dZ,eY,hs',bK,decide_false,jC,h2',aiV,if_true,aO];rfl
 ·have hs':(300:Int)<(s.size:Int):=by omega
  rw [if_neg (fun g=>hs g.1)];simp -implicitDefEqProofs only [am,ak,aik,aH,uQ s h,tp0,tc0,abB,dZ,eY,hs',bK,wE,decide_true,if_true,aO];rfl
open Go Go.V Go.RowKit Go.Shelf
def jT:List Nt→Int→ByteArray
 | [],_=>⟨#[]⟩
 | x::l,c=>lnT x (ckN c x)++jT l (ckN c x)
theorem OO {x:Nt} {c:Int} (hx:mz x=true) (hc:0≤c∧c≤9972):(lnT x c).size≤44:=by
 obtain⟨h1,h2,h3⟩:=pY.1 hx;have s1:=bY 9 (n:=x.1) (by omega) (by omega);have s2:=bY 9 (n:=x.2.1) (by omega) (by omega);have s3:=bY 9 (n:=x.2.2) (by omega) (by omega);have s4:=bY 9 (n:=c) (by omega) (by omega);simp only [lnT,ait,sz1];omega
theorem iT {T e B b:Nat} {bs:List Value} {w w':World} (h:aiN T e B b bs w) (hB:Below w.heap.size w w'):aiN T e B b bs w':=by
 have key:∀p,ajc T e B b p bs w→ajc T e B b p bs w':=by
  rintro p h;have hlt:=h.lt;obtain⟨h1,v,h2,⟨h3,h4⟩,h5⟩:=h;refine⟨h1,v,(hB.block b hlt).trans h2,⟨h3,?_⟩,h5⟩
  rcases h4 with h4 | ⟨g,cap,cur,fz,g1,g2,g3,g4⟩
  ·exact .inl h4
  ·exact .inr ⟨g,cap,cur,fz,g1,g2,(hB.block g (aiz.1 g3).1).trans g3,g4⟩
 exact h.elim (fun h=>.inl (key _ h)) (fun h=>.inr (key _ h))
theorem mG {P:Program} {G:List (Nat × (Obj→Prop))} {f:FuncId} {S:FS} (he:∀args w,(callFunc f args).run P w = .ok (.enter f args) w) (hm:aw G P f S) {ds:List D} {y:Value} (f':List D→Option Out) (hf':S.f=f') (hd:f' ds=some (.ret [.v y] [])) (hrm:S.rm=[.dat 0]) {args:Array Value} {w:World} {F:Nat→Prop}
  (hgl:gOk G w F) (ha:fC w F (fun _=>none) 0 S.pm ds args.toList) (hF:∀b,F b→b<w.heap.size):Calls P f args w fun e w'=>e = .returned y∧Below w.heap.size w w':=by
 refine(mc he hm (hf' ▸ hd) hgl ha (fun b hb=>⟨hF b hb,rfl⟩) (fun b i h=>by cases h)).mono ?_
 rintro e w' ⟨v,rfl,F',R,vs,rfl,hpost⟩;have hl:=hpost.len;rw [hrm] at hl;obtain⟨u,rfl⟩:=List.length_eq_one_iff.1 hl;have h0:=hpost.res 0;rw [hrm] at h0;simp only [aD,nth,List.getD_cons_zero] at h0;rcases h0 with h0 | h0
 ·cases h0
 exact⟨by rw [lf,(ce.1 h0).1],⟨hpost.os,hpost.tape,hpost.output,hpost.size,fun b hb=>hpost.keep b hb rfl⟩⟩
abbrev ntV (x:Nt):Value:=.agg #[.int .i64 x.1,.int .i64 x.2.1,.int .i64 x.2.2]
theorem adX {w:World} {F:Nat→Prop} (x:Nt):bP w F (nt x) (ntV x):=by
 refine⟨[.int .i64 x.1,.int .i64 x.2.1,.int .i64 x.2.2],rfl,?_⟩
 simp only [RepC];refine⟨?_,rfl⟩
 refine au.2 ⟨[.int .i64 x.1],[.int .i64 x.2.1,.int .i64 x.2.2],rfl,by simp only [RepC];exact⟨trivial,rfl⟩,?_⟩
 refine au.2 ⟨[.int .i64 x.2.1],[.int .i64 x.2.2],rfl,by simp only [RepC];exact⟨trivial,rfl⟩,?_⟩
 exact au.2 ⟨[.int .i64 x.2.2],[],rfl,by simp only [RepC];exact⟨trivial,rfl⟩,aW.2 rfl⟩
theorem XQ {w:World} {F:Nat→Prop} (hF:∀b,F b→b<w.heap.size) (hgl:gOk gl0 w F) {c:Int} {x:Nt} (hc:0≤c∧c≤9972) (hx:mz x=true) :
  Calls Tryz.prog 89 #[.int .i64 c,ntV x] w fun e w'=>e = .returned (.int .i64 (ckN c x))∧Below w.heap.size w w' :=
 mG (aiv Tryz.func89 (by kernel_rfl) rfl) HB kT rfl (FM hc hx) rfl hgl (show eP w F _ (.dat 0) (I c) (.int .i64 c)∧eP w F _ (.dat 0) (nt x) (ntV x)∧True from⟨.inr (ce.2 ⟨rfl,rfl⟩),.inr (adX x),trivial⟩) hF
theorem QS {w:World} {F:Nat→Prop} (hF:∀b,F b→b<w.heap.size) (hgl:gOk gl1 w F) {c:Int} {x:Nt} (hc:0≤c∧c≤9972) (hx:mz x=true) :
  Calls Tryz.prog 88 #[ntV x,.int .i64 c] w fun e w'=>e = .returned (.string (lnT x c))∧Below w.heap.size w w' :=
 mG (aiv Tryz.func88 (by kernel_rfl) rfl) yj jl rfl (xC hx hc) rfl hgl (show eP w F _ (.dat 0) (nt x) (ntV x)∧eP w F _ (.dat 0) (I c) (.int .i64 c)∧True from⟨.inr (adX x),.inr (ce.2 ⟨rfl,rfl⟩),trivial⟩) hF
theorem xA (B b:Nat) (bs:List Value) (s:ByteArray) (w:World) (h:aiN 67 5 B b bs w) (hlen:bs.length+s.size≤140737488355328) (hBw:B≤w.heap.size) :
  Calls Tryz.prog 43 #[.pointer (some ⟨b,0,none⟩),.string s] w fun e w'=>e = .returned (.tuple #[.int .i64 s.size,.nilIface])∧(ajc 67 5 B b (.pointer (some ⟨b,0,none⟩)) (bs++Lib.strCells s) w'∧Below B w w'∧Lib.OthersKept 5 (some b) w w') :=
 Any.Builder_WriteString_k (ρ:=Tryz.lays156_ren) {Tryz.lays156 with} Tryz.Builder_Extra_156 B b bs s w h hlen hBw
theorem tR (B b:Nat) (l:List UInt8) (w:World) (h:aiN 67 5 B b (aiY l) w) (hBw:B≤w.heap.size) :
  Calls Tryz.prog 44 #[.pointer (some ⟨b,0,none⟩)] w fun e w'=>e = .returned (.string ⟨l.toArray⟩)∧(aiN 67 5 B b (aiY l) w'∧Below B w w'∧Lib.OthersKept 5 (some b) w w') :=
 Any.Builder_String_any_k (ρ:=Tryz.lays156_ren) {Tryz.lays156 with} Tryz.Builder_Extra_156 B b l w h hBw
def SI (x:Nt):List Value:=[.int .i64 x.1,.int .i64 x.2.1,.int .i64 x.2.2]
theorem ZT {w:World} {F:Nat→Prop}:∀(l:List Nt) (us:List Value),cm w F (l.map nt) us→us=l.flatMap SI
 | [],us,h=>aW.1 h
 | x::l,us,h=>by
  obtain⟨v1,v2,rfl,h1,h2⟩:=au.1 h;rw [ZT l v2 h2];simp only [RepC] at h1;obtain⟨u1,r1,rfl,g1,h1⟩:=au.1 h1.1;obtain⟨u2,r2,rfl,g2,h1⟩:=au.1 h1;obtain⟨u3,r3,rfl,g3,h1⟩:=au.1 h1;simp only [RepC] at g1 g2 g3;rw [g1.1,g2.1,g3.1,aW.1 h1];rfl
theorem RP {w:World} {b:Nat}:∀(l:List Nt) (o:Nat),cL w b o (l.flatMap SI)→∀(i:Nat) (x:Nt),l[i]?=some x→cL w b (o+i*3) (SI x)
 | [],_,_,i,x,hx=>by simp at hx
 | y::l,o,h,0,x,hx=>by
  simp only [aiE,aiB] at hx;subst hx;intro j u hu;have:=h j u (by rw [ajh,aji (ai0.1 hu).1];exact hu);simpa using this
 | y::l,o,h,i+1,x,hx=>by
  have:=RP l (o+3) (by
   have:=h.drop 3;exact this) i x (by simpa using hx)
  rw [show o+(i+1)*3=o+3+i*3 by omega];exact this
set_option maxHeartbeats 4000000 in
set_option maxRecDepth 1000000 in
theorem JS (l:List Nt) (hg:∀x∈l,mz x=true) (hl:l.length≤1048576) (A:Option Addr) (c:Nat) (_hc:l.length≤c) (w:World) (F:Nat→Prop) (hF:∀b,F b→b<w.heap.size) (hgl:gOk gl1 w F)
  (hA:l≠[]→∃b o,A=some ⟨b,o,none⟩∧F b∧∀(i:Nat) (x:Nt),l[i]?=some x→cL w b (o+i*3) (SI x)) :
  Calls Tryz.prog 233 #[.slice A l.length c] w fun e w'=>e = .returned (.string (jT l 7))∧Below w.heap.size w w':=by
 go_enter Tryz.func233,Tryz.ntmps233
 go_wp2
 go_loopw [4,9] (fun v4 v9 wr=>∃(i:Nat) (cc:Int) (acc:List UInt8),v4 = .int .i64 cc∧v9 = .int .i64 i∧i≤l.length∧(0≤cc∧cc≤9972)∧aiN 67 5 w.heap.size w.heap.size (aiY acc) wr∧Below w.heap.size w wr∧acc++ac (jT (l.drop i) cc)=ac (jT l 7)∧acc.length≤44*i) (fun v4 v9 wr=>l.length - (match v9 with | .int _ n=>n.toNat | _=>0))
 case atStart =>
  exact⟨0,7,[],rfl,rfl,aiO _,by decide,ajE (ajz 67 5 w),(aju _ w).alloc (ain _) _,rfl,ain _⟩
 case round =>
  obtain⟨i,cc,acc,rfl,rfl,hi,hcc,hI,hbw,hacc,hal⟩:=hrel;by_cases hp:i<l.length
  ·have hpi:(i:Int)<(l.length:Int):=by omega
   obtain⟨b,o,rfl,hb,hcell⟩:=hA (fun h=>by rw [h] at hp;exact absurd hp (ajL _));have hcl:=hcell i l[i] (aiD hp);have hbw0:wr.heap[b]?=w.heap[b]?:=hbw.block b (hF b hb);have c0:wr.cell? ⟨b,o+i*3,none⟩=some (.int .i64 l[i].1):=(aiQ hbw0).trans (hcl 0 _ rfl);have c1:wr.cell? ⟨b,o+i*3+1,none⟩=some (.int .i64 l[i].2.1):=(aiQ hbw0).trans (hcl 1 _ rfl);have c2:wr.cell? ⟨b,o+i*3+2,none⟩=some (.int .i64 l[i].2.2):=(aiQ hbw0).trans (hcl 2 _ rfl);have hx:mz l[i]=true:=hg _ (aiL hp);have hI0:=hI.alloc (.cells #[.int .i64 l[i].1,.int .i64 l[i].2.1,.int .i64 l[i].2.2] 121);have hb0:Below w.heap.size w (wr.alloc (.cells #[.int .i64 l[i].1,.int .i64 l[i].2.1,.int .i64 l[i].2.2] 121)):=hbw.alloc hbw.size _;have hk0:(wr.alloc (.cells #[.int .i64 l[i].1,.int .i64 l[i].2.1,.int .i64 l[i].2.2] 121)).heap[wr.heap.size]?=some (.cells #[.int .i64 l[i].1,.int .i64 l[i].2.1,.int .i64 l[i].2.2] 121):=ajk;have hck:=rB cc l[i];have hcall1:=XQ (F:=F) (fun b hb=>aje (hF b hb) hb0.size) (iv (fun _ h=>h) (fun b hb=>hb0.block b (hF b hb)) (fun p hp=>hgl p (JL p hp))) hcc hx
   go_wp2_with (go_at_call 89;refine hcall1.mono ?_)
   rintro e W1 ⟨rfl,b1⟩;have hI1:=iT hI0 b1;have hb1:=hb0.trans (b1.mono hb0.size);generalize hW0:wr.alloc (.cells #[.int .i64 l[i].1,.int .i64 l[i].2.1,.int .i64 l[i].2.2] 121)=W0 at *;have hk1:W1.heap[wr.heap.size]?=some (.cells #[.int .i64 l[i].1,.int .i64 l[i].2.1,.int .i64 l[i].2.2] 121):=(b1.block _ (aiz.1 hk0).1).trans hk0;have d0:W1.cell? ⟨wr.heap.size,0,none⟩=some (.int .i64 l[i].1):=by rw [aiy hk1];rfl
   have d1:W1.cell? ⟨wr.heap.size,1,none⟩=some (.int .i64 l[i].2.1):=by rw [aiy hk1];rfl
   have d2:W1.cell? ⟨wr.heap.size,2,none⟩=some (.int .i64 l[i].2.2):=by rw [aiy hk1];rfl
   have hcall2:=QS (F:=F) (fun b hb=>aje (hF b hb) hb1.size) (iv (fun _ h=>h) (fun b hb=>hb1.block b (hF b hb)) hgl) hck hx
   go_wp2_with (go_at_call 88;refine hcall2.mono ?_)
   rintro e W2 ⟨rfl,b2⟩;have hI2:=iT hI1 b2;have hb2:=hb1.trans (b2.mono hb1.size);have hcall3:=xA w.heap.size w.heap.size _ (lnT l[i] (ckN cc l[i])) _ hI2 (by rw [ajv];have:=OO hx hck;omega) hb2.size
   go_wp2_with (go_at_call 43;refine hcall3.mono ?_)
   rintro e W3 ⟨rfl,hI3,b3,_⟩
   go_wp2
   have hdr:ac (jT (l.drop i) cc)=ac (lnT l[i] (ckN cc l[i]))++ac (jT (l.drop (i+1)) (ckN cc l[i])):=by
    rw [aiZ hp];simp only [jT,be]
   have hsz:(ac (lnT l[i] (ckN cc l[i]))).length≤44:=OO hx hck;refine⟨⟨i+1,ckN cc l[i],acc++ac (lnT l[i] (ckN cc l[i])),rfl,congrArg (aiK .i64) (by omega),by omega,hck,?_,hb2.trans b3,?_,?_⟩,?_⟩
   ·rw [ajw]
    exact Or.inr hI3
   ·rw [←hacc,hdr,aiI]
   ·rw [aiP]
    omega
   ·show l.length - ((i:Int)+1).toNat<l.length - (i:Int).toNat
    omega
  ·have hpi:¬(i:Int)<(l.length:Int):=by omega
   have hcall4:=tR w.heap.size w.heap.size acc _ hI hbw.size
   go_wp2_with (go_at_call 44;refine hcall4.mono ?_)
   intro e W1 he h1 b1 k1;subst he
   go_wp2
   go_ret
   rw [ai1 (by omega)] at hacc;refine⟨?_,hbw.trans b1⟩
   have:acc=ac (jT l 7):=by rw [←hacc];simp [jT,ac]
   rw [this,ll];rfl
def agi:D→Option Nt
 | .agg [.v (.int .i64 a),.v (.int .i64 b),.v (.int .i64 c)]=>some (a,b,c)
 | _=>none
theorem aa9 {d:D} {x:Nt} (h:agi d=some x):d=nt x:=by
 unfold agi at h;split at h
 ·cases h;rfl
 ·cases h
def RX:List D→Option (List Nt)
 | []=>some []
 | d::l=>(agi d).bind fun x=>(RX l).map (x::·)
theorem MP:∀(ds:List D) (l:List Nt),RX ds=some l→ds=l.map nt
 | [],l,h=>by cases h;rfl
 | d::ds,l,h=>by
  simp only [RX,aiu,aiA] at h;obtain⟨x,h1,m,h2,rfl⟩:=h;rw [aa9 h1,MP ds m h2];rfl
theorem RL:∀(l:List Nt),RX (l.map nt)=some l
 | []=>rfl
 | x::l=>by
  simp only [aiC,RX,RL l];rfl
def sQ:List D→Option Out
 | [.arr _ ds]=>(RX ds).bind fun l=>if (∀x∈l,mz x=true)∧l.length≤1048576 then some (.ret [T (jT l 7)] []) else none
 | _=>none
@[reducible] def sy:FS:={pm:=[.dat 2],rm:=[.dat 0],f:=sQ}
theorem Fz:aw gl1 Tryz.prog 233 sy:=by
 have he:∀args w,(callFunc 233 args).run Tryz.prog w = .ok (.enter 233 args) w:=aiv Tryz.func233 (by kernel_rfl) rfl;refine bQ he fun ds rs us hd args w F ow hg ha hF _=>?_
 obtain⟨d,y,rfl,h2,h3⟩:=lC ha;replace hd:sQ [d]=some (.ret rs us):=hd;unfold sQ at hd;split at hd
 case h_2=>cases hd
 rename_i z ds e;cases e;obtain⟨l,hl,hd⟩:=aiu.1 hd;split at hd
 case isFalse=>cases hd
 rename_i hz;cases hd;obtain rfl:=MP _ _ hl;rcases h3 with h3 | h3
 ·cases h3
 simp only [bP,RepC] at h3;obtain⟨A,c,us,hy,hc,hr,_,hA⟩:=h3;simp only [ajq,and_true] at hy;subst hy;rw [ZT l us hr] at hA;rw [DL h2];rw [aio] at hc ⊢;refine(JS l hz.1 hz.2 A c hc w F (fun b hb=>(hF b hb).1) hg (fun hne=>?_)).mono ?_
 ·obtain⟨b,o,rfl,h5,h6⟩:=hA (by simpa using hne)
  exact⟨b,o,rfl,h5,RP l o h6⟩
 ·rintro e w' ⟨rfl,hB⟩
  refine⟨_,rfl,F,_,[_],rfl,eR hB hF rfl rfl [_] [_] rfl rfl fun j d hj=>?_⟩
  match j,hj with
  | 0,hj =>
   simp only [aiE,aiB] at hj;subst hj;exact⟨_,rfl,ce.2 ⟨rfl,rfl⟩⟩
end Go.Proofs.YtjafgdefcggjcaaGreatDoor

namespace Go.Proofs.YtjafgdefcggjcaaGreatDoor
open Go Go.Proofs Go.V Go.RowKit Go.Sort
def inI (x:Int):Prop:=-9223372036854775808≤x∧x≤9223372036854775807
instance (x:Int):Decidable (inI x):=by unfold inI;infer_instance
def Fj:List D→Option (List Int)
 | []=>some []
 | .v (.int .i64 a)::l=>if inI a then(Fj l).map (a::·) else none
 | _=>none
theorem Ve:∀(ds:List D) (l:List Int),Fj ds=some l→ds=l.map (fun n=>I n)∧∀x∈l,inI x:=by
 intro ds;induction ds with
 | nil=>intro l h;cases h;simp
 | cons d ds ih =>
  intro l h;unfold Fj at h;split at h
  ·rename_i e;cases e
  ·rename_i a m e
   cases e;split at h
   ·rename_i ha
    obtain⟨m',h2,rfl⟩:=aiA.1 h;obtain⟨g1,g2⟩:=ih m' h2;rw [g1];refine⟨rfl,fun x hx=>?_⟩
    rcases aiJ.1 hx with rfl | hx
    ·exact ha
    ·exact g2 x hx
   ·cases h
  ·cases h
theorem Oy:∀(l:List Int),(∀x∈l,inI x)→Fj (l.map fun n=>I n)=some l
 | [],_=>rfl
 | x::l,h=>by
  simp only [aiC,Fj];rw [if_pos (h x (by simp)),Oy l fun y hy=>h y (by simp [hy])];rfl
theorem VZ {w:World} {F:Nat→Prop}:∀(l:List Int) (us:List Value),cm w F (l.map fun n=>I n) us→us=l.map fun n=>.int .i64 n
 | [],us,h=>aW.1 h
 | x::l,us,h=>by
  obtain⟨v1,v2,rfl,h1,h2⟩:=au.1 h;simp only [RepC] at h1;rw [VZ l v2 h2,h1.1];rfl
theorem oq {w:World} {F:Nat→Prop}:∀(l:List Int),cm w F (l.map I) (l.map (aiK .i64))
 | []=>aW.2 rfl
 | x::l=>au.2 ⟨[.int .i64 x],l.map (aiK .i64),rfl,by simp only [RepC];exact⟨trivial,rfl⟩,oq l⟩
def Qr (l:List Int):List Int:=l.mergeSort fun x y=>decide (x≤y)
theorem UZ (l:List Int):(Qr l).length=l.length:=List.length_mergeSort l
theorem aaT {w:World} {g off n:Nat} {os:Array Obj} {dk:Array Int} {cur:Array Value} {t:Nat} (hg:w.heap[g]?=some (.cells cur t (0,0))) (hs:off+dk.size≤cur.size) :
  ∃cur',(grow (putRow (aiK .i64) (Go.Sort.ahead w n) g off dk) os).heap[g]?=some (.cells cur' t (0,0))∧cur'.size=cur.size∧∀(i:Nat) (u:Value),(dk.toList.map (aiK .i64))[i]?=some u→cur'[off+i]?=some u:=by
 have hb:g<w.heap.size:=(aiz.1 hg).1;refine⟨ajl (aiK .i64) off dk cur,?_,by simp [ajl],fun i u hu=>?_⟩
 ·rw [heap_grow_old _ _ (by rw [size_putRow];exact hb)]
  unfold putRow mapBlock;show(w.heap.modify g _)[g]?=_
  rw [Array.getElem?_modify,if_pos rfl,hg];rfl
 ·simp only [ajF,aiA] at hu
  obtain⟨x,hx,rfl⟩:=hu;rw [Array.getElem?_toList] at hx;obtain⟨hi,hx⟩:=aiz.1 hx;have hic:off+i<cur.size:=by omega
  unfold ajl;rw [Array.getElem?_mapIdx,Array.getElem?_eq_getElem hic];simp [hi,hx]
theorem aas {w:World} {g off n:Nat} {os:Array Obj} {dk:Array Int} {k:Nat} (hk:k<w.heap.size) (hne:k≠g):(grow (putRow (aiK .i64) (Go.Sort.ahead w n) g off dk) os).heap[k]?=w.heap[k]?:=by
 rw [heap_grow_old _ _ (by rw [size_putRow];exact hk)];unfold putRow mapBlock;show(w.heap.modify g _)[k]?=_
 rw [Array.getElem?_modify,if_neg (fun e=>hne e.symm)]
def IG:List D→Option Out
 | [.arr z ds]=>if z=1 then(Fj ds).bind fun l=>if l.length≤1048576 then some (.ret [] [nR (Qr l)]) else none else none
 | _=>none
@[reducible] def Ky:FS:={pm:=[.own 1 0 true],rm:=[],f:=IG}
theorem Wa:aw gl0 Tryz.prog 235 Ky:=by
 have he:∀args w,(callFunc 235 args).run Tryz.prog w = .ok (.enter 235 args) w:=aiv Tryz.func235 (by kernel_rfl) rfl;refine bQ he fun ds rs us hd args w F ow hg ha hF hO=>?_
 obtain⟨d,y,rfl,h2,h3⟩:=lC ha;replace hd:IG [d]=some (.ret rs us):=hd;unfold IG at hd;split at hd
 case h_2=>cases hd
 rename_i z ds e;cases e;split at hd
 case isFalse=>cases hd
 rename_i hz1;subst hz1;obtain⟨l,hl,hd'⟩:=aiu.1 hd;clear hd;split at hd'
 case isFalse=>cases hd'
 rename_i hz;cases hd';obtain⟨rfl,hin⟩:=Ve _ _ hl;rcases h3 with h3 | h3
 ·cases h3
 replace h3:kX w (FB F 0 0) (fun g=>ow g=some 0) 1 (.arr 1 (l.map fun n=>I n)) y:=h3;obtain⟨l',e,hw,h3⟩:=h3;cases e;rw [DL h2];have hfl:∀x∈l.map (fun n=>I n),x.width=1:=fun x hx=>by
  obtain⟨s,_,rfl⟩:=ajC.1 hx;rfl
 have hfl2:∀x∈(Qr l).map (fun n=>I n),x.width=1:=fun x hx=>by
  obtain⟨s,_,rfl⟩:=ajC.1 hx;rfl
 rcases h3 with ⟨rfl,hnil⟩ | ⟨g,o,c,us',cs,e,rfl,h4,h5,h6,h7,h8,h9⟩
 ·have hl0:l=[]:=by simpa using hnil
  subst hl0;refine(Any.sort_Ints_none Tryz.lays191 none 0 w).mono ?_
  rintro e w' ⟨rfl,rfl⟩;refine⟨_,rfl,F,fun _=>none,[],rfl,⟨rfl,rfl,rfl,ain _,fun _ _ _=>rfl,fun _ h=>h,fun b hb=>⟨.inl hb,(hF b hb).1,rfl⟩,fun b j h=>(by cases h),rfl,rfl,fun j=>.inl rfl,?_⟩⟩
  exact⟨by simp,.inr ⟨[],by simp [Qr],fun x hx=>(by cases hx),.inl ⟨rfl,rfl⟩⟩,trivial⟩
 ·have hgl:g<w.heap.size:=(aiz.1 h5).1
  have hus:=VZ l us' h7;subst hus;rw [aio] at h4;have hH:Holds (aiK .i64) w g o l.toArray:=fun j hj=>by
   have hj':j<l.length:=by simpa using hj
   refine⟨?_,Lib.frozen_of_heap h5 _⟩
   rw [aiy h5];refine(h8 j (.int .i64 l[j]) (by simp [hj'])).trans ?_
   simp [hj']
  have hc:=Any.sort_Ints Tryz.lays191 g o c l w hH hgl (by omega);rw [aio];refine Calls.mono hc ?_
  rintro e w' ⟨rfl,n,os,rfl⟩;have hlen:=UZ l;obtain⟨cur',c1,c2,c3⟩:=aaT (off:=o) (n:=n) (os:=os) (dk:=(Qr l).toArray) h5 (by simp;omega);refine⟨_,rfl,F,fun _=>none,[],rfl,⟨rfl,rfl,rfl,by rw [size_grow,size_putRow];show w.heap.size≤w.heap.size+_;omega,fun b hb hob=>aas hb (fun e=>by rw [e,h9] at hob;cases hob),fun _ h=>h,fun b hb=>⟨.inl hb,?_,rfl⟩,fun b j h=>(by cases h),rfl,rfl,fun j=>.inl rfl,?_⟩⟩
  ·have:=(hF b hb).1
   rw [size_grow,size_putRow];show b<w.heap.size+_
   omega
  ·refine⟨by simp,.inr ⟨(Qr l).map (fun n=>I n),rfl,hfl2,.inr ⟨g,o,c,(Qr l).map (aiK .i64),cur',e,by rw [aio,hlen],by rw [aio,hlen];exact h4,c1,by omega,oq _,fun i u hu=>c3 i u (by simpa using hu),trivial⟩⟩,trivial⟩
end Go.Proofs.YtjafgdefcggjcaaGreatDoor

namespace Go.Proofs.YtjafgdefcggjcaaGreatDoor
open Go Go.V Go.RowKit Go.Maps
def DOf:List (ByteArray × ByteArray)→DataW Unit
 | []=>.map []
 | x::E=>(DOf E).put (.string x.1.data.toList) (.lit (.string x.2.data.toList))
def fx:List (ByteArray × ByteArray)→ByteArray→Option ByteArray
 | [],_=>none
 | x::E,k=>if k=x.1 then some x.2 else fx E k
theorem XA {a b:ByteArray} (h:a.data.toList=b.data.toList):a=b:=by
 cases a with | mk a=>cases b with | mk b =>
  cases a with | mk a=>cases b with | mk b =>
   simp at h;rw [h]
theorem YD:∀E,IsMap (DOf E)
 | []=>⟨_,rfl⟩
 | x::E=>by
  obtain⟨es,he⟩:=YD E;simp only [DOf,he];exact⟨_,rfl⟩
theorem acE (k:ByteArray):∀E,(DOf E).atKey (.string k.data.toList) (.lit (.string [])) = .lit (.string ((fx E k).getD ⟨#[]⟩).data.toList)∧Maps.has (DOf E) (.string k.data.toList)=(fx E k).isSome
 | []=>⟨by simp [DOf,fx,DataW.atKey],by simp [DOf,fx,Maps.has]⟩
 | x::E=>by
  by_cases h:k=x.1
  ·subst h
   have hk:WideAt.IsKeyLit (.string x.1.data.toList):=trivial;refine⟨?_,?_⟩
   ·simp only [DOf,fx,if_true,ai2]
    rw [atKey_put_same (YD E) hk]
   ·simp only [DOf,fx,if_true,ajd]
    exact has_put_same (YD E) hk _
  ·have hne:(Lit.string k.data.toList) ≠ .string x.1.data.toList:=fun e=>h (XA (by injection e))
   obtain⟨h1,h2⟩:=acE k E;refine⟨?_,?_⟩
   ·simp only [DOf,fx,h,if_false]
    rw [atKey_put_other hne,h1]
   ·simp only [DOf,fx,h,if_false]
    rw [has_put_other hne,h2]
theorem Ze:Keyed Tryz.prog 9:=string_keyed Tryz.underlying9
theorem gV {w:World} {b n:Nat} {E:List (ByteArray × ByteArray)} (h:w.ownsMap Tryz.prog 9 (plainElem Tryz.prog 9) b n (DOf E)) (hn:n≤100) (kk vv:ByteArray) (hk:kk.size≤100) (hv:vv.size≤100) :
  ∃w',(Instr.mapUpdate 172 (.map (some b)) (.string kk) (.string vv)).run Tryz.prog w = .ok () w'∧w'.ownsMap Tryz.prog 9 (plainElem Tryz.prog 9) b (n+1) (DOf ((kk,vv)::E))∧w.grownBy w' (some b) :=
 h.update Ze Tryz.underlying172 (by unfold maxLen;omega) (WideMaps.keyOf_string_mk Tryz.underlying9 (by unfold maxLen;omega)) (plainElem_string Tryz.underlying9 (by unfold maxLen;omega))
theorem aef (w:World):(zeroValue 9).run Tryz.prog w = .ok (.string ⟨#[]⟩) w:=by kernel_rfl
def shE:List (ByteArray × ByteArray):=[(⟨#[115,99,104,101,109,101]⟩,⟨#[]⟩),(⟨#[102,111,108,100]⟩,⟨#[78]⟩),(⟨#[108,101,97,115,116]⟩,⟨#[78]⟩),(⟨#[109,101,116,97,108]⟩,⟨#[78,78]⟩),(⟨#[110,111,116,101]⟩,⟨#[78,78,78]⟩),(⟨#[100,114,105,102,116]⟩,⟨#[]⟩),(⟨#[109,101,100,105,97,110]⟩,⟨#[]⟩),(⟨#[111,102,102]⟩,⟨#[78]⟩),(⟨#[109,105,115,115,105,110,103]⟩,⟨#[78]⟩),(⟨#[99,117,116]⟩,⟨#[78,78]⟩),(⟨#[114,117,108,101]⟩,⟨#[78]⟩),(⟨#[115,116,111,99,107]⟩,⟨#[84]⟩),(⟨#[115,104,97,114,101,115]⟩,⟨#[]⟩),(⟨#[116,97,107,101]⟩,⟨#[78]⟩),(⟨#[106,111,105,110]⟩,⟨#[84]⟩),(⟨#[109,101,108,116]⟩,⟨#[84]⟩)]
set_option maxHeartbeats 4000000 in
set_option maxRecDepth 1000000 in
theorem Ub (word:ByteArray) (hs:word.size≤1048576) (w:World) :
  Calls Tryz.prog 115 #[.string word] w fun e w'=>e = .returned (.tuple #[.string ((fx shE word).getD ⟨#[]⟩),.bool (fx shE word).isSome])∧Below w.heap.size w w':=by
 have hmm:=@run_makeMap Tryz.prog;have o0:=World.ownsMap_made w Tryz.prog 9 (plainElem (H:=Unit) Tryz.prog 9);have b0:=(aju w.heap.size w).alloc (ain _) (.map #[] 0);replace o0:(w.alloc (.map #[] 0)).ownsMap Tryz.prog 9 (plainElem Tryz.prog 9) w.heap.size 0 (DOf []):=o0;obtain⟨W1,r1,o1,g1⟩:=gV o0 (by omega) ⟨#[109,101,108,116]⟩ ⟨#[84]⟩ (by decide) (by decide);have b1:=b0.grown g1 b0.size (fun j hj=>by cases hj;exact ain _);obtain⟨W2,r2,o2,g2⟩:=gV o1 (by omega) ⟨#[106,111,105,110]⟩ ⟨#[84]⟩ (by decide) (by decide);have b2:=b1.grown g2 b1.size (fun j hj=>by cases hj;exact ain _);obtain⟨W3,r3,o3,g3⟩:=gV o2 (by omega) ⟨#[116,97,107,101]⟩ ⟨#[78]⟩ (by decide) (by decide);have b3:=b2.grown g3 b2.size (fun j hj=>by cases hj;exact ain _);obtain⟨W4,r4,o4,g4⟩:=gV o3 (by omega) ⟨#[115,104,97,114,101,115]⟩ ⟨#[]⟩ (by decide) (by decide);have b4:=b3.grown g4 b3.size (fun j hj=>by cases hj;exact ain _);obtain⟨W5,r5,o5,g5⟩:=gV o4 (by omega) ⟨#[115,116,111,99,107]⟩ ⟨#[84]⟩ (by decide) (by decide);have b5:=b4.grown g5 b4.size (fun j hj=>by cases hj;exact ain _);obtain⟨W6,r6,o6,g6⟩:=gV o5 (by omega) ⟨#[114,117,108,101]⟩ ⟨#[78]⟩ (by decide) (by decide);have b6:=b5.grown g6 b5.size (fun j hj=>by cases hj;exact ain _);obtain⟨W7,r7,o7,g7⟩:=gV o6 (by omega) ⟨#[99,117,116]⟩ ⟨#[78,78]⟩ (by decide) (by decide);have b7:=b6.grown g7 b6.size (fun j hj=>by cases hj;exact ain _);obtain⟨W8,r8,o8,g8⟩:=gV o7 (by omega) ⟨#[109,105,115,115,105,110,103]⟩ ⟨#[78]⟩ (by decide) (by decide);have b8:=b7.grown g8 b7.size (fun j hj=>by cases hj;exact ain _);obtain⟨W9,r9,o9,g9⟩:=gV o8 (by omega) ⟨#[111,102,102]⟩ ⟨#[78]⟩ (by decide) (by decide);have b9:=b8.grown g9 b8.size (fun j hj=>by cases hj;exact ain _);obtain⟨W10,r10,o10,g10⟩:=gV o9 (by omega) ⟨#[109,101,100,105,97,110]⟩ ⟨#[]⟩ (by decide) (by decide);have b10:=b9.grown g10 b9.size (fun j hj=>by cases hj;exact ain _);obtain⟨W11,r11,o11,g11⟩:=gV o10 (by omega) ⟨#[100,114,105,102,116]⟩ ⟨#[]⟩ (by decide) (by decide);have b11:=b10.grown g11 b10.size (fun j hj=>by cases hj;exact ain _);obtain⟨W12,r12,o12,g12⟩:=gV o11 (by omega) ⟨#[110,111,116,101]⟩ ⟨#[78,78,78]⟩ (by decide) (by decide);have b12:=b11.grown g12 b11.size (fun j hj=>by cases hj;exact ain _);obtain⟨W13,r13,o13,g13⟩:=gV o12 (by omega) ⟨#[109,101,116,97,108]⟩ ⟨#[78,78]⟩ (by decide) (by decide);have b13:=b12.grown g13 b12.size (fun j hj=>by cases hj;exact ain _);obtain⟨W14,r14,o14,g14⟩:=gV o13 (by omega) ⟨#[108,101,97,115,116]⟩ ⟨#[78]⟩ (by decide) (by decide);have b14:=b13.grown g14 b13.size (fun j hj=>by cases hj;exact ain _);obtain⟨W15,r15,o15,g15⟩:=gV o14 (by omega) ⟨#[102,111,108,100]⟩ ⟨#[78]⟩ (by decide) (by decide);have b15:=b14.grown g15 b14.size (fun j hj=>by cases hj;exact ain _);obtain⟨W16,r16,o16,g16⟩:=gV o15 (by omega) ⟨#[115,99,104,101,109,101]⟩ ⟨#[]⟩ (by decide) (by decide);have b16:=b15.grown g16 b15.size (fun j hj=>by cases hj;exact ain _);obtain⟨v,ps,rl,hv⟩:=o16.look_ok Ze Tryz.underlying172 (aef W16) (plainElem_string Tryz.underlying9 (by unfold maxLen;decide)) (WideMaps.keyOf_string_mk Tryz.underlying9 (s:=word) (by unfold maxLen;omega));obtain⟨s,rfl,hs2,_⟩:=plainElem_string_inv Tryz.underlying9 hv;obtain⟨a1,a2⟩:=acE word shE;have hE:DOf shE=DOf [(⟨#[115,99,104,101,109,101]⟩,⟨#[]⟩),(⟨#[102,111,108,100]⟩,⟨#[78]⟩),(⟨#[108,101,97,115,116]⟩,⟨#[78]⟩),(⟨#[109,101,116,97,108]⟩,⟨#[78,78]⟩),(⟨#[110,111,116,101]⟩,⟨#[78,78,78]⟩),(⟨#[100,114,105,102,116]⟩,⟨#[]⟩),(⟨#[109,101,100,105,97,110]⟩,⟨#[]⟩),(⟨#[111,102,102]⟩,⟨#[78]⟩),(⟨#[109,105,115,115,105,110,103]⟩,⟨#[78]⟩),(⟨#[99,117,116]⟩,⟨#[78,78]⟩),(⟨#[114,117,108,101]⟩,⟨#[78]⟩),(⟨#[115,116,111,99,107]⟩,⟨#[84]⟩),(⟨#[115,104,97,114,101,115]⟩,⟨#[]⟩),(⟨#[116,97,107,101]⟩,⟨#[78]⟩),(⟨#[106,111,105,110]⟩,⟨#[84]⟩),(⟨#[109,101,108,116]⟩,⟨#[84]⟩)]:=rfl;rw [←hE] at hs2 rl;rw [show(⟨#[]⟩:ByteArray).data.toList=[] from rfl] at hs2;rw [a1] at hs2;rw [a2] at rl;have hse:((fx shE word).getD ⟨#[]⟩)=s:=by
  injection hs2 with h1 h2;injection h1 with h1;injection h1 with h1;exact XA h1
 rw [hse];generalize (fx shE word).isSome=q at rl;clear hs2 hv a1 a2 hse hE
 go_enter Tryz.func115,Tryz.ntmps115
 go_wp2
 go_ret2
 exact⟨rfl,b16⟩
def tU (d:D):Option ByteArray:=match d with
 | .v x=>(match x with
  | .string s=>some s
  | _=>none)
 | _=>none
theorem xk {d:D} {s:ByteArray} (h:tU d=some s):d=T s:=by
 unfold tU at h;split at h
 ·split at h
  ·cases h;rfl
  ·cases h
 ·cases h
def Om (ds:List D):Option Out:=match ds with
 | [d]=>(tU d).bind fun s=>if s.size≤1048576 then some (.ret [T ((fx shE s).getD ⟨#[]⟩),B (fx shE s).isSome] []) else none
 | _=>none
@[reducible] def Po:FS:={pm:=[.dat 0],rm:=[.dat 0,.dat 0],f:=Om}
theorem Mt:aw gl0 Tryz.prog 115 Po:=by
 have he:∀args w,(callFunc 115 args).run Tryz.prog w = .ok (.enter 115 args) w:=aiv Tryz.func115 (by kernel_rfl) rfl;refine bQ he fun ds rs us hd args w F ow hg ha hF _=>?_
 obtain⟨d,y,rfl,h2,h3⟩:=lC ha;replace hd:Om [d]=some (.ret rs us):=hd;obtain⟨s,hs,hd'⟩:=aiu.1 hd;clear hd;obtain rfl:=xk hs;split at hd'
 case isFalse=>cases hd'
 rename_i hz;cases hd';obtain⟨rfl,_⟩:=Cf h3;rw [DL h2];refine(Ub s hz w).mono ?_
 rintro e w' ⟨rfl,hB⟩;refine⟨_,rfl,F,_,[_,_],rfl,eR hB hF rfl rfl [_,_] [_,_] rfl rfl fun j d hj=>?_⟩
 match j,hj with
 | 0,hj =>
  simp only [aiE,aiB] at hj;subst hj;exact⟨_,rfl,ce.2 ⟨rfl,rfl⟩⟩
 | 1,hj =>
  simp only [List.getElem?_cons_succ,aiE,aiB] at hj;subst hj;exact⟨_,rfl,ce.2 ⟨rfl,rfl⟩⟩
end Go.Proofs.YtjafgdefcggjcaaGreatDoor

namespace Go.Proofs.YtjafgdefcggjcaaGreatDoor
open Go Go.V
theorem uW {n:Int} (h:0<n):ac (aI (-n))=45::ac (aI n):=by
 rw [iU n (by omega)];unfold aI Lib.itoa;rw [if_pos (by omega),cW];congr 2
 omega
theorem adO {n:Int} (h0:0<n) (h1:n<1000000000000000000):aiR (ac (aI (-n))) = .ok (-n):=by
 have hp:=RV n.toNat (by omega);rw [uW h0,iU n (by omega)];unfold aiR;simp only;have e45:(45:UInt8).toNat=45:=rfl;rw [if_pos (by rw [e45];omega)];unfold Lib.parseMag;rw [if_neg (kA _),hp];simp only [e45];rw [if_neg (by simp),if_neg (by omega),if_pos trivial];congr 1
 omega
def Bl (w:ByteArray):Option Int:=match aiR (ac w) with
 | .ok v=>if (-999999≤v∧v≤999999)∧aI v=w then some v else none
 | _=>none
def KS (w:ByteArray):Option Int :=
 if 1<w.size∧(ac w).head?=some 45 then(if 0<cb (w.extract 1 w.size) then some (-cb (w.extract 1 w.size)) else none)
 else if 0≤cb w then some (cb w) else none
theorem Mv (w:ByteArray):cb w<1000000:=by
 unfold cb DG;split
 ·rename_i h
  have:=Uh (ac w).length (ac w) rfl (List.all_eq_true.1 h.2.2);have:10 ^ (ac w).length≤10 ^ 6:=Nat.pow_le_pow_right (by decide) h.1.2;omega
 ·omega
theorem acL {n:Int} (h:0≤n):(ac (aI n)).head?≠some 45:=by
 obtain⟨h1,h2⟩:=iI h;intro e;have hm:(45:UInt8)∈ac (aI n):=List.mem_of_head? e;have:=h2 45 hm;revert this;decide
theorem Zv {w:ByteArray} {a:UInt8} {l:List UInt8} (h:ac w=a::l):ac (w.extract 1 w.size)=l:=by
 rw [eA,cX,h];simp
theorem adb {v:Int} (h : -999999≤v∧v≤999999):Bl (aI v)=some v:=by
 unfold Bl;by_cases h0:0≤v
 ·rw [RM h0 (by omega)]
  simp only [h,and_self,if_true]
 ·have:=adO (n:=-v) (by omega) (by omega)
  rw [ajH] at this;rw [this];simp only [h,and_self,if_true]
theorem abw {v:Int} (h : -999999≤v∧v≤999999):KS (aI v)=some v:=by
 unfold KS;by_cases h0:0≤v
 ·rw [if_neg (fun g=>acL h0 g.2),oH h0 (by omega),if_pos h0]
 ·have e:=uW (n:=-v) (by omega)
  rw [ajH] at e;have hx:(aI v).extract 1 (aI v).size=aI (-v):=bN (Zv e);have hs:1<(aI v).size:=by
   rw [cX,e,aiH];have:=ajb.2 (iI (n:=-v) (by omega)).1;omega
  rw [if_pos ⟨hs,by rw [e];rfl⟩,hx,oH (by omega) (by omega),if_pos (by omega),ajH]
theorem Rx {w:ByteArray} {v:Int} (h:Bl w=some v):(-999999≤v∧v≤999999)∧aI v=w:=by
 unfold Bl at h;split at h
 ·split at h
  ·rename_i hc
   cases h;exact hc
  ·cases h
 ·cases h
theorem aaK {w:ByteArray} {v:Int} (h:KS w=some v):(-999999≤v∧v≤999999)∧aI v=w:=by
 unfold KS at h;split at h
 ·rename_i hc
  split at h
  case isFalse=>cases h
  rename_i hp;cases h;have hlt:=Mv (w.extract 1 w.size);refine⟨by omega,bN ?_⟩
  rw [uW hp,←tP (w:=w.extract 1 w.size) rfl (by omega)];cases hw:ac w with
  | nil=>rw [hw] at hc;cases hc.2
  | cons a l =>
   rw [hw] at hc;have ha:=ajo hc.2;rw [Zv hw];subst ha;rfl
 ·split at h
  case isFalse=>cases h
  rename_i hp;cases h;have hlt:=Mv w;exact⟨by omega,(tP rfl hp).symm⟩
theorem afG (w:ByteArray):KS w=Bl w:=by
 cases h:Bl w with
 | some v =>
  obtain⟨h1,rfl⟩:=Rx h;exact abw h1
 | none =>
  cases h':KS w with
  | none=>rfl
  | some v =>
   obtain⟨h1,rfl⟩:=aaK h';rw [adb h1] at h;cases h
def cG:List ByteArray→Option (List Int)
 | []=>some []
 | w::l=>(Bl w).bind fun v=>(cG l).map (v::·)
theorem mP:∀(l:List ByteArray) (r:List Int),cG l=some r→r.length=l.length∧∀v∈r,-999999≤v∧v≤999999
 | [],r,h=>by cases h;exact⟨rfl,by simp⟩
 | w::l,r,h=>by
  simp only [cG,aiu,aiA] at h;obtain⟨v,h1,m,h2,rfl⟩:=h;obtain⟨g1,g2⟩:=mP l m h2;refine⟨by simp [g1],fun x hx=>?_⟩
  rcases aiJ.1 hx with rfl | hx
  ·exact(Rx h1).1
  ·exact g2 x hx
abbrev kV:ByteArray:=⟨⟨[109,101,108,116]⟩⟩
abbrev km:ByteArray:=⟨⟨[106,111,105,110]⟩⟩
abbrev ef:ByteArray:=⟨⟨[116,97,107,101]⟩⟩
abbrev bU:ByteArray:=⟨⟨[115,104,97,114,101,115]⟩⟩
abbrev fD:ByteArray:=⟨⟨[115,116,111,99,107]⟩⟩
abbrev dO:ByteArray:=⟨⟨[114,117,108,101]⟩⟩
abbrev gO:ByteArray:=⟨⟨[99,117,116]⟩⟩
abbrev bA:ByteArray:=⟨⟨[109,105,115,115,105,110,103]⟩⟩
abbrev ky:ByteArray:=⟨⟨[111,102,102]⟩⟩
abbrev bV:ByteArray:=⟨⟨[109,101,100,105,97,110]⟩⟩
abbrev cH:ByteArray:=⟨⟨[100,114,105,102,116]⟩⟩
abbrev eQ:ByteArray:=⟨⟨[110,111,116,101]⟩⟩
abbrev cF:ByteArray:=⟨⟨[109,101,116,97,108]⟩⟩
abbrev cA:ByteArray:=⟨⟨[108,101,97,115,116]⟩⟩
abbrev ep:ByteArray:=⟨⟨[102,111,108,100]⟩⟩
abbrev bM:ByteArray:=⟨⟨[115,99,104,101,109,101]⟩⟩
def shN (w:ByteArray):Int :=
 if w=bU∨w=bV∨w=cH∨w=bM then 0
 else if w=kV∨w=km∨w=fD then -1
 else if w=ef∨w=dO∨w=bA∨w=ky∨w=cA∨w=ep then 1
 else if w=gO∨w=cF then 2
 else if w=eQ then 3 else -2
def rdL (t:ByteArray):Option (ByteArray × ByteArray × List Int) :=
 match aC 32 t with
 | []=>none
 | w::ws=>if shN w = -2 then none else if shN w = -1 then(if ws=[] then none else some (w,t.extract (w.size+1) t.size,[]))
  else match cG ws with
   | some r=>if (r.length:Int)=shN w then some (w,⟨⟨[]⟩⟩,r) else none
   | none=>none
open Go Go.V Go.RowKit Go.Shelf
theorem oD {P:Program} {G:List (Nat × (Obj→Prop))} {f:FuncId} {S:FS} (he:∀args w,(callFunc f args).run P w = .ok (.enter f args) w) (hm:aw G P f S) {ds rs us:List D} (f':List D→Option Out) (hf':S.f=f') (hd:f' ds=some (.ret rs us)) {args:Array Value} {w:World} {F:Nat→Prop}
  (hgl:gOk G w F) (ha:fC w F (fun _=>none) 0 S.pm ds args.toList) (hF:∀b,F b→b<w.heap.size):Calls P f args w fun e w'=>Below w.heap.size w w'∧∃F' R vs,e = .returned (lf vs)∧CallPost S args rs us w F (fun _=>none) F' R vs w':=by
 refine(mc he hm (hf' ▸ hd) hgl ha (fun b hb=>⟨hF b hb,rfl⟩) (fun b i h=>by cases h)).mono ?_
 rintro e w' ⟨v,rfl,F',R,vs,rfl,hpost⟩;exact⟨⟨hpost.os,hpost.tape,hpost.output,hpost.size,fun b hb=>hpost.keep b hb rfl⟩,F',R,vs,rfl,hpost⟩
theorem Sv {α:Type}:∀(ys:List α) (j:Nat),j<ys.length→aD (ys.map fun _=>Kd.dat 0) j = .dat 0
 | _::_,0,_=>rfl
 | _::ys,j+1,h=>Sv ys j (by simpa using h)
theorem af6:∀(ys:List Value) (j:Nat) (h:j<ys.length),nth (ys.map D.v) j = .v ys[j]
 | _::_,0,_=>rfl
 | _::ys,j+1,h=>af6 ys j (by simpa using h)
theorem pZ {P:Program} {G:List (Nat × (Obj→Prop))} {f:FuncId} {S:FS} (he:∀args w,(callFunc f args).run P w = .ok (.enter f args) w) (hm:aw G P f S) {ds:List D} (ys:List Value) (f':List D→Option Out) (hf':S.f=f') (hd:f' ds=some (.ret (ys.map D.v) [])) (hrm:S.rm=ys.map fun _=>.dat 0) {args:Array Value} {w:World} {F:Nat→Prop}
  (hgl:gOk G w F) (ha:fC w F (fun _=>none) 0 S.pm ds args.toList) (hF:∀b,F b→b<w.heap.size):Calls P f args w fun e w'=>e = .returned (lf ys)∧Below w.heap.size w w':=by
 refine(oD he hm f' hf' hd hgl ha hF).mono ?_
 rintro e w' ⟨hB,F',R,vs,rfl,hpost⟩;refine⟨?_,hB⟩
 have hl:=hpost.len;rw [hrm,aio] at hl;have:vs=ys:=by
  refine List.ext_getElem hl fun j h1 h2=>?_
  have h0:=hpost.res j;rw [hrm,Sv _ _ h2,af6 _ _ h2] at h0;rcases h0 with h0 | h0
  ·cases h0
  rw [aiF,aiD h1,ai2] at h0;exact(ce.1 h0).1
 rw [this]
theorem adH (s:ByteArray) (hs:s.size≤1048576):Om [T s]=some (.ret ([.string ((fx shE s).getD ⟨#[]⟩),.bool (fx shE s).isSome].map D.v) []):=by
 have e:Om [T s]=(tU (T s)).bind fun s=>if s.size≤1048576 then some (.ret [T ((fx shE s).getD ⟨#[]⟩),B (fx shE s).isSome] []) else none:=rfl
 rw [e,show tU (T s)=some s from rfl,aik,if_pos hs];rfl
theorem ac6 (w:ByteArray) (h:w.size≤1048576):Ti [T w,T ⟨#[32]⟩]=some (.ret ([.string ⟨(ai4 (ac w) [32]).1.toArray⟩,.string ⟨(ai4 (ac w) [32]).2.1.toArray⟩,.bool (ai4 (ac w) [32]).2.2].map D.v) []):=by
 simp -implicitDefEqProofs only [Ti];rw [if_pos (by omega)];rfl
section
variable {w:World} {F:Nat→Prop} (hF:∀b,F b→b<w.heap.size)
include hF
theorem Al (hgl:gOk gl0 w F) (a b c:Int):Calls Tryz.prog 52 #[.int .i64 a,.int .i64 b,.int .i64 c] w fun e w'=>e = .returned (.bool (decide (b≤a∧a≤c)))∧Below w.heap.size w w' :=
 pZ (aiv Tryz.func52 (by kernel_rfl) rfl) dC [_] bX rfl (bB a b c) rfl hgl
  (show eP w F _ (.dat 0) (I a) (.int .i64 a)∧eP w F _ (.dat 0) (I b) (.int .i64 b)∧eP w F _ (.dat 0) (I c) (.int .i64 c)∧True from⟨.inr (ce.2 ⟨rfl,rfl⟩),.inr (ce.2 ⟨rfl,rfl⟩),.inr (ce.2 ⟨rfl,rfl⟩),trivial⟩) hF
theorem Yd (hgl:gOk gl0 w F) (s:ByteArray) (hs:s.size≤1048576):Calls Tryz.prog 115 #[.string s] w fun e w'=>e = .returned (.tuple #[.string ((fx shE s).getD ⟨#[]⟩),.bool (fx shE s).isSome])∧Below w.heap.size w w' :=
 pZ (aiv Tryz.func115 (by kernel_rfl) rfl) Mt [_,_] Om rfl (adH s hs) rfl hgl
  (show eP w F _ (.dat 0) (T s) (.string s)∧True from⟨.inr (ce.2 ⟨rfl,rfl⟩),trivial⟩) hF
theorem adg (hgl:gOk gl0 w F) (s:ByteArray) (hs:s.size≤1048576):Calls Tryz.prog 85 #[.string s,.string ⟨#[32]⟩] w fun e w' =>
  e = .returned (.tuple #[.string ⟨(ai4 (ac s) [32]).1.toArray⟩,.string ⟨(ai4 (ac s) [32]).2.1.toArray⟩,.bool (ai4 (ac s) [32]).2.2])∧Below w.heap.size w w' :=
 pZ (aiv Tryz.func85 (by kernel_rfl) rfl) EA (ds:=[T s,T ⟨#[32]⟩]) [_,_,_] Ti rfl (ac6 s hs) rfl hgl
  (show eP w F _ (.dat 0) (T s) (.string s)∧eP w F _ (.dat 0) (T ⟨#[32]⟩) (.string ⟨#[32]⟩)∧True from⟨.inr (ce.2 ⟨rfl,rfl⟩),.inr (ce.2 ⟨rfl,rfl⟩),trivial⟩) hF
theorem IJ (hgl:gOk gl2 w F) (s:ByteArray) (hs:s.size≤1048576):Calls Tryz.prog 116 #[.string s] w fun e w'=>Below w.heap.size w w' ∧
  ((∃v,aiR (ac s) = .ok v∧e = .returned (.tuple #[.int .i64 v,.nilIface]))∨((∀v,aiR (ac s) ≠ .ok v)∧∃n t x,e = .returned (.tuple #[.int .i64 n,.iface t x]))):=by
 have he:=adm s (by omega);have ha:fC w F (fun _=>none) 0 sL.pm [T s] (#[ai9 s]:Array Value).toList:=show eP w F _ (.dat 0) (T s) (.string s)∧True from⟨.inr (ce.2 ⟨rfl,rfl⟩),trivial⟩
 have hen:=aiv Tryz.func116 (by kernel_rfl) rfl;have bad:∀n:Int,HK [T s]=some (.ret [I n,.ifc] [])→(∀v,aiR (ac s) ≠ .ok v)→Calls Tryz.prog 116 #[.string s] w fun e w'=>Below w.heap.size w w' ∧
  ((∃v,aiR (ac s) = .ok v∧e = .returned (.tuple #[.int .i64 v,.nilIface]))∨((∀v,aiR (ac s) ≠ .ok v)∧∃n t x,e = .returned (.tuple #[.int .i64 n,.iface t x]))):=by
  intro n hn hno;refine(oD hen sS HK rfl hn hgl ha hF).mono ?_
  rintro e w' ⟨hB,F',R,vs,rfl,hpost⟩;refine⟨hB,.inr ⟨hno,?_⟩⟩
  have hl:=hpost.len
  match vs,hl with
  | [y0,y1],hl =>
   have r0:=(hpost.res 0).resolve_left (by intro h;cases h);have r1:=(hpost.res 1).resolve_left (by intro h;cases h);replace r0:bP w' _ (I n) y0:=r0;replace r1:bP w' _ .ifc y1:=r1;obtain⟨rfl,-⟩:=ce.1 r0;simp only [bP,RepC] at r1;obtain⟨t,x,h1⟩:=r1;simp only [ajq,and_true] at h1;subst h1;exact⟨_,_,_,rfl⟩
 cases hq:aiR (ac s) with
 | ok v =>
  rw [hq] at he;refine(pZ hen sS (ds:=[T s]) [.int .i64 v,.nilIface] HK rfl he rfl hgl ha hF).mono ?_
  rintro e w' ⟨rfl,hB⟩;exact⟨hB,.inl ⟨v,rfl,rfl⟩⟩
 | range =>
  rw [hq] at he;have:=bad _ he (fun v=>by rw [hq];intro h;cases h);rw [hq] at this;exact this
 | _ =>
  rw [hq] at he;have:=bad _ he (fun v=>by rw [hq];intro h;cases h);rw [hq] at this;exact this
theorem FD (hgl:gOk gl0 w F) (s:ByteArray) (hs:s.size≤1048576):Calls Tryz.prog 70 #[.string s,.string ⟨#[32]⟩] w fun e w'=>Below w.heap.size w w' ∧
  ∃g o c cs t,e = .returned (.slice (some ⟨g,o,none⟩) (aC 32 s).length c)∧w.heap.size≤g∧w'.heap[g]?=some (.cells cs t (0,0))∧∀(i:Nat) (x:ByteArray),(aC 32 s)[i]?=some x→cs[o+i]?=some (.string x):=by
 have he:=Zq (c:=32) (s:=s) (by omega);refine(oD (aiv Tryz.func70 (by kernel_rfl) rfl) xM (ds:=[T s,T ⟨#[32]⟩]) (args:=#[.string s,.string ⟨#[32]⟩]) AL rfl he hgl
  (show eP w F _ (.dat 0) (T s) (.string s)∧eP w F _ (.dat 0) (T ⟨#[32]⟩) (.string ⟨#[32]⟩)∧True from⟨.inr (ce.2 ⟨rfl,rfl⟩),.inr (ce.2 ⟨rfl,rfl⟩),trivial⟩) hF).mono ?_
 rintro e w' ⟨hB,F',R,vs,rfl,hpost⟩;refine⟨hB,?_⟩
 have hl:=hpost.len
 match vs,hl with
 | [y0],hl =>
  have r0:=(hpost.res 0).resolve_left (by intro h;cases h);replace r0:kX w' _ _ 1 (.arr 1 ((aC 32 s).map T)) y0:=r0;obtain⟨l,h1,h2,h3⟩:=r0;cases h1;rcases h3 with ⟨-,h3⟩ | ⟨g,o,c,us,cs,t,h3,h4,h5,h6,h7,h8,h9⟩
  ·have hne:aC 32 s≠[]:=by
    unfold aC;simp [ed]
   exact absurd (List.map_eq_nil_iff.1 h3) hne
  ·rw [aio] at h3
   have hus:∀(l:List ByteArray) (us:List Value),cm w' (FB F' w.heap.size 0) (l.map T) us→us=l.map ai9:=by
    intro l;induction l with
    | nil=>intro us h;exact aW.1 h
    | cons x l ih =>
     intro us h;obtain⟨v1,v2,rfl,q1,q2⟩:=au.1 h;simp only [RepC] at q1;rw [ih v2 q2,q1.1];rfl
   rw [hus _ _ h7] at h8;exact⟨g,o,c,cs,t,by rw [h3];rfl,h9.2,h5,fun i x hx=>h8 i _ (by rw [ajF,hx];rfl)⟩
end
end Go.Proofs.YtjafgdefcggjcaaGreatDoor

namespace Go.Proofs.YtjafgdefcggjcaaGreatDoor
open Go Go.V Go.RowKit Go.Shelf
theorem BJ {w:World} {F:Nat→Prop} (hF:∀b,F b→b<w.heap.size) (hgl:gOk gl1 w F) {n:Int} (h0 : -9223372036854775808≤n) (h1:n≤9223372036854775807) :
  Calls Tryz.prog 117 #[.int .i64 n] w fun e w'=>e = .returned (.string (aI n))∧Below w.heap.size w w' :=
 mG (aiv Tryz.func117 (by kernel_rfl) rfl) rW KJ rfl (Mg h0 h1) rfl hgl (show eP w F _ (.dat 0) (I n) (.int .i64 n)∧True from⟨.inr (ce.2 ⟨rfl,rfl⟩),trivial⟩) hF
def TH (x:Slp):List Value:=[.int .i64 x.1,.int .i64 x.2]
theorem Zg {w:World} {F:Nat→Prop}:∀(l:List Slp) (us:List Value),cm w F (l.map slp) us→us=l.flatMap TH
 | [],us,h=>aW.1 h
 | x::l,us,h=>by
  obtain⟨v1,v2,rfl,h1,h2⟩:=au.1 h;rw [Zg l v2 h2];simp only [RepC] at h1;obtain⟨u1,r1,rfl,g1,h1⟩:=au.1 h1.1;obtain⟨u2,r2,rfl,g2,h1⟩:=au.1 h1;simp only [RepC] at g1 g2;rw [g1.1,g2.1,aW.1 h1];rfl
theorem SC {w:World} {b:Nat}:∀(l:List Slp) (o:Nat),cL w b o (l.flatMap TH)→∀(i:Nat) (x:Slp),l[i]?=some x→cL w b (o+i*2) (TH x)
 | [],_,_,i,x,hx=>by simp at hx
 | y::l,o,h,0,x,hx=>by
  simp only [aiE,aiB] at hx;subst hx;intro j u hu;have:=h j u (by rw [ajh,aji (ai0.1 hu).1];exact hu);simpa using this
 | y::l,o,h,i+1,x,hx=>by
  have:=SC l (o+2) (by
   have:=h.drop 2;exact this) i x (by simpa using hx)
  rw [show o+(i+1)*2=o+2+i*2 by omega];exact this
set_option maxHeartbeats 4000000 in
set_option maxRecDepth 1000000 in
theorem Ol (l:List Slp) (hg:∀x∈l,(1≤x.1∧x.1≤200)∧0≤x.2∧x.2≤20) (hl:l.length≤1048576) (A:Option Addr) (c:Nat) (_hc:l.length≤c) (w:World) (F:Nat→Prop) (hF:∀b,F b→b<w.heap.size) (hgl:gOk gl1 w F)
    (hA:l≠[]→∃b o,A=some ⟨b,o,none⟩∧F b∧∀(i:Nat) (x:Slp),l[i]?=some x→cL w b (o+i*2) (TH x)) :
    Calls Tryz.prog 166 #[.slice A l.length c] w fun e w'=>e = .returned (.string (stT l))∧Below w.heap.size w w':=by
  have hIt:∀n:Int,0≤n→n≤200→∀W,Below w.heap.size w W→Calls Tryz.prog 117 #[.int .i64 n] W fun e w'=>e = .returned (.string (aI n))∧Below W.heap.size W w':=fun n h0 h1 W hW =>
    BJ (F:=F) (fun b hb=>aje (hF b hb) hW.size) (iv (fun _ h=>h) (fun b hb=>hW.block b (hF b hb)) hgl) (by omega) (by omega)
  go_enter Tryz.func166,Tryz.ntmps166
  go_wp2
  go_loopw [8] (fun v8 wr=>∃(i:Nat) (acc:List UInt8),v8 = .int .i64 i∧i≤l.length∧aiN 67 5 w.heap.size w.heap.size (aiY acc) wr∧Below w.heap.size w wr∧acc++ac (stT (l.drop i))=ac (stT l)∧acc.length≤8*i) (fun v8 wr=>l.length - (match v8 with | .int _ n=>n.toNat | _=>0))
  case atStart =>
    exact⟨0,[],rfl,aiO _,ajE (ajz 67 5 w),(aju _ w).alloc (ain _) _,rfl,ain _⟩
  case round =>
    obtain⟨i,acc,rfl,hi,hI,hbw,hacc,hal⟩:=hrel;by_cases hp:i<l.length
    · have hpi:(i:Int)<(l.length:Int):=by omega
      obtain⟨b,o,rfl,hb,hcell⟩:=hA (fun h=>by rw [h] at hp;exact absurd hp (ajL _));have hcl:=hcell i l[i] (aiD hp);have hbw0:wr.heap[b]?=w.heap[b]?:=hbw.block b (hF b hb);have c0:wr.cell? ⟨b,o+i*2,none⟩=some (.int .i64 l[i].1):=(aiQ hbw0).trans (hcl 0 _ rfl);have c1:wr.cell? ⟨b,o+i*2+1,none⟩=some (.int .i64 l[i].2):=(aiQ hbw0).trans (hcl 1 _ rfl);have hx:=hg _ (aiL hp);have hItC:=hIt l[i].2 (by omega) (by omega);have hItL:=hIt l[i].1 (by omega) (by omega);obtain⟨z1,z2,z3⟩:=HO hx;have s1:(aI l[i].2++⟨⟨[120]⟩⟩:ByteArray).size=(aI l[i].2).size+1:=by rw [ait,JH]
      have s2:(aI l[i].2++⟨⟨[120]⟩⟩++aI l[i].1:ByteArray).size=(aI l[i].2).size+1+(aI l[i].1).size:=by rw [ait,s1]
      generalize hO0:(Obj.cells #[.int .i64 l[i].1,.int .i64 l[i].2] 75)=O0 at *;have hIs:=iT (hI.alloc O0) ((aju _ _).drew);have hBl:=(hbw.alloc hbw.size O0).drew;have hk:(wr.alloc O0).drew.heap[wr.heap.size]?=some O0:=ajk;have d0:(wr.alloc O0).drew.cell? ⟨wr.heap.size,0,none⟩=some (.int .i64 l[i].1):=by rw [←hO0] at hk ⊢;rw [aiy hk];rfl
      have d1:(wr.alloc O0).drew.cell? ⟨wr.heap.size,1,none⟩=some (.int .i64 l[i].2):=by rw [←hO0] at hk ⊢;rw [aiy hk];rfl
      have hlt:w.heap.size<wr.heap.size:=hI.elim (fun h=>h.lt) (fun h=>h.lt);have hne:∀c fz,O0 ≠ .cells c 5 fz:=fun c fz h=>by
        rw [←hO0] at h;injection h with _ h _;exact absurd h (by decide)
      have hWr:∀W,aiN 67 5 w.heap.size w.heap.size (aiY acc) W→w.heap.size≤W.heap.size→W.heap[wr.heap.size]?=some O0 →
          Calls Tryz.prog 43 #[.pointer (some ⟨w.heap.size,0,none⟩),.string (aI l[i].2++⟨#[120]⟩++aI l[i].1++⟨#[32]⟩)] W fun e w'=>e = .returned (.tuple #[.int .i64 (slT l[i]).size,.nilIface]) ∧
            ajc 67 5 w.heap.size w.heap.size (.pointer (some ⟨w.heap.size,0,none⟩)) (aiY acc++Lib.strCells (slT l[i])) w'∧Below w.heap.size W w'∧w'.heap[wr.heap.size]?=some O0:=by
        intro W hW1 hW2 hW3;refine(xA w.heap.size w.heap.size _ (slT l[i]) W hW1 (by rw [ajv];omega) hW2).mono ?_
        rintro e w' ⟨q1,q2,q3,q4⟩;refine⟨q1,q2,q3,q4 _ _ hW3 (fun h=>?_) hne⟩
        have:=ajo h;omega
      go_upto_region 5 with fail
      go_region_held (fun w'=>w'.cell? ⟨wr.heap.size,0,none⟩=some (.int .i64 l[i].1)∧w'.cell? ⟨wr.heap.size,1,none⟩=some (.int .i64 l[i].2)) (first | exact⟨d0,d1⟩ | go_keep)
        (first
          | (go_at_call 117;first
              | (refine(hItC _ hBl).mono ?_;rintro e W1 ⟨rfl,b1⟩
                 have hk:=(b1.block _ (aiz.1 hk).1).trans hk;have hIs:=iT hIs b1;have hBl:=hBl.trans (b1.mono hBl.size);have d0:W1.cell? ⟨wr.heap.size,0,none⟩=some (.int .i64 l[i].1):=by rw [←hO0] at hk;rw [aiy hk];rfl
                 have d1:W1.cell? ⟨wr.heap.size,1,none⟩=some (.int .i64 l[i].2):=by rw [←hO0] at hk;rw [aiy hk];rfl)
              | (refine(hItL _ hBl).mono ?_;rintro e W1 ⟨rfl,b1⟩
                 have hk:=(b1.block _ (aiz.1 hk).1).trans hk;have hIs:=iT hIs b1;have hBl:=hBl.trans (b1.mono hBl.size);have d0:W1.cell? ⟨wr.heap.size,0,none⟩=some (.int .i64 l[i].1):=by rw [←hO0] at hk;rw [aiy hk];rfl
                 have d1:W1.cell? ⟨wr.heap.size,1,none⟩=some (.int .i64 l[i].2):=by rw [←hO0] at hk;rw [aiy hk];rfl))
          | (go_at_call 43
             refine(hWr _ hIs hBl.size hk).mono ?_
             rintro e W3 ⟨rfl,hI3,b3,hk⟩;have d0:W3.cell? ⟨wr.heap.size,0,none⟩=some (.int .i64 l[i].1):=by rw [←hO0] at hk;rw [aiy hk];rfl
             have d1:W3.cell? ⟨wr.heap.size,1,none⟩=some (.int .i64 l[i].2):=by rw [←hO0] at hk;rw [aiy hk];rfl))
      all_goals
        go_wp2
        have hdr:ac (stT (l.drop i))=ac (slT l[i])++ac (stT (l.drop (i+1))):=by
          rw [aiZ hp];simp only [stT,be]
        have hsz:(ac (slT l[i])).length≤8:=z3;refine⟨⟨i+1,acc++ac (slT l[i]),congrArg (aiK .i64) (by omega),by omega,?_,hBl.trans b3,?_,?_⟩,?_⟩
        · rw [ajw]
          exact Or.inr hI3
        · rw [←hacc,hdr,aiI]
        · rw [aiP]
          omega
        · show l.length - ((i:Int)+1).toNat<l.length - (i:Int).toNat
          omega
    · have hpi:¬(i:Int)<(l.length:Int):=by omega
      have hcall4:=tR w.heap.size w.heap.size acc _ hI hbw.size
      go_wp2_with (go_at_call 44;refine hcall4.mono ?_)
      intro e W1 he h1 b1 k1;subst he
      go_wp2
      go_ret
      rw [ai1 (by omega)] at hacc;refine⟨?_,hbw.trans b1⟩
      have:acc=ac (stT l):=by rw [←hacc];simp [stT,ac]
      rw [this,ll];rfl
def adR:D→Option Slp
 | .agg [.v (.int .i64 a),.v (.int .i64 b)]=>some (a,b)
 | _=>none
theorem Xu {d:D} {x:Slp} (h:adR d=some x):d=slp x:=by
 unfold adR at h;split at h
 ·cases h;rfl
 ·cases h
def Sy:List D→Option (List Slp)
 | []=>some []
 | d::l=>(adR d).bind fun x=>(Sy l).map (x::·)
theorem NL:∀(ds:List D) (l:List Slp),Sy ds=some l→ds=l.map slp
 | [],l,h=>by cases h;rfl
 | d::ds,l,h=>by
  simp only [Sy,aiu,aiA] at h;obtain⟨x,h1,m,h2,rfl⟩:=h;rw [Xu h1,NL ds m h2];rfl
theorem Ru:∀(l:List Slp),Sy (l.map slp)=some l
 | []=>rfl
 | x::l=>by
  simp only [aiC,Sy,Ru l];rfl
def FA:List D→Option Out
 | [.arr _ ds]=>(Sy ds).bind fun l=>if (∀x∈l,(1≤x.1∧x.1≤200)∧0≤x.2∧x.2≤20)∧l.length≤1048576 then some (.ret [T (stT l)] []) else none
 | _=>none
theorem OG {l:List Slp} (h:cB l=true):FA [sls l]=some (.ret [T (stT l)] []):=by
 have h8:=dT h;simp only [FA,Ru,aik];rw [if_pos ⟨dW h,by omega⟩]
@[reducible] def ou:FS:={pm:=[.dat 2],rm:=[.dat 0],f:=FA}
theorem vT:aw gl1 Tryz.prog 166 ou:=by
 have he:∀args w,(callFunc 166 args).run Tryz.prog w = .ok (.enter 166 args) w:=aiv Tryz.func166 (by kernel_rfl) rfl;refine bQ he fun ds rs us hd args w F ow hg ha hF _=>?_
 obtain⟨d,y,rfl,h2,h3⟩:=lC ha;replace hd:FA [d]=some (.ret rs us):=hd;unfold FA at hd;split at hd
 case h_2=>cases hd
 rename_i z ds e;cases e;obtain⟨l,hl,hd⟩:=aiu.1 hd;split at hd
 case isFalse=>cases hd
 rename_i hz;cases hd;obtain rfl:=NL _ _ hl;rcases h3 with h3 | h3
 ·cases h3
 simp only [bP,RepC] at h3;obtain⟨A,c,us,hy,hc,hr,_,hA⟩:=h3;simp only [ajq,and_true] at hy;subst hy;rw [Zg l us hr] at hA;rw [DL h2];rw [aio] at hc ⊢;refine(Ol l hz.1 hz.2 A c hc w F (fun b hb=>(hF b hb).1) hg (fun hne=>?_)).mono ?_
 ·obtain⟨b,o,rfl,h5,h6⟩:=hA (by simpa using hne)
  exact⟨b,o,rfl,h5,SC l o h6⟩
 ·rintro e w' ⟨rfl,hB⟩
  refine⟨_,rfl,F,_,[_],rfl,eR hB hF rfl rfl [_] [_] rfl rfl fun j d hj=>?_⟩
  match j,hj with
  | 0,hj =>
   simp only [aiE,aiB] at hj;subst hj;exact⟨_,rfl,ce.2 ⟨rfl,rfl⟩⟩
end Go.Proofs.YtjafgdefcggjcaaGreatDoor

end
