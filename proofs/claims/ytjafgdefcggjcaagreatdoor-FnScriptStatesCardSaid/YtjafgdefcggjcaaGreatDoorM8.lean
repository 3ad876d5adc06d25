/-
  A part of the proof: contracts and plain forms of functions beneath the statement, made small by a program (names shortened, what is not needed left out).
-/
import Derived.Test.YtjafgdefcggjcaaGreatDoorRows
import Derived.Test.YtjafgdefcggjcaaGreatDoorTie
import Derived.Test.YtjafgdefcggjcaaGreatDoorCards
import Derived.Test.YtjafgdefcggjcaaGreatDoorM7
import Derived.Shelf.Strings.BuilderK
import Derived.BigCall
import Derived.Shelf.Slices.In.SortNone2
import Derived.Shelf.Sort.Plain
import Derived.Maps.OwnSet
import Derived.Maps.StringElems
import Derived.StringKeys
import Derived.WalkKit
import Derived.Shelf.Abstract
import Derived.Deep.RegionHeld
open Option renaming bind_some → aiT, map_some → ai1, bind_eq_some_iff → ai3, map_eq_some_iff → ai9, getD_some → ajB, isSome_some → ajM, isSome_none → aka
open Go.IntKind renaming i64 → aiU
open Bool renaming false_eq_true → aiV, not_true → ai6, not_false → aju, and_eq_true → ajw, and_self → ajP, not_eq_true → aki
open Nat renaming le_refl → aiW, zero_le → ajn, beq_refl → ajr, le_div_iff_mul_le → ajs, lt_of_lt_of_le → ajN, zero_add → akb, le_add_right → akk, not_lt_zero → akl
open List renaming length_map → aiX, replicate → ai5, map_cons → ajb, getElem?_eq_getElem → ajc, getElem?_cons_zero → ajd, getD_eq_getElem?_getD → aje, take_succ_eq_append_getElem → ajf, length_cons → ajg, append_assoc → ajh, mem_cons → aji, getElem_mem → ajk, cons_append → ajl, length_append → ajo, drop_zero → ajt, take_length → ajv, drop_eq_getElem_cons → ajy, getElem?_eq_some_iff → ajz, drop_eq_nil_of_le → ajA, length_singleton → ajC, nil_append → ajE, mem_append → ajF, map_append → ajG, length_dropLast → ajH, eq_nil_of_length_eq_zero → ajJ, length_pos_iff → ajK, flatMap_cons → ajQ, getElem?_append_left → ajR, map_nil → ajS, length_nil → ajY, getElem_cons_succ → aj0, set_append_right → aj1, dropLast_eq_take → aj2, replicate_succ' → aj3, sum_cons → aj7, take_succ_cons → aj8, mem_map → akc, foldl_append → akd, getElem?_map → akf, length → akg, length_take → akj, drop_drop → akm
open Int renaming reduceLT → aiY, reduceLE → aiZ, reduceEq → ai0, tdiv_eq_ediv_of_nonneg → ajO, eq_ofNat_of_zero_le → ajV, natCast_mul → ajW, neg_neg → akh
open ByteArray renaming size_append → ai2
open Go.Proofs renaming enters_of → ai4
open Go.Lib renaming cell_of_heap → ai7, IsBuilderF → ajm, atoiAll → ajq, byteCells → ajx, cut → ajD, BuilderAtF → ajL, byteCells_length → aj5, byteCells_append → aj6, fresh_isBuilder → aj9
open Array renaming getElem?_eq_some_iff → ai8, getElem?_push_size → ajT
open Option.some renaming injEq → aja, inj → ajX
open Go.Value renaming int → ajj, string → ajI
open Go.World renaming cell?_of_block → ajp
open Go.Sort renaming putCells → ajU
open List.cons renaming injEq → ajZ
open Go.RowKit.Below renaming refl → aj4
open Go.Lib.IsBuilderF renaming of → ake
set_option maxRecDepth 100000
set_option linter.unusedSimpArgs false
set_option linter.unusedVariables false
noncomputable section
namespace Go.Proofs.YtjafgdefcggjcaaGreatDoor
open Go Go.V
def GD (P:Nat→Bool):Nat→Nat
 | 0=>0
 | m+1=>if P (m+1)=true then m+1 else GD P m
theorem ZQ (P:Nat→Bool):∀M,GD P M≤M
 | 0=>aiW _
 | m+1=>by
  have:=ZQ P m;simp only [GD];split<;>omega
theorem IW {P:Nat→Bool}:∀{M:Nat},(∃j,j≤M∧P j=true)→P (GD P M)=true
 | 0,⟨j,h1,h2⟩=>by
  have:j=0:=by omega
  subst this;exact h2
 | m+1,⟨j,h1,h2⟩=>by
  simp only [GD];by_cases h:P (m+1)=true
  ·rw [if_pos h]
   exact h
  ·rw [if_neg h]
   refine IW ⟨j,?_,h2⟩
   rcases Nat.lt_or_ge m j with g | g
   ·have:j=m+1:=by omega
    subst this;exact absurd h2 h
   ·exact g
theorem Tc {P:Nat→Bool} {M:Nat} (h:P M=true):GD P M=M:=by
 cases M with
 | zero=>rfl
 | succ m=>simp only [GD,h,if_true]
theorem St {P:Nat→Bool} {M:Nat} (h:P (GD P M)=true) (hn:¬P M=true):∃m,M=m+1∧GD P M=GD P m:=by
 cases M with
 | zero=>exact absurd h hn
 | succ m=>exact⟨m,rfl,by simp only [GD,hn];simp⟩
theorem afp {a b:Option Nat} {v:Nat} (h:zD a b=some v):a=some v∨b=some v:=by
 cases a with
 | none=>exact .inr h
 | some a =>
  cases b with
  | none=>exact .inl h
  | some b =>
   simp only [zD] at h;split at h
   ·exact .inr h
   ·exact .inl h
theorem Xs {row:Nat→Option Nat} {w k v:Nat}:∀{m:Nat},qO row w k m=some v→∃j,j<m∧(row (k - j*w)).map (·+j)=some v
 | 0,h=>by cases h
 | m+1,h=>by
  rcases afp h with h | h
  ·obtain⟨j,h1,h2⟩:=Xs h
   exact⟨j,by omega,h2⟩
  ·exact⟨m,by omega,h⟩
def slW (l:List Slp) (i:Nat):Nat:=(l.getD i (0,0)).1.toNat
def slC (l:List Slp) (i:Nat):Nat:=(l.getD i (0,0)).2.toNat
def agr (l:List Slp) (i n m:Nat):Bool:=decide ((de (l.take i) (n - m*slW l i)).map (·+m)=de (l.take (i+1)) n)
def mx (l:List Slp) (i n:Nat):Nat:=min (slC l i) (n / slW l i)
def pk (l:List Slp) (i n:Nat):Nat:=GD (agr l i n) (mx l i n)
def ctl (l:List Slp):Nat→Nat→List Int
 | 0,_=>[]
 | i+1,n=>ctl l i (n - pk l i n*slW l i)++[(pk l i n:Int)]
theorem Ys {l:List Slp} {i n v:Nat} (hi:i<l.length) (h:de (l.take (i+1)) n=some v):∃j,j≤mx l i n∧agr l i n j=true:=by
 have h0:=h;have hw:slW l i=l[i].1.toNat:=by simp [slW,aje,hi]
 have hc:slC l i=l[i].2.toNat:=by simp [slC,aje,hi]
 rw [BL hi,←hw,←hc] at h;obtain⟨j,h1,h2⟩:=Xs h;refine⟨j,by unfold iK at h1;unfold mx;omega,?_⟩
 unfold agr;rw [h0,h2,decide_eq_true rfl]
theorem PR {l:List Slp} {i n v:Nat} (hi:i<l.length) (h:de (l.take (i+1)) n=some v):∃u,de (l.take i) (n - pk l i n*slW l i)=some u∧u+pk l i n=v∧pk l i n≤mx l i n:=by
 have:agr l i n (pk l i n)=true:=IW (Ys hi h);unfold agr at this;rw [decide_eq_true_eq,h] at this;obtain⟨u,h1,h2⟩:=ai9.1 this;exact⟨u,h1,h2,ZQ _ _⟩
theorem aen {o p:Option Nat} {m v:Nat} (hp:p=some v):decide (o.map (·+m)=p)=(decide (0≤je o)&&decide (je o+(m:Int)=je p)):=by
 subst hp;cases o with
 | none=>simp [je]
 | some u =>
  show decide (some (u+m)=some v)=(decide ((0:Int)≤(u:Int))&&decide ((u:Int)+(m:Int)=(v:Int)))
  rw [←Bool.decide_and];exact decide_eq_decide.2 (by rw [aja];omega)
theorem ac4 {o p:Option Nat} {m v:Nat} (hp:p=some v) (hv:v≤1000):decide (o.map (·+m)=p)=decide (gT o+(m:Int)=gT p):=by
 subst hp;cases o with
 | none =>
  show decide (none=some v)=decide ((1048576:Int)+(m:Int)=(v:Int))
  exact decide_eq_decide.2 ⟨fun h=>(by cases h),fun h=>(by exfalso;omega)⟩
 | some u =>
  show decide (some (u+m)=some v)=decide ((u:Int)+(m:Int)=(v:Int))
  exact decide_eq_decide.2 (by rw [aja];omega)
theorem ac6 {l:List Slp} {i:Nat} (hi:i<l.length) (h0:0≤l[i].1):((slW l i:Nat):Int)=l[i].1:=by
 simp only [slW,aje,ajc hi,ajB];omega
theorem UC {l:List Slp} {i:Nat} (hi:i<l.length) (h0:0≤l[i].2):((slC l i:Nat):Int)=l[i].2:=by
 simp only [slC,aje,ajc hi,ajB];omega
theorem agi (a b:Int):Wr (I a) (I b)=some (I (if b<a then b else a)):=rfl
def ruO (l:List Slp) (n:Nat):D:=if (de l n).isSome=true then ai (ctl l l.length n) else .v (.slice none 0 0)
theorem QW (l:List Slp) (n:Nat) (hl:l.length≤8) (hn:n≤400) (hok:∀x∈l,(1≤x.1∧x.1≤200)∧0≤x.2∧x.2≤20) :
  pr [ai (l.map (·.1)),ai (l.map (·.2)),I (n:Int)]=some (.ret [ruO l n] []):=by
 rw [Sc];have hfw:=Ds l n hl hn hok;have htl:l.take l.length=l:=ajv;have het:=Bz (l:=qm n l (l.length+1)) (i:=l.length) (by rw [qj];omega);rw [AY (by omega),htl] at het;have her:=hZ (l:=zA n (de l)) (i:=n) (by rw [vJ];omega);rw [Ab (by omega)] at her;simp -implicitDefEqProofs only [hfw,am,ak,aL,aiX,aiT,het,ai1,bn,aR,her,bJ,bg];cases hv:de l n with
 | none =>
  simp -implicitDefEqProofs only [Km,show(-1:Int)<0 by decide,decide_true,aH,if_true,ruO,hv,aka,aiV,if_false]
 | some v =>
 have hv0:¬(v:Int)<0:=by omega
 have wl:aiU.wrap ((l.length:Int) - 1)=(l.length:Int) - 1:=ah (by omega) (by omega);simp -implicitDefEqProofs only [EX,hv0,decide_false,aH,aiV,if_false,AD (show l.length≤1000000 by omega),cy,aiT,cq,wl];refine bL (fun r=>r=_) (fun(a:Nat × Nat × List Int)=>[ai (l.map (·.1)),ai (l.map (·.2)),I (a.2.1:Int),fC (qm n l (l.length+1)),.ref 0 0,I ((a.1:Int) - 1),ai (ai5 a.1 0++a.2.2)]) (fun a=>a.1≤l.length∧a.2.1≤n∧(∃v,de (l.take a.1) a.2.1=some v)∧ctl l l.length n=ctl l a.1 a.2.1++a.2.2) (fun a=>a.1)
  (fun o=>o = .ext 0 [.ref 0 0,ai (ctl l l.length n)]) ?_ (l.length,n,[]) ⟨aiW _,aiW _,⟨v,by dsimp only;rw [htl];exact hv⟩,by simp⟩ (by simp) ?_
 case refine_2 =>
  rintro o rfl;simp -implicitDefEqProofs only [bF,ajr,ep,if_true,ak,aE,Oy,ruO,hv,ajM]
 rintro⟨i1,n1,tl⟩ ⟨g1,g2,⟨v1,g3⟩,g4⟩;dsimp only at g1 g2 g3 g4;cases i1 with
 | zero =>
  right
  refine⟨_,?_,rfl,rfl⟩
  have hge:¬(0:Int)≤((0:Nat):Int) - 1:=by omega
  have e:ai5 0 0++tl=ctl l l.length n:=by rw [g4];rfl
  simp -implicitDefEqProofs only [ak,aE,jM,hge,decide_false,aiT,aH,aiV,if_false,e]
 | succ i =>
  left
  have hi:i<l.length:=g1;have ho:=hok l[i] (ajk hi);have hW:=ac6 hi (by omega);have hC:=UC hi ho.2.1;obtain⟨u,p1,p2,p3⟩:=PR hi g3;have hpm:pk l i n1*slW l i≤n1:=by
   have:pk l i n1≤n1 / slW l i:=by unfold mx at p3;omega
   exact(ajs (by omega)).1 this
  refine⟨(i,n1 - pk l i n1*slW l i,(pk l i n1:Int)::tl),?_,⟨by dsimp only;omega,by dsimp only;omega,⟨u,p1⟩,?_⟩,by dsimp only;omega⟩
  ·have hidx:(((i+1:Nat):Int) - 1)=(i:Int):=by omega
   have hi0:(0:Int)≤(i:Int):=by omega
   have ew:aq 1 (ai (l.map (·.1))) (I (i:Int))=some [I ((slW l i:Nat):Int)]:=by rw [hZ (by simpa using hi),hW];simp
   have ec:aq 1 (ai (l.map (·.2))) (I (i:Int))=some [I ((slC l i:Nat):Int)]:=by rw [hZ (by simpa using hi),hC];simp
   have hw0:¬((slW l i:Nat):Int)=0:=by omega
   have hdl:n1 / slW l i≤n1:=Nat.div_le_self _ _;have hq:aiU.wrap (((n1:Nat):Int).tdiv ((slW l i:Nat):Int))=((n1 / slW l i:Nat):Int):=by
    rw [ajO (by omega),←Int.natCast_ediv];generalize n1 / slW l i=q at hdl;exact ah (by omega) (by omega)
   have hmx:(if ((n1 / slW l i:Nat):Int)<((slC l i:Nat):Int) then((n1 / slW l i:Nat):Int) else((slC l i:Nat):Int))=((mx l i n1:Nat):Int):=by
    rw [agt];unfold mx;omega
   have hb:=zJ (l:=l) (fun x hx=>(hok x hx).2.2) i (by omega);have htab:=Bz (l:=qm n l (l.length+1)) (i:=i) (by rw [qj];omega);rw [AY (by omega)] at htab;have htab1:=Bz (l:=qm n l (l.length+1)) (i:=i+1) (by rw [qj];omega);rw [AY (by omega)] at htab1;have her1:=hZ (l:=zA n (de (l.take (i+1)))) (i:=n1) (by rw [vJ];omega);rw [Ab (by omega)] at her1;have hwi:=wI (show i≤1000000 by omega);have hmc:mx l i n1≤20:=by unfold mx;omega
   simp -implicitDefEqProofs only [ak,aE,hidx,jM,hi0,decide_true,aiT,aH,if_true,ew,ec,ai1,bn,aR,bJ,md,hw0,if_false,hq,agi,hmx];refine bL (fun r=>r=_) (fun(m:Nat)=>[ai (l.map (·.1)),ai (l.map (·.2)),I (n1:Int),fC (qm n l (l.length+1)),.ref 0 0,I (i:Int),I (m:Int),ai (ai5 (i+1) 0++tl)]) (fun m=>m≤mx l i n1∧pk l i n1=GD (agr l i n1) m) (fun m=>m)
    (fun o=>o = .ext 2 [ai (l.map (·.1)),ai (l.map (·.2)),I ((n1 - pk l i n1*slW l i:Nat):Int),fC (qm n l (l.length+1)),.ref 0 0,I (i:Int),ai (ai5 i 0++(pk l i n1:Int)::tl)]) ?_ (mx l i n1) ⟨aiW _,rfl⟩ rfl ?_
   case refine_2 =>
    rintro o rfl;have hwd:aiU.wrap ((i:Int) - 1)=(i:Int) - 1:=ah (by omega) (by omega);simp -implicitDefEqProofs only [bF,ajr,ep,if_true,ak,aE,cq,hwd,aiT]
   rintro m ⟨q1,q2⟩;have hm0:(0:Int)≤(m:Int):=by omega
   have hmw:m*slW l i≤n1:=by
    have:m≤n1 / slW l i:=by unfold mx at q1;omega
    exact(ajs (by omega)).1 this
   have hwr:aiU.wrap ((m:Int)*((slW l i:Nat):Int))=((m*slW l i:Nat):Int):=by
    rw [←ajW];exact ah (by omega) (by omega)
   have hsub:aiU.wrap (((n1:Nat):Int) - ((m*slW l i:Nat):Int))=((n1 - m*slW l i:Nat):Int):=by rw [ah (by omega) (by omega)];omega
   have her:=hZ (l:=zA n (de (l.take i))) (i:=n1 - m*slW l i) (by rw [vJ];omega);rw [Ab (by omega)] at her;have hag:agr l i n1 m=(decide (0≤je (de (l.take i) (n1 - m*slW l i)))&&decide (je (de (l.take i) (n1 - m*slW l i))+(m:Int)=je (de (l.take (i+1)) n1))):=aen g3;have hbb : -1≤je (de (l.take i) (n1 - m*slW l i))∧je (de (l.take i) (n1 - m*slW l i))≤1000:=by
    cases ho2:de (l.take i) (n1 - m*slW l i) with
    | none=>simp [je]
    | some x =>
     have:=hb _ _ ho2;simp only [je];omega
   have hsum:aiU.wrap (je (de (l.take i) (n1 - m*slW l i))+(m:Int))=je (de (l.take i) (n1 - m*slW l i))+(m:Int):=ah (by omega) (by omega);by_cases hA:agr l i n1 m=true
   ·right
    have hpk:pk l i n1=m:=by rw [q2];exact Tc hA
    rw [hag,ajw,decide_eq_true_eq,decide_eq_true_eq] at hA;have hsum':=hsum.trans hA.2;refine⟨_,?_,rfl,rfl⟩
    have hrf:=qr (l:=ai5 (i+1) 0++tl) (i:=i) (by simp;omega);have hst:=pN (ai5 (i+1) 0++tl) i (m:Int) (by simp;omega);have hset:(ai5 (i+1) 0++tl).set i (m:Int)=ai5 i 0++(m:Int)::tl:=by
     rw [aj3,ajh,aj1 _ _ (by simp)];simp
    rw [hset] at hst;rw [hpk];simp -implicitDefEqProofs only [ak,aE,jM,hm0,decide_true,aiT,aH,if_true,htab,htab1,ew,ai1,bn,aR,bJ,eG,hwr,cq,hsub,her,her1,hA.1,eo,bv,hsum',hwi,fi,aP,ch,cy,hrf,hst]
   ·left
    obtain⟨m',rfl,hs⟩:=St (by rw [←q2];exact IW (Ys hi g3)) hA;have hmd:aiU.wrap (((m'+1:Nat):Int) - 1)=(m':Int):=by rw [ah (by omega) (by omega)];omega
    rw [hag] at hA;refine⟨m',?_,⟨by omega,by rw [q2,hs]⟩,by omega⟩
    cases hd:decide (0≤je (de (l.take i) (n1 - (m'+1)*slW l i)))
    ·simp -implicitDefEqProofs only [ak,aE,jM,hm0,decide_true,aiT,aH,if_true,htab,ew,ai1,bn,aR,bJ,eG,hwr,cq,hsub,her,hd,eo,aiV,if_false,aP,hmd]
    ·rw [hd,Bool.true_and,aki] at hA
     simp -implicitDefEqProofs only [ak,aE,jM,hm0,decide_true,aiT,aH,if_true,htab,htab1,ew,ai1,bn,aR,bJ,eG,hwr,cq,hsub,her,her1,hd,eo,bv,hsum,hwi,fi,hA,aP,aiV,if_false,hmd]
  ·rw [g4]
   simp [ctl]
def ruL (l:List Slp) (n:Nat):List Int:=if (de l n).isSome=true then ctl l l.length n else []
theorem Qf (l:List Slp) (n:Nat) (hl:l.length≤8) (hn:n≤400) (hok:∀x∈l,(1≤x.1∧x.1≤200)∧0≤x.2∧x.2≤20) :
  pP [sls l,I (n:Int)]=some (.ret [ai (ruL l n),B (de l n).isSome] []):=by
 rw [RK];have hfw:=yG l n hl hn hok;have htl:l.take l.length=l:=ajv;have het:=Bz (l:=oN n l (l.length+1)) (i:=l.length) (by rw [pW];omega);rw [Aj (by omega),htl] at het;have her:=hZ (l:=yX n (de l)) (i:=n) (by rw [vE];omega);rw [vy (by omega)] at her;have hb0:=zJ (l:=l) (fun x hx=>(hok x hx).2.2) l.length (aiW _);rw [htl] at hb0;simp -implicitDefEqProofs only [hfw,am,ak,aL,aiX,aiT,het,ai1,bn,aR,her,bJ,jM];unfold ruL;cases hv:de l n with
 | none =>
  simp -implicitDefEqProofs only [gT,show(1048576:Int)≤1048576 by decide,decide_true,aH,if_true,aka,aiV,if_false];rfl
 | some v =>
 have hvb:=hb0 n v hv;have hv0:¬(1048576:Int)≤(v:Int):=by omega
 have wl:aiU.wrap ((l.length:Int) - 1)=(l.length:Int) - 1:=ah (by omega) (by omega);simp -implicitDefEqProofs only [gT,hv0,decide_false,aH,aiV,if_false,AD (show l.length≤1000000 by omega),aiT,cq,wl,ajM,if_true];refine bL (fun r=>r=_) (fun(a:Nat × Nat × List Int)=>[sls l,I (a.2.1:Int),fC (oN n l (l.length+1)),ai (ai5 a.1 0++a.2.2),I ((a.1:Int) - 1)]) (fun a=>a.1≤l.length∧a.2.1≤n∧(∃v,de (l.take a.1) a.2.1=some v)∧ctl l l.length n=ctl l a.1 a.2.1++a.2.2) (fun a=>a.1)
  (fun o=>o = .ext 0 [ai (ctl l l.length n)]) ?_ (l.length,n,[]) ⟨aiW _,aiW _,⟨v,by dsimp only;rw [htl];exact hv⟩,by simp⟩ (by simp) ?_
 case refine_2 =>
  rintro o rfl;simp -implicitDefEqProofs only [bF,ajr,ep,if_true,ak]
 rintro⟨i1,n1,tl⟩ ⟨g1,g2,⟨v1,g3⟩,g4⟩;dsimp only at g1 g2 g3 g4;cases i1 with
 | zero =>
  right
  refine⟨_,?_,rfl,rfl⟩
  have hge:¬(0:Int)≤((0:Nat):Int) - 1:=by omega
  have e:ai5 0 0++tl=ctl l l.length n:=by rw [g4];rfl
  simp -implicitDefEqProofs only [ak,aE,jM,hge,decide_false,aiT,aH,aiV,if_false,e]
 | succ i =>
  left
  have hi:i<l.length:=g1;have ho:=hok l[i] (ajk hi);have hW:=ac6 hi (by omega);have hC:=UC hi ho.2.1;obtain⟨u,p1,p2,p3⟩:=PR hi g3;have hpm:pk l i n1*slW l i≤n1:=by
   have:pk l i n1≤n1 / slW l i:=by unfold mx at p3;omega
   exact(ajs (by omega)).1 this
  refine⟨(i,n1 - pk l i n1*slW l i,(pk l i n1:Int)::tl),?_,⟨by dsimp only;omega,by dsimp only;omega,⟨u,p1⟩,by rw [g4];simp [ctl]⟩,by dsimp only;omega⟩
  have hidx:(((i+1:Nat):Int) - 1)=(i:Int):=by omega
  have hi0:(0:Int)≤(i:Int):=by omega
  have es:aq 2 (sls l) (I (i:Int))=some [I ((slW l i:Nat):Int),I ((slC l i:Nat):Int)]:=by rw [elS hi,hW,hC]
  have hw0:¬((slW l i:Nat):Int)=0:=by omega
  have hdl:n1 / slW l i≤n1:=Nat.div_le_self _ _;have hq:aiU.wrap (((n1:Nat):Int).tdiv ((slW l i:Nat):Int))=((n1 / slW l i:Nat):Int):=by
   rw [ajO (by omega),←Int.natCast_ediv];generalize n1 / slW l i=q at hdl;exact ah (by omega) (by omega)
  have hls:=zU ((slC l i:Nat):Int) ((n1 / slW l i:Nat):Int);have hmx:(if ((slC l i:Nat):Int)<((n1 / slW l i:Nat):Int) then((slC l i:Nat):Int) else((n1 / slW l i:Nat):Int))=((mx l i n1:Nat):Int):=by
   rw [agt];unfold mx;omega
  rw [hmx] at hls;have hb:=zJ (l:=l) (fun x hx=>(hok x hx).2.2) i (by omega);have hb1:=zJ (l:=l) (fun x hx=>(hok x hx).2.2) (i+1) hi n1 v1 g3;have htab:=Bz (l:=oN n l (l.length+1)) (i:=i) (by rw [pW];omega);rw [Aj (by omega)] at htab;have htab1:=Bz (l:=oN n l (l.length+1)) (i:=i+1) (by rw [pW];omega);rw [Aj (by omega)] at htab1;have her1:=hZ (l:=yX n (de (l.take (i+1)))) (i:=n1) (by rw [vE];omega);rw [vy (by omega)] at her1;have hwi:=wI (show i≤1000000 by omega);have hmc:mx l i n1≤20:=by unfold mx;omega
  simp -implicitDefEqProofs only [ak,aE,hidx,jM,hi0,decide_true,aiT,aH,if_true,es,ai1,ej,List.drop_succ_cons,ajt,bn,aR,bJ,md,hw0,if_false,hq,hls,am];refine bL (fun r=>r=_) (fun(m:Nat)=>[sls l,I (n1:Int),fC (oN n l (l.length+1)),ai (ai5 (i+1) 0++tl),I (i:Int),I (m:Int)]) (fun m=>m≤mx l i n1∧pk l i n1=GD (agr l i n1) m) (fun m=>m)
   (fun o=>o = .ext 2 [sls l,I (n1:Int),fC (oN n l (l.length+1)),ai (ai5 (i+1) 0++tl),I (i:Int),I (pk l i n1:Int)]) ?_ (mx l i n1) ⟨aiW _,rfl⟩ rfl ?_
  case refine_2 =>
   rintro o rfl;have hwd:aiU.wrap ((i:Int) - 1)=(i:Int) - 1:=ah (by omega) (by omega);have hrf:=qr (l:=ai5 (i+1) 0++tl) (i:=i) (by simp;omega);have hst:=pN (ai5 (i+1) 0++tl) i (pk l i n1:Int) (by simp;omega);have hset:(ai5 (i+1) 0++tl).set i (pk l i n1:Int)=ai5 i 0++(pk l i n1:Int)::tl:=by
    rw [aj3,ajh,aj1 _ _ (by simp)];simp
   rw [hset] at hst;have hwr:aiU.wrap ((pk l i n1:Int)*((slW l i:Nat):Int))=((pk l i n1*slW l i:Nat):Int):=by
    rw [←ajW];exact ah (by omega) (by omega)
   have hsub:aiU.wrap (((n1:Nat):Int) - ((pk l i n1*slW l i:Nat):Int))=((n1 - pk l i n1*slW l i:Nat):Int):=by rw [ah (by omega) (by omega)];omega
   simp -implicitDefEqProofs only [bF,ajr,ep,if_true,ak,aE,cy,ch,hrf,hst,es,ai1,ej,ajt,bn,aR,bJ,eG,hwr,cq,hsub,hwd,aiT]
  rintro m ⟨q1,q2⟩;have hmw:m*slW l i≤n1:=by
   have:m≤n1 / slW l i:=by unfold mx at q1;omega
   exact(ajs (by omega)).1 this
  have hwr:aiU.wrap ((m:Int)*((slW l i:Nat):Int))=((m*slW l i:Nat):Int):=by
   rw [←ajW];exact ah (by omega) (by omega)
  have hsub:aiU.wrap (((n1:Nat):Int) - ((m*slW l i:Nat):Int))=((n1 - m*slW l i:Nat):Int):=by rw [ah (by omega) (by omega)];omega
  have her:=hZ (l:=yX n (de (l.take i))) (i:=n1 - m*slW l i) (by rw [vE];omega);rw [vy (by omega)] at her;have hag:agr l i n1 m=decide (gT (de (l.take i) (n1 - m*slW l i))+(m:Int)=gT (de (l.take (i+1)) n1)):=ac4 g3 (by omega);have hbb:=adM (o:=de (l.take i) (n1 - m*slW l i)) fun x hx=>by have:=hb _ _ hx;omega
  have hsum:aiU.wrap (gT (de (l.take i) (n1 - m*slW l i))+(m:Int))=gT (de (l.take i) (n1 - m*slW l i))+(m:Int):=ah (by omega) (by omega);by_cases hA:agr l i n1 m=true
  ·right
   have hpk:pk l i n1=m:=by rw [q2];exact Tc hA
   rw [hag] at hA;refine⟨_,?_,rfl,rfl⟩
   rw [hpk];simp -implicitDefEqProofs only [ak,aE,aiT,htab,htab1,es,ai1,ej,ajt,bn,aR,bJ,eG,hwr,cq,hsub,her,her1,bv,hsum,hwi,iO,hA,ai6,aH,aiV,if_false]
  ·left
   obtain⟨m',rfl,hs⟩:=St (by rw [←q2];exact IW (Ys hi g3)) hA;have hmd:aiU.wrap (((m'+1:Nat):Int) - 1)=(m':Int):=by rw [ah (by omega) (by omega)];omega
   rw [hag,aki] at hA;refine⟨m',?_,⟨by omega,by rw [q2,hs]⟩,by omega⟩
   simp -implicitDefEqProofs only [ak,aE,aiT,htab,htab1,es,ai1,ej,ajt,bn,aR,bJ,eG,hwr,cq,hsub,her,her1,bv,hsum,hwi,iO,hA,aju,aH,if_true,hmd]
theorem RE (l:List Slp) (n:Nat) (hl:l.length≤8) (hn:n≤400) (hok:∀x∈l,(1≤x.1∧x.1≤200)∧0≤x.2∧x.2≤20) :
  pt [sls l,I (n:Int)]=some (.ret [ruO l n] []):=by
 rw [RV];have tp1:∀(v:List Int) (a:D),ao (dy (.tup [a,ai v]) 0) 1=some (ai v):=fun _ _=>rfl
 simp -implicitDefEqProofs only [wK l (by omega),am,tpL,tp1,aiT,QW l n hl hn hok,ak]
theorem rB (l:List Slp):∀(i n:Nat),(ctl l i n).length=i
 | 0,_=>rfl
 | i+1,n=>by simp [ctl,rB l i]
def rsS:List Slp→List Int→List Slp
 | x::l,k::cs=>(x.1,aiU.wrap (x.2 - k))::rsS l cs
 | l,_=>l
theorem nD:∀(l:List Slp) (cs:List Int),(rsS l cs).length=l.length
 | [],[]=>rfl
 | [],_::_=>rfl
 | _::_,[]=>rfl
 | x::l,k::cs=>by simp [rsS,nD l cs]
theorem Ou:∀(l:List Slp) (cs:List Int) (i:Nat) (hi:i<l.length) (hc:i<cs.length),(rsS l (cs.take i)).set i (l[i].1,aiU.wrap (l[i].2 - cs[i]))=rsS l (cs.take (i+1))
 | x::l,k::cs,0,_,_=>by cases l<;>rfl
 | x::l,k::cs,i+1,hi,hc=>by
  have:=Ou l cs i (by simpa using hi) (by simpa using hc);simp only [aj8,rsS,List.set_cons_succ,aj0,this]
theorem Hh:∀(l:List Slp) (cs:List Int) (i:Nat) (hi:i<l.length),(rsS l (cs.take i))[i]'(by rw [nD];exact hi)=l[i]
 | x::l,cs,0,_=>by cases l<;>rfl
 | x::l,[],i+1,hi=>by simp [rsS]
 | x::l,k::cs,i+1,hi=>by
  have:=Hh l cs i (by simpa using hi);simp only [aj8,rsS,aj0,this]
theorem VC (l:List Slp) (cs:List Int) (hl:l.length≤1000) (hc:cs.length=l.length):tX [sls l,ai cs]=some (.ret [sls (rsS l cs)] []):=by
 rw [Xg];have ha0:=hN (l:=[]) (m:=l) (by simp;omega);rw [ajE] at ha0;simp -implicitDefEqProofs only [be,pH,ia,ha0,aiT,aL,aiX];refine aG (.ext 0 [sls (rsS l cs)]) (aY cs.length (fun i=>[sls (rsS l (cs.take i)),ai cs,I cs.length,I i]) _ (fun i hi=>?_) ?_ rfl ?_) ?_
 ·have hi':(i:Int)<(cs.length:Int):=by omega
  have hil:i<l.length:=by omega
  have hlen:i<(rsS l (cs.take i)).length:=by rw [nD];exact hil
  have hr:fd 2 (sls (rsS l (cs.take i))) (I (i:Int))=some (.ref i 0):=by rw [lI,if_pos (by simpa using hlen)]
  have hat:(atD (sls (rsS l (cs.take i))) (.ref i 1)).bind (an false 1)=some (I l[i].2):=by
   have:=Hh l cs i hil;simp [hlen,this]
  have hs:=xf (rsS l (cs.take i)) i (aiU.wrap (l[i].2 - cs[i])) hlen;rw [Hh l cs i hil,Ou l cs i hil hi] at hs;simp -implicitDefEqProofs only [ak,aE,bg,hi',decide_true,aiT,aH,if_true,hZ hi,ai1,bn,aR,bJ,cy,ch,hr,iU,akb,hat,cq,hs,bv,wI (show i≤1000000 by omega)]
 ·simp
 ·cases l<;>rfl
 ·simp -implicitDefEqProofs only [bF,ajr,ep,if_true,ak]
theorem Qo (l:List Slp) (cs:List Int) (hl:l.length≤1000) (hc:cs.length=l.length):pR [sls l,ai cs]=some (.ret [sls (rsS l cs)] []):=by
 rw [Rd];have ha0:=hN (l:=[]) (m:=l) (by simp;omega);rw [ajE] at ha0;simp -implicitDefEqProofs only [be,pH,ia,ha0,aiT,aL,aiX];refine aG (.ext 0 [sls (rsS l cs)]) (aY cs.length (fun i=>[sls (rsS l (cs.take i)),ai cs,I cs.length,I i]) _ (fun i hi=>?_) ?_ rfl ?_) ?_
 ·have hi':(i:Int)<(cs.length:Int):=by omega
  have hil:i<l.length:=by omega
  have hlen:i<(rsS l (cs.take i)).length:=by rw [nD];exact hil
  have hr:fd 2 (sls (rsS l (cs.take i))) (I (i:Int))=some (.ref i 0):=by rw [lI,if_pos (by simpa using hlen)]
  have hat:(atD (sls (rsS l (cs.take i))) (.ref i 1)).bind (an false 1)=some (I l[i].2):=by
   have:=Hh l cs i hil;simp [hlen,this]
  have hs:=xf (rsS l (cs.take i)) i (aiU.wrap (l[i].2 - cs[i])) hlen;rw [Hh l cs i hil,Ou l cs i hil hi] at hs;simp -implicitDefEqProofs only [ak,aE,bg,hi',decide_true,aiT,aH,if_true,hZ hi,ai1,bn,aR,bJ,cy,ch,hr,iU,akb,hat,cq,hs,bv,wI (show i≤1000000 by omega)]
 ·simp
 ·cases l<;>rfl
 ·simp -implicitDefEqProofs only [bF,ajr,ep,if_true,ak]
set_option maxHeartbeats 1000000 in
theorem ZJ (c:Cur) (B:Nat) (h:c.ok B) (hB:B≤3000000):∃(l:List Slp) (c':Cur),jf [lX c]=some (.ret [sls l] [lX c'])∧l.length≤20∧c'.ok (B+60):=by
 obtain⟨v,c1,e1,l1,u1,k1⟩:=iF c 5 B h (by omega) (by omega);obtain⟨v,rfl⟩:=ajV l1;rw [Fe];simp -implicitDefEqProofs only [aw,aiY,aiZ,ai0,e1];have m9:=xt (l:=[3,5,6,10,12,18,30,40,200]);have mA:=xt (l:=[200,201,1,0]);have mB:=xt (l:=[20,21,-1,1]);have mC:=xt (l:=[20,21,-1,0]);simp only [ajb,ajS] at m9 mA mB mC;refine bL (fun X=>∃(l:List Slp) (c':Cur),X=some (.ret [sls l] [lX c'])∧l.length≤20∧c'.ok (B+60)) (fun a:Cur × List Slp × Nat=>[lX a.1,sls a.2.1,I (a.2.2:Int)])
  (fun a=>a.2.2≤5∧a.1.ok (B+2+4*(5 - a.2.2))∧a.2.1.length+a.2.2≤5) (fun a=>a.2.2) (fun o=>∃(l:List Slp) (c':Cur),o = .ext 0 [lX c',sls l]∧l.length≤5∧c'.ok (B+22)) ?_ (c1,[],v) ⟨by dsimp only;omega,k1.mono (by dsimp only;omega),by simp;omega⟩ rfl ?_
 ·rintro⟨ca,l,n⟩ ⟨h1,h2,h3⟩
  dsimp only at h1 h2 h3;by_cases hn:0<n
  ·have hn':(0:Int)<(n:Int):=by omega
   obtain⟨v2,c2,e2,g2,k2⟩:=IX ca [3,5,6,10,12,18,30,40,200] _ h2 (by omega) (by simp) (by simp);obtain⟨v3,c3,e3,l3,u3,k3⟩:=iF c2 6 _ k2 (by omega) (by omega);have hw:aiU.wrap ((n:Int) - 1)=((n - 1:Nat):Int):=by rw [ah (by omega) (by omega)];omega
   have hp:=wY l v2 v3 (by omega);have hz:=Ax l v2 v3;refine .inl ⟨(c3,tk l v2 v3,n - 1),?_,⟨by dsimp only;omega,k3.mono (by dsimp only;omega),by dsimp only;omega⟩,by dsimp only;omega⟩
   simp -implicitDefEqProofs only [aw,aiY,aiZ,ai0,hn',m9,e2,e3,hp,hw]
  ·have hn':¬(0:Int)<(n:Int):=by omega
   refine .inr ⟨_,?_,rfl,l,ca,rfl,by omega,h2.mono (by omega)⟩
   simp -implicitDefEqProofs only [aw,aiY,aiZ,ai0,hn']
 ·rintro o ⟨l,c2,rfl,g2,k2⟩
  obtain⟨w,c3,e3,l3,u3,k3⟩:=iF c2 24 _ k2 (by omega) (by omega);by_cases h0:w=0
  ·subst h0
   obtain⟨x,c4,e4,l4,u4,k4⟩:=iF c3 2 _ k3 (by omega) (by omega);obtain⟨x,rfl⟩:=ajV l4;have hw:aiU.wrap (8+(x:Int))=((8+x:Nat):Int):=by rw [ah (by omega) (by omega)];omega
   simp -implicitDefEqProofs only [aw,aiY,aiZ,ai0,e3,e4,hw];refine bL (fun X=>∃(l:List Slp) (c':Cur),X=some (.ret [sls l] [lX c'])∧l.length≤20∧c'.ok (B+60)) (fun a:Cur × List Slp=>[lX a.1,sls a.2,I ((8+x:Nat):Int)])
    (fun a=>a.2.length≤8+x∧a.1.ok (B+26+2*a.2.length)) (fun a=>8+x - a.2.length) (fun o=>∃(l:List Slp) (c':Cur),o = .ext 3 [lX c',sls l]∧l.length≤20∧c'.ok (B+60)) ?_ (c4,[]) ⟨by simp,k4.mono (by dsimp only;omega)⟩ rfl ?_
   ·rintro⟨ca,l⟩ ⟨h1,h2⟩
    dsimp only at h1 h2;by_cases hn:l.length<8+x
    ·have hn':(l.length:Int)<((8+x:Nat):Int):=by omega
     obtain⟨y,c5,e5,l5,u5,k5⟩:=iF ca 4 _ h2 (by omega) (by omega);have ha:=hN (l:=l) (m:=[(aiU.wrap (2+aiU.wrap (3*(l.length:Int))),y)]) (by simp;omega);refine .inl ⟨(c5,l++[(aiU.wrap (2+aiU.wrap (3*(l.length:Int))),y)]),?_,⟨by simp;omega,k5.mono (by simp;omega)⟩,by simp;omega⟩
     simp -implicitDefEqProofs only [aw,aiY,aiZ,ai0,hn',e5,abB,BV,ia,ha]
    ·have hn':¬(l.length:Int)<((8+x:Nat):Int):=by omega
     refine .inr ⟨_,?_,rfl,l,ca,rfl,by omega,h2.mono (by omega)⟩
     simp -implicitDefEqProofs only [aw,aiY,aiZ,ai0,hn']
   ·rintro o ⟨l,c5,rfl,g5,k5⟩
    exact⟨l,c5,by simp -implicitDefEqProofs only [aw,aiY,aiZ,ai0],g5,k5⟩
  by_cases h1:w=1
  ·subst h1
   obtain⟨v4,c4,e4,l4,k4⟩:=IX c3 [200,201,1,0] _ k3 (by omega) (by simp) (by simp);obtain⟨v5,c5,e5,l5,k5⟩:=IX c4 [20,21,-1,1] _ k4 (by omega) (by simp) (by simp);have ha:=hN (l:=l) (m:=[(v4,v5)]) (by simp;omega);refine⟨l++[(v4,v5)],c5,?_,by simp;omega,k5.mono (by omega)⟩
   simp -implicitDefEqProofs only [aw,aiY,aiZ,ai0,e3,mA,e4,mB,e5,abB,BV,ia,ha]
  by_cases h2:w=2
  ·subst h2
   by_cases hl:0<l.length
   ·have hl':(0:Int)<(l.length:Int):=by omega
    obtain⟨v4,c4,e4,l4,k4⟩:=IX c3 [20,21,-1,0] _ k3 (by omega) (by simp) (by simp);have hr:fd 2 (sls l) (I 0)=some (.ref 0 0):=by
     have:=lI (z:=2) (k:=.i64) (l:=l.map slp) (i:=0);simpa [hl] using this
    have hs:=xf l 0 v4 hl;refine⟨l.set 0 (l[0].1,v4),c4,?_,by simp;omega,k4.mono (by omega)⟩
    simp -implicitDefEqProofs only [aw,aiY,aiZ,ai0,e3,hl',mC,e4,hr,iU,akb,hs]
   ·have hl':¬(0:Int)<(l.length:Int):=by omega
    refine⟨l,c3,?_,by omega,k3.mono (by omega)⟩
    simp -implicitDefEqProofs only [aw,aiY,aiZ,ai0,e3,hl']
  ·refine⟨l,c3,?_,by omega,k3.mono (by omega)⟩
   simp -implicitDefEqProofs only [aw,aiY,aiZ,ai0,e3,h0,h1,h2]
def slT (x:Slp):ByteArray:=aI x.2++⟨⟨[120]⟩⟩++aI x.1++⟨⟨[32]⟩⟩
def stT:List Slp→ByteArray
 | []=>⟨⟨[]⟩⟩
 | x::l=>slT x++stT l
theorem Hm (a:UInt8):(⟨⟨[a]⟩⟩:ByteArray).size=1:=rfl
theorem Hu {x:Slp} (h:(1≤x.1∧x.1≤200)∧0≤x.2∧x.2≤20):(aI x.1).size≤3∧(aI x.2).size≤3∧(slT x).size≤8:=by
 have s1:=bX 2 (n:=x.1) (by omega) (by omega);have s2:=bX 2 (n:=x.2) (by omega) (by omega);simp only [slT,ai2,Hm];omega
theorem aai:∀(a b:List Slp),stT (a++b)=stT a++stT b
 | [],b=>bP (by simp [stT,ae])
 | x::a,b=>by simp only [ajl,stT,aai a b,ByteArray.append_assoc]
theorem afN (x:Slp):stT [x]=slT x:=bP (by simp [stT,ae])
theorem ady {l:List Slp} {i:Nat} (hi:i<l.length):stT (l.take (i+1))=stT (l.take i)++slT l[i]:=by
 rw [ajf hi,aai,afN]
theorem Vt:∀(l:List Slp),(∀x∈l,(1≤x.1∧x.1≤200)∧0≤x.2∧x.2≤20)→(stT l).size≤8*l.length
 | [],_=>aiW 0
 | x::l,h=>by
  have h1:=(Hu (h x (by simp))).2.2;have h2:=Vt l fun y hy=>h y (by simp [hy])
  simp only [stT,ai2,ajg];omega
theorem aiz (a b:Int):(an true 2 [I a,I b]).bind aM=some (slp (a,b)):=rfl
theorem uR (l:List Slp) (hl:l.length≤1000) (hok:∀x∈l,(1≤x.1∧x.1≤200)∧0≤x.2∧x.2≤20):jy [sls l]=some (.ret [T (stT l)] []):=by
 rw [QH];simp -implicitDefEqProofs only [aw,aiY,aiZ,ai0];refine aG (.ext 0 [T (stT l)]) (aY l.length (fun i=>[T (stT (l.take i)),sls l,I l.length,I i]) _ (fun i hi=>?_) ?_ rfl rfl) ?_
 ·have hi':(i:Int)<(l.length:Int):=by omega
  have hw:aiU.wrap ((i:Int)+1)=((i+1:Nat):Int):=by rw [ah (by omega) (by omega)];omega
  have ho:=hok l[i] (ajk hi);obtain⟨z1,z2,z3⟩:=Hu ho;have z4:=Vt (l.take i) fun x hx=>hok x (List.mem_of_mem_take hx)
  have z5:(l.take i).length≤1000:=by rw [akj];omega
  have n1:=bR (n:=l[i].2) (by omega) (by omega);have n2:=bR (n:=l[i].1) (by omega) (by omega);have a1:=BW (a:=aI l[i].2) (b:=⟨⟨[120]⟩⟩) (by rw [Hm];omega);have a2:=BW (a:=aI l[i].2++⟨⟨[120]⟩⟩) (b:=aI l[i].1) (by rw [ai2,Hm];omega);have a3:=BW (a:=aI l[i].2++⟨⟨[120]⟩⟩++aI l[i].1) (b:=⟨⟨[32]⟩⟩) (by rw [ai2,ai2,Hm,Hm];omega);have a4:=BW (a:=stT (l.take i)) (b:=slT l[i]) (by omega);rw [←ady hi] at a4;have e:aI l[i].2++⟨⟨[120]⟩⟩++aI l[i].1++⟨⟨[32]⟩⟩=slT l[i]:=rfl;rw [e] at a3;simp -implicitDefEqProofs only [aw,aiY,aiZ,ai0,hi',elS hi,aiz,ahl,n1,n2,a1,a2,a3,a4,hw]
 ·simp -implicitDefEqProofs only [aw,aiY,aiZ,ai0,Int.lt_irrefl,ajv]
 ·simp -implicitDefEqProofs only [aw,aiY,aiZ,ai0]
theorem AG {n:Int} (h0:0≤n):ae (aI n)≠[]∧(∀b∈ae (aI n),dig b=true)∧(120:UInt8)∉ae (aI n)∧(32:UInt8)∉ae (aI n):=by
 obtain⟨h1,h2⟩:=gq h0;exact⟨h1,h2,nP h2 (by decide),nP h2 (by decide)⟩
def prt (x:Slp):List UInt8:=ae (aI x.2)++120::ae (aI x.1)
theorem aaU (b:UInt8):ae ⟨⟨[b]⟩⟩=[b]:=rfl
theorem aaM (x:Slp):ae (slT x)=prt x++[32]:=by
 simp only [slT,prt,bh,aaU];simp
theorem Cg (x:Slp) (l:List Slp):ae (stT (x::l))=prt x++32::ae (stT l):=by
 simp only [stT,bh,aaM];simp
def adr (l:List Slp):Prop:=∀x∈l,0≤x.1∧0≤x.2
def VR (l:List Slp):List Int:=l.flatMap fun x=>[x.2,x.1]
def prS:List Int→List Slp
 | a::b::r=>(b,a)::prS r
 | _=>[]
theorem Xw:∀l:List Slp,prS (VR l)=l
 | []=>rfl
 | x::l=>by
  have:=Xw l;simp only [VR,ajQ,ajl,ajE,prS] at this ⊢;rw [this]
theorem XJ:∀l:List Slp,adr l→pf none (ae (stT l))=(VR l).map fun n=>ae (aI n)
 | [],_=>rfl
 | x::l,h=>by
  have hx:=h x (by simp);obtain⟨a1,a2,-,-⟩:=AG hx.1;obtain⟨b1,b2,-,-⟩:=AG hx.2;rw [Cg,prt,ajh,ajl,rU b1 b2 (by decide),rU a1 a2 (by decide),XJ l fun y hy=>h y (by simp [hy])];rfl
theorem Tg:∀l:List Slp,adr l→∀b∈ae (stT l),b.toNat<128
 | [],_,b,hb=>by cases hb
 | x::l,h,b,hb=>by
  have hx:=h x (by simp);rw [Cg,prt,ajh,ajl,ajF,aji,ajF,aji] at hb;rcases hb with hb | rfl | hb | rfl | hb
  ·exact Fz ((AG hx.2).2.1 b hb)
  ·decide
  ·exact Fz ((AG hx.1).2.1 b hb)
  ·decide
  ·exact Tg l (fun y hy=>h y (by simp [hy])) b hb
theorem BM {l:List Slp} (h:cA l=true):adr l:=fun x hx=>by have:=dW h x hx;omega
theorem aaN {l:List Slp} (h:cA l=true):ads (VR l):=by
 intro n hn;obtain⟨x,hx,hn⟩:=List.mem_flatMap.1 hn;have:=dW h x hx;simp only [aji,List.not_mem_nil,or_false] at hn;omega
theorem adK {l:List Slp} (h:cA l=true):fv (stT l)=VR l:=SU (Tg l (BM h)) (aaN h) (XJ l (BM h))
theorem Si:∀l:List Slp,adr l→aW 32 (ae (stT l))=l.map prt++[[]]
 | [],_=>rfl
 | x::l,h=>by
  have hx:=h x (by simp);have hn:(32:UInt8)∉prt x:=by
   intro hm;rw [prt,ajF,aji] at hm;rcases hm with hm | hm | hm
   ·exact(AG hx.2).2.2.2 hm
   ·exact absurd hm (by decide)
   ·exact(AG hx.1).2.2.2 hm
  rw [Cg,fq hn,Si l fun y hy=>h y (by simp [hy])];rfl
theorem abt {x:Slp} (h:0≤x.1∧0≤x.2):aW 120 (prt x)=[ae (aI x.2),ae (aI x.1)]:=by
 rw [prt,fq (AG h.2).2.2.1,ko (AG h.1).2.2.1]
theorem YW {c:UInt8} {a:List UInt8} {l:List (List UInt8)} (h:l≠[]):ex c (a::l)=a++c::ex c l:=by
 cases l with
 | nil=>exact absurd rfl h
 | cons b l=>rfl
theorem VG:∀l:List Slp,ex 32 (l.map prt++[[]])=ae (stT l)
 | []=>rfl
 | x::l=>by
  rw [ajb,ajl,YW (by simp),VG l,Cg]
def rdP (p:ByteArray):Option Slp:=match aC 120 p with
 | [a,b]=>some (bY b,bY a)
 | _=>none
def rz:List ByteArray→Option (List Slp)
 | []=>some []
 | p::l=>(rdP p).bind fun x=>(rz l).map (x::·)
abbrev mkB (l:List UInt8):ByteArray:=⟨l.toArray⟩
theorem afk {x:Slp} (h:(1≤x.1∧x.1≤200)∧0≤x.2∧x.2≤20):rdP (mkB (prt x))=some x:=by
 unfold rdP aC;rw [cS,abt (by omega)];simp only [ajb,ajS];have e:∀s:ByteArray,(⟨(ae s).toArray⟩:ByteArray)=s:=nQ;rw [e,e,oU (by omega) (by omega),oU (by omega) (by omega)]
theorem Sr:∀l:List Slp,(∀x∈l,(1≤x.1∧x.1≤200)∧0≤x.2∧x.2≤20)→rz ((l.map prt).map mkB)=some l
 | [],_=>rfl
 | x::l,h=>by
  simp only [ajb,rz];rw [afk (h x (by simp)),Sr l fun y hy=>h y (by simp [hy])];rfl
theorem ack {p:List UInt8} {x:Slp} (h:rdP (mkB p)=some x) (h1:0≤x.1) (h2:0≤x.2):p=prt x:=by
 unfold rdP aC at h;rw [cS] at h;have hj:=nJ 120 p;generalize aW 120 p=q at h hj
 match q,h with
 | [a,b],h =>
  simp only [ajb,ajS,aja] at h;subst h;have ea:=congrArg ae (uJ (w:=⟨a.toArray⟩) rfl h2);have eb:=congrArg ae (uJ (w:=⟨b.toArray⟩) rfl h1);rw [cS] at ea eb;rw [prt,←ea,←eb,←hj];rfl
 | [],h=>cases h
 | [_],h=>cases h
 | _::_::_::_,h=>cases h
theorem Nh:∀(o:List (List UInt8)) (l:List Slp),rz (o.map mkB)=some l→adr l→o=l.map prt
 | [],l,h,_=>by cases h;rfl
 | p::o,l,h,hp=>by
  simp only [ajb,rz,ai3,ai9] at h;obtain⟨x,h1,m,h2,rfl⟩:=h;have hx:=hp x (by simp);rw [ack h1 hx.1 hx.2,Nh o m h2 fun y hy=>hp y (by simp [hy])];rfl
def pSt (s:ByteArray):Option (List Slp):=if cA (prS (fv s))=true∧stT (prS (fv s))=s then some (prS (fv s)) else none
def sSt (s:ByteArray):Option (List Slp) :=
 if (aC 32 s).length≤9∧(aC 32 s).getLast?=some ⟨⟨[]⟩⟩ then(rz (aC 32 s).dropLast).bind fun l=>if cA l=true then some l else none else none
theorem ail {l:List Slp} (h:cA l=true):pSt (stT l)=some l:=by
 unfold pSt;rw [adK h,Xw,if_pos ⟨h,rfl⟩]
theorem ahX {l:List Slp} (h:cA l=true):sSt (stT l)=some l:=by
 have e:aC 32 (stT l)=(l.map prt).map mkB++[⟨⟨[]⟩⟩]:=by
  unfold aC;rw [Si l (BM h),ajG];rfl
 have hl:=dE h;unfold sSt;rw [e,if_pos ⟨by simp;omega,by simp⟩,List.dropLast_concat,Sr l (dW h)];simp only [aiT,h,if_true]
theorem adU {s:ByteArray} {l:List Slp} (h:pSt s=some l):cA l=true∧stT l=s:=by
 unfold pSt at h;split at h
 ·rename_i hc
  cases h;exact hc
 ·cases h
theorem ac9 {s:ByteArray} {l:List Slp} (h:sSt s=some l):cA l=true∧stT l=s:=by
 unfold sSt at h;split at h
 case isFalse=>cases h
 rename_i hc;obtain⟨m,h1,h2⟩:=ai3.1 h;split at h2
 case isFalse=>cases h2
 rename_i hg;cases h2;refine⟨hg,bP ?_⟩
 have hj:=nJ 32 (ae s);have hne:=dv 32 (ae s);have hd:=List.dropLast_concat_getLast hne;have hL:(aW 32 (ae s)).getLast hne=[]:=by
  have:=hc.2;unfold aC at this;rw [List.getLast?_map,List.getLast?_eq_some_getLast hne,ai1,aja] at this;have:=congrArg ae this;rw [cS] at this;exact this
 have h1':rz ((aW 32 (ae s)).dropLast.map mkB)=some l:=by
  rw [←h1];unfold aC;rw [←List.map_dropLast]
 have ho:=Nh _ l h1' (BM hg);rw [hL,ho] at hd;rw [←hd,VG] at hj;exact hj
theorem ahh (s:ByteArray):sSt s=pSt s:=by
 cases h:pSt s with
 | some l =>
  obtain⟨h1,rfl⟩:=adU h;exact ahX h1
 | none =>
  cases h':sSt s with
  | none=>rfl
  | some l =>
   obtain⟨h1,rfl⟩:=ac9 h';rw [ail h1] at h;cases h
def stO (o:Option (List Slp)):List Slp:=o.getD []
theorem IK (s:ByteArray) (h:s.size≤1048576):jR [T s]=some (.ret [sls (stO (pSt s)),B (pSt s).isSome] []):=by
 rw [GZ,←ahh];have hsp:=ga s 32 (by omega);have h32:U ((32:UInt8).toNat:Int)=U 32:=rfl;rw [h32] at hsp;have hsz:=fL 32 s;have hlen:(aC 32 s).length≤1048577:=by
  rw [fb];have:=fc 32 (ae s);have:=cZ s;omega
 have hpos:0<(aC 32 s).length:=by
  rw [fb];exact ajK.2 (dv _ _)
 have hdef:sSt s=if (aC 32 s).length≤9∧(aC 32 s).getLast?=some ⟨⟨[]⟩⟩ then(rz (aC 32 s).dropLast).bind fun l=>if cA l=true then some l else none else none:=rfl
 generalize aC 32 s=ps at hsp hsz hlen hpos hdef;by_cases h9:ps.length≤9
 case neg =>
  have h9':(9:Int)<(ps.length:Int):=by omega
  rw [hdef,if_neg (fun g=>h9 g.1)];simp -implicitDefEqProofs only [aw,aiY,aiZ,ai0,hsp,h9'];rfl
 have h9':¬(9:Int)<(ps.length:Int):=by omega
 have wl:aiU.wrap ((ps.length:Int) - 1)=((ps.length - 1:Nat):Int):=by rw [ah (by omega) (by omega)];omega
 have hel:aq 1 (txs ps) (I ((ps.length - 1:Nat):Int))=some [T (ps[ps.length - 1]'(by omega))]:=by
  have:ps.length - 1<ps.length:=by omega
  simp [this]
 have hlast:ps.getLast?=some (ps[ps.length - 1]'(by omega)):=by
  rw [List.getLast?_eq_getElem?,ajc (by omega)]
 by_cases hl:ps[ps.length - 1]'(by omega)=⟨⟨[]⟩⟩
 case neg =>
  rw [hdef,if_neg (fun g=>hl (by have:=hlast.symm.trans g.2;exact ajX this))];simp -implicitDefEqProofs only [aw,aiY,aiZ,ai0,hsp,h9',wl,hel,ir,hl];rfl
 have hs:dH false 1 (txs ps) (I 0) (I ((ps.length - 1:Nat):Int))=some (txs ps.dropLast):=by
  have:=mK (z:=1) (k:=.i64) (k':=.i64) (l:=ps.map T) (i:=0) (j:=ps.length - 1) (by omega) (by simp);rw [ajt,←List.map_take,←aj2] at this;exact this
 rw [if_pos ⟨h9,by rw [hlast,hl]⟩] at hdef;simp -implicitDefEqProofs only [aw,aiY,aiZ,ai0,hsp,h9',wl,hel,ir,hl,hs];have hq:∀w∈ps.dropLast,w.size≤1048576:=fun w hw=>Nat.le_trans (hsz w ((List.dropLast_sublist ps).subset hw)) h
 have hq8:ps.dropLast.length≤8:=by rw [ajH];omega
 generalize ps.dropLast=q at hdef hq hq8;refine bL (fun r=>r=_) (fun(a:List Slp × Nat)=>[sls a.1,txs q,I q.length,I (a.2:Int)]) (fun a=>a.2≤q.length∧a.1.length≤a.2∧rz q=(rz (q.drop a.2)).map (a.1++·)) (fun a=>q.length - a.2)
  (fun o=>o=match rz q with
   | none=>.ret [.arr 2 [],B false] []
   | some r=>.ext 0 [sls r]) ?_ ([],0) ⟨ajn _,aiW _,by simp⟩ rfl ?_
 ·rintro⟨acc,i⟩ ⟨g1,g2,g3⟩
  dsimp only at g1 g2 g3;by_cases hi:i<q.length
  ·have hi':(i:Int)<(q.length:Int):=by omega
   have hw:aiU.wrap ((i:Int)+1)=((i+1:Nat):Int):=by rw [ah (by omega) (by omega)];omega
   have eq:aq 1 (txs q) (I (i:Int))=some [T q[i]]:=by simp [hi]
   have hz:=hq q[i] (ajk hi);have h2:=ga q[i] 120 (by omega);have h120:U ((120:UInt8).toNat:Int)=U 120:=rfl;rw [h120] at h2;have hz2:=fL 120 q[i];rw [ajy hi] at g3;simp only [rz,rdP] at g3;generalize aC 120 q[i]=w at h2 hz2 g3
   match w,h2,hz2,g3 with
   | [a,b],h2,hz2,g3 =>
    have ra:=fN a (by have:=hz2 a (by simp);omega);have rb:=fN b (by have:=hz2 b (by simp);omega);have e0:aq 1 (txs [a,b]) (I 0)=some [T a]:=rfl;have e1:aq 1 (txs [a,b]) (I 1)=some [T b]:=rfl;have ha:=hN (l:=acc) (m:=[(bY b,bY a)]) (by simp;omega);have hl2:((akg [a,b]:Nat):Int)=2:=rfl;refine .inl ⟨(acc++[(bY b,bY a)],i+1),?_,⟨hi,by simp;omega,?_⟩,by dsimp only;omega⟩
    ·simp -implicitDefEqProofs only [aw,aiY,aiZ,ai0,hi',eq,h2,hl2,e0,e1,ra,rb,abB,BV,ia,ha,hw]
    ·rw [g3]
     simp only [aiT,Option.map_map];congr 1
     funext r
     simp
   | [],h2,hz2,g3 =>
    refine .inr ⟨.ret [.arr 2 [],B false] [],?_,rfl,?_⟩
    ·simp -implicitDefEqProofs only [aw,aiY,aiZ,ai0,hi',eq,h2,ajY,Int.natCast_zero,show((0:Nat):Int)=0 from rfl]
    ·rw [g3];rfl
   | [a],h2,hz2,g3 =>
    refine .inr ⟨.ret [.arr 2 [],B false] [],?_,rfl,?_⟩
    ·have hl2:((akg [a]:Nat):Int)=1:=rfl
     simp -implicitDefEqProofs only [aw,aiY,aiZ,ai0,hi',eq,h2,hl2]
    ·rw [g3];rfl
   | a::b::c::t,h2,hz2,g3 =>
    have hl2:¬((akg (a::b::c::t):Nat):Int)=2:=by simp only [ajg];omega
    refine .inr ⟨.ret [.arr 2 [],B false] [],?_,rfl,?_⟩
    ·simp -implicitDefEqProofs only [aw,aiY,aiZ,ai0,hi',eq,h2,hl2]
    ·rw [g3];rfl
  ·have hi':¬(i:Int)<(q.length:Int):=by omega
   rw [ajA (by omega)] at g3;refine .inr ⟨.ext 0 [sls acc],?_,rfl,?_⟩
   ·simp -implicitDefEqProofs only [aw,aiY,aiZ,ai0,hi']
   ·rw [g3]
    simp [rz]
 ·rintro o rfl
  rw [hdef];cases hr:rz q with
  | none=>rfl
  | some r =>
   have hlr:r.length≤1048576:=by
    have key:∀(q:List ByteArray) (r:List Slp),rz q=some r→r.length=q.length:=by
     intro q;induction q with
     | nil=>intro r h;cases h;rfl
     | cons p q ih =>
      intro r h;simp only [rz,ai3,ai9] at h;obtain⟨x,_,m,h2,rfl⟩:=h;simp [ih m h2]
    rw [key q r hr];omega
   simp -implicitDefEqProofs only [aw,aiY,aiZ,ai0,KQ r hlr,agf,ahd];unfold ckS stO;cases cA r<;>rfl
abbrev Nt:=Int × Int × Int
abbrev nt (x:Nt):D:=.agg [I x.1,I x.2.1,I x.2.2]
abbrev nts (l:List Nt):D:=.arr 3 (l.map nt)
def lu (x:Nt):Bool:=decide (0≤x.1∧x.1≤9999)&&decide (0≤x.2.1∧x.2.1≤3)&&decide (1≤x.2.2∧x.2.2≤99999)
theorem uY (x:Nt):pF [nt x]=some (.ret [B (lu x)] []):=by
 rw [QY];by_cases h1:0≤x.1∧x.1≤9999<;>by_cases h2:0≤x.2.1∧x.2.1≤3<;>simp [br,lu,h1,h2]
theorem kR (a:Int):iy [I a]=some (.ret [B (decide (0≤a∧a≤9999))] []):=by
 rw [Kp];simp [bC]
theorem lS (x:Nt):lT [nt x]=some (.ret [B (lu x)] []):=by
 rw [RN];by_cases h1:0≤x.1∧x.1≤9999<;>by_cases h2:0≤x.2.1∧x.2.1≤3<;>simp [bC,kR,lu,h1,h2]
def pNt (l:List Nt) (i:Nat) (x:Nt):Bool:=lu x && !(decide (0<i)&&decide (x.1<(l.getD (i - 1) (0,0,0)).1))
def eC (l:List Nt):Bool:=jD (pNt l) 0 l&&decide (l.length≤24)
theorem eA (l:List Nt) (h:l.length≤1048576):gN [nts l]=some (.ret [B (eC l)] []):=by
 rw [RF];simp only [aL,aiX,aiT];refine aG _ (pY l (fun i=>[nts l,nts l,I l.length,I i]) (pNt l) (.ret [B false] []) (.ext 0 [nts l]) (fun i hi=>?_) ?_ rfl rfl rfl) ?_
 ·have hw:aiU.wrap ((i:Int)+1)=(i:Int)+1:=ah (by omega) (by omega)
  cases h1:lu l[i]
  ·simp [hi,uY,h1,pNt]
  ·by_cases h0:0<i
   ·have hw2:aiU.wrap ((i:Int) - 1)=((i - 1:Nat):Int):=by rw [ah (by omega) (by omega)];omega
    have hy:i - 1<l.length:=by omega
    by_cases h2:l[i].1<l[i - 1].1<;>simp [hi,hy,uY,h1,pNt,hw,hw2,h0,h2]
   ·simp [hi,uY,h1,pNt,hw,h0]
 ·simp
 ·by_cases hg:jD (pNt l) 0 l=true<;>simp [hg,eC]
  omega
theorem cC (l:List Nt) (h:l.length≤1048576):fp [nts l]=some (.ret [B (eC l)] []):=by
 rw [MG];simp only [aL,aiX,aiT];refine aG _ (pY l (fun i=>[nts l,nts l,I l.length,I i]) (pNt l) (.ret [B false] []) (.ext 0 [nts l]) (fun i hi=>?_) ?_ rfl rfl rfl) ?_
 ·have hw:aiU.wrap ((i:Int)+1)=(i:Int)+1:=ah (by omega) (by omega)
  cases h1:lu l[i]
  ·simp [hi,lS,h1,pNt]
  ·by_cases h0:0<i
   ·have hw2:aiU.wrap ((i:Int) - 1)=((i - 1:Nat):Int):=by rw [ah (by omega) (by omega)];omega
    have hy:i - 1<l.length:=by omega
    by_cases h2:l[i].1<l[i - 1].1<;>simp [hi,hy,lS,h1,pNt,hw,hw2,h0,h2]
   ·simp [hi,lS,h1,pNt,hw,h0]
 ·simp
 ·by_cases hg:jD (pNt l) 0 l=true<;>simp [hg,eC]
  omega
theorem xJ (a:Int):rF [I a]=some (.ret [B (decide (0≤a∧a≤9999))] []):=by
 rw [TS];simp [br]
theorem eJ (a:Int):fw [I a]=some (.ret [B (decide (0≤a∧a≤1000000))] []):=by
 rw [CN];simp [bC]
def xF (g:Int) (x:Nt):Int:=if x.2.1=0∨x.2.1=3 then aiU.wrap (g+x.2.2) else aiU.wrap (g - x.2.2)
theorem sY (g:Int) (x:Nt):kp [I g,nt x]=some (.ret [I (xF g x)] []):=by
 rw [Ny];by_cases h1:x.2.1=0
 ·simp [h1,xF]
 ·by_cases h2:x.2.1=3<;>simp [h1,h2,xF]
theorem vg (x:Nt):mc [nt x]=some (.ret [I (if x.2.1=0∨x.2.1=3 then x.2.2 else aiU.wrap (-x.2.2))] []):=by
 rw [RX];by_cases h1:x.2.1=0
 ·simp [h1]
 ·by_cases h2:x.2.1=3<;>simp [h1,h2]
theorem Tw (g:Int) (x:Nt):aiU.wrap (g+if x.2.1=0∨x.2.1=3 then x.2.2 else aiU.wrap (-x.2.2))=xF g x:=by
 unfold xF;split
 ·rfl
 ·exact ab6
def bD (l:List Nt) (s d:Int):Int:=l.foldl (fun g x=>if x.1≤d then xF g x else g) s
def eO (l:List Nt) (s d:Int):Bool:=eC l&&decide (0≤s∧s≤1000000)&&decide (0≤d∧d≤9999)
theorem Hc (l:List Nt) (s d:Int) (h:l.length≤1048576):ka [nts l,I s,I d]=some (.ret [I (if eO l s d then bD l s d else 0),B (eO l s d)] []):=by
 rw [Hs];cases h1:eC l
 ·simp [eA l h,h1,eO]
 by_cases h2:0≤s∧s≤1000000
 case neg=>simp [eA l h,br,xJ,h1,h2,eO]
 by_cases h3:0≤d∧d≤9999
 case neg=>simp [eA l h,br,xJ,h1,h2,h3,eO]
 simp only [eA l h,br,xJ,h1,h2,h3,eO,am,ak,bj,aiT,bH,cb,aP,aH,bz,ai6,aiV,if_false,decide_true,aL,aiX,and_self,ajP,if_true];refine aG _ (aY l.length (fun i=>[I (bD (l.take i) s d),I d,nts l,I l.length,I i]) (.ext 0 [I (bD l s d)]) (fun i hi=>?_) ?_ rfl rfl) ?_
 ·have hw:aiU.wrap ((i:Int)+1)=(i:Int)+1:=ah (by omega) (by omega)
  have hf:bD (l.take (i+1)) s d=if l[i].1≤d then xF (bD (l.take i) s d) l[i] else bD (l.take i) s d:=by
   unfold bD;rw [ajf hi,akd];rfl
  by_cases h4:l[i].1≤d<;>simp [hi,h4,hw,hf,sY]
 ·simp
 ·simp
theorem Gr (l:List Nt) (s d:Int) (h:l.length≤1048576):jU [nts l,I s,I d]=some (.ret [I (if eO l s d then bD l s d else 0),B (eO l s d)] []):=by
 rw [IV];cases h1:eC l
 ·simp [cC l h,h1,eO]
 by_cases h2:0≤s∧s≤1000000
 case neg=>simp [cC l h,eJ,kR,h1,h2,eO]
 by_cases h3:0≤d∧d≤9999
 case neg=>simp [cC l h,eJ,kR,h1,h2,h3,eO]
 simp only [cC l h,eJ,kR,h1,h2,h3,eO,am,ak,bj,aiT,bH,cb,aP,aH,bz,ai6,aiV,if_false,decide_true,aL,aiX,and_self,ajP,if_true];refine aG _ (aY l.length (fun i=>[I (bD (l.take i) s d),I d,nts l,I l.length,I i]) (.ext 0 [I (bD l s d)]) (fun i hi=>?_) ?_ rfl rfl) ?_
 ·have hw:aiU.wrap ((i:Int)+1)=(i:Int)+1:=ah (by omega) (by omega)
  have hf:bD (l.take (i+1)) s d=if l[i].1≤d then xF (bD (l.take i) s d) l[i] else bD (l.take i) s d:=by
   unfold bD;rw [ajf hi,akd];rfl
  by_cases h4:l[i].1≤d<;>simp [hi,h4,hw,hf,vg,Tw]
 ·simp
 ·simp
def mL (i:Nat) (a:Int × Int × Int) (x:Nt):Int × Int × Int:=if a.2.2<0∨xF a.1 x<a.2.1 then(xF a.1 x,xF a.1 x,i) else(xF a.1 x,a.2.1,a.2.2)
def gp (l:List Nt) (s:Int):Bool:=eC l&&decide (0≤s∧s≤1000000) && !decide (l.length=0)
def gP (l:List Nt) (s:Int):Int × Int:=if gp l s then(DF mL 0 l (s,0,-1)).2 else(0,0)
theorem GA (l:List Nt) (s:Int) (h:l.length≤1048576):jQ [nts l,I s]=some (.ret [I (gP l s).1,I (gP l s).2,B (gp l s)] []):=by
 rw [Ix];cases h1:eC l
 ·simp [eA l h,h1,gp,gP]
 by_cases h2:0≤s∧s≤1000000
 case neg=>simp [eA l h,br,h1,h2,gp,gP]
 by_cases h3:(l.length:Int)=0
 case pos =>
  have h3':l=[]:=ajJ (by omega);subst h3';simp [eA [] h,br,h1,h2,gp,gP]
 have h3':¬l=[]:=fun e=>h3 (by simp [e])
 have hok:gp l s=true:=by simp [gp,h1,h2,h3']
 simp only [eA l h,br,h1,h2,h3,am,ak,bj,aiT,bH,cb,aP,aH,bz,ai6,aiV,if_false,decide_true,decide_false,fi,aL,aiX,and_self,ajP,if_true];refine aG _ (Qd l (fun i a=>[I a.1,I a.2.1,I a.2.2,nts l,I l.length,I i]) (fun _ _=>True) mL (fun a=>.ext 0 [I a.2.1,I a.2.2]) (s,0,-1) (fun i a hi _=>⟨?_,trivial⟩) (fun a _=>?_) (fun _=>rfl) trivial rfl) ?_
 ·have hw:aiU.wrap ((i:Int)+1)=(i:Int)+1:=ah (by omega) (by omega)
  by_cases h4:a.2.2<0
  ·simp [hi,h4,hw,mL,sY]
  ·by_cases h5:xF a.1 l[i]<a.2.1<;>simp [hi,h4,h5,hw,mL,sY]
 ·simp
 ·simp [gP,hok]
theorem IP (l:List Nt) (s:Int) (h:l.length≤1048576):jJ [nts l,I s]=some (.ret [I (gP l s).1,I (gP l s).2,B (gp l s)] []):=by
 rw [IY];cases h1:eC l
 ·simp [cC l h,h1,gp,gP]
 by_cases h2:0≤s∧s≤1000000
 case neg=>simp [cC l h,eJ,h1,h2,gp,gP]
 by_cases h3:(l.length:Int)=0
 case pos =>
  have h3':l=[]:=ajJ (by omega);subst h3';simp [cC [] h,eJ,h1,h2,gp,gP]
 have h3':¬l=[]:=fun e=>h3 (by simp [e])
 have hok:gp l s=true:=by simp [gp,h1,h2,h3']
 simp only [cC l h,eJ,h1,h2,h3,am,ak,bj,aiT,bH,cb,aP,aH,bz,ai6,aiV,if_false,decide_true,decide_false,fi,aL,aiX,and_self,ajP,if_true];refine aG _ (Qd l (fun i a=>[I a.1,I a.2.1,I a.2.2,nts l,I l.length,I i]) (fun _ _=>True) mL (fun a=>.ext 0 [I a.2.1,I a.2.2]) (s,0,-1) (fun i a hi _=>⟨?_,trivial⟩) (fun a _=>?_) (fun _=>rfl) trivial rfl) ?_
 ·have hw:aiU.wrap ((i:Int)+1)=(i:Int)+1:=ah (by omega) (by omega)
  by_cases h4:a.2.2<0
  ·simp [hi,h4,hw,mL,vg,Tw]
  ·by_cases h5:xF a.1 l[i]<a.2.1<;>simp [hi,h4,h5,hw,mL,vg,Tw]
 ·simp
 ·simp [gP,hok]
theorem nG {x:Nt}:lu x=true↔(0≤x.1∧x.1≤9999)∧(0≤x.2.1∧x.2.1≤3)∧(1≤x.2.2∧x.2.2≤99999):=by
 simp only [lu,ajw,decide_eq_true_eq,and_assoc]
def ckN (b:Int) (x:Nt):Int:=(31*b+17*x.1+5*x.2.1+x.2.2) % 9973
theorem pi (b:Int) (x:Nt):0≤ckN b x∧ckN b x≤9972:=by
 unfold ckN;omega
theorem WV {b:Int} {x:Nt} (hb:0≤b∧b≤9972) (hx:lu x=true):aiU.wrap (31*b)=31*b∧aiU.wrap (17*x.1)=17*x.1∧aiU.wrap (31*b+17*x.1)=31*b+17*x.1 ∧
  aiU.wrap (5*x.2.1)=5*x.2.1∧aiU.wrap (31*b+17*x.1+5*x.2.1)=31*b+17*x.1+5*x.2.1∧aiU.wrap (31*b+17*x.1+5*x.2.1+x.2.2)=31*b+17*x.1+5*x.2.1+x.2.2 ∧
  (31*b+17*x.1+5*x.2.1+x.2.2).tmod 9973=ckN b x:=by
 obtain⟨h1,h2,h3⟩:=nG.1 hx;refine⟨ah (by omega) (by omega),ah (by omega) (by omega),ah (by omega) (by omega),ah (by omega) (by omega),ah (by omega) (by omega),ah (by omega) (by omega),?_⟩
 rw [Int.tmod_eq_emod_of_nonneg (by omega)];rfl
theorem Ht {b:Int} {x:Nt} (hb:0≤b∧b≤9972) (hx:lu x=true):lb [I b,nt x]=some (.ret [I (ckN b x)] []):=by
 rw [Tz];obtain⟨h1,h2,h3,h4,h5,h6,h7⟩:=WV hb hx;simp -implicitDefEqProofs [h1,h2,h3,h4,h5,h6,h7]
theorem Ao {b:Int} {x:Nt} (hb:0≤b∧b≤9972) (hx:lu x=true):iz [I b,nt x]=some (.ret [I (ckN b x)] []):=by
 rw [Nj];obtain⟨h1,h2,h3,h4,h5,h6,h7⟩:=WV hb hx;simp -implicitDefEqProofs [h1,h2,h3,h4,h5,h6,h7]
def lnT (x:Nt) (c:Int):ByteArray:=aI x.1++⟨#[32]⟩++aI x.2.1++⟨#[32]⟩++aI x.2.2++⟨#[32]⟩++aI c++⟨#[10]⟩
theorem EP {x:Nt} {c:Int} (hx:lu x=true) (hc:0≤c∧c≤9972):lQ [nt x,I c]=some (.ret [T (lnT x c)] []):=by
 rw [QX];obtain⟨h1,h2,h3⟩:=nG.1 hx;have s1:=bX 9 (n:=x.1) (by omega) (by omega);have s2:=bX 9 (n:=x.2.1) (by omega) (by omega);have s3:=bX 9 (n:=x.2.2) (by omega) (by omega);have s4:=bX 9 (n:=c) (by omega) (by omega);have n1:=bR (n:=x.1) (by omega) (by omega);have n2:=bR (n:=x.2.1) (by omega) (by omega);have n3:=bR (n:=x.2.2) (by omega) (by omega);have n4:=bR (n:=c) (by omega) (by omega);simp -implicitDefEqProofs (disch:=(first | assumption | (simp only [ai2,sz1];omega))) [n1,n2,n3,n4,YM,-fT,lnT]
theorem Tx (l:List Int) (sep:ByteArray) (hl:l.length≤1048576) (hr:∀n∈l,-9223372036854775808≤n∧n≤9223372036854775807) (hz:(qC (l.map aI) sep).size≤140737488355328):dm [oo l,T sep]=some (.ret [T (qC (l.map aI) sep)] []):=by
 rw [Bo];simp only [be,aiT,aL,aiX];refine aG _ (aY l.length (fun i=>[T sep,.arr 1 (((l.take i).map aI).map T),oo l,I l.length,I (i:Int)]) (.ext 0 [T sep,.arr 1 ((l.map aI).map T)]) (fun i hi=>?_) ?_ rfl rfl) ?_
 ·have hi':(i:Int)<(l.length:Int):=by omega
  have hw:aiU.wrap ((i:Int)+1)=((i+1:Nat):Int):=by rw [ah (by omega) (by omega)];omega
  have hel:aq 1 (oo l) (I (i:Int))=some [I l[i]]:=by simp [hi]
  have hr':=hr l[i] (ajk hi);have hIt:=Nu hr'.1 hr'.2;have e1:(((l.take i).map aI).map T).length+[T (aI l[i])].length=i+1:=by
   simp only [aiX,akj,ajg,ajY];omega
  have hap:(i+1)*16≤140737488355328∧i+1≤1152921504606846976:=by omega
  have hck:cR (.arr 1 [T (aI l[i])])=some (.arr 1 [T (aI l[i])]):=sE [aI l[i]];have htk:((l.take (i+1)).map aI).map T=((l.take i).map aI).map T++[T (aI l[i])]:=by
   rw [ajf hi,ajG,ajG];rfl
  simp only [ak,aE,bg,hi',decide_true,aiT,aH,if_true,hel,ai1,bn,aR,bJ,hIt,am,wd,hck,gH,e1,hap,and_self,bv,hw,htk]
 ·have hi':¬(l.length:Int)<(l.length:Int):=by omega
  simp only [ak,aE,bg,hi',decide_false,aiT,aH,aiV,if_false,ajv]
 ·have hj:El [.arr 1 ((l.map aI).map T),T sep]=some (.ret [T (qC (l.map aI) sep)] []):=by
   simp only [El,BN,aiT,aiX];rw [if_pos ⟨by omega,hz⟩]
  simp only [bF,ajr,ep,if_true,ak,aE,cy,ch,aiT,hj,am]
theorem ab1 {r:Option Out} {rs us:List D} {k:List D→List D→Option Out} {o:Option Out} (h:r=some (.ret rs us)) (hk:k rs us=o):ac r k=o:=by rw [h];exact hk
theorem ahJ (a b c d:ByteArray) (s:ByteArray):qC [a,b,c,d] s=a++s++b++s++c++s++d:=by
 apply bP;simp only [bh];unfold qC;rw [cS];simp [Lib.join,List.intercalate,List.intersperse,ae]
theorem yt {x:Nt} {c:Int} (hx:lu x=true) (hc:0≤c∧c≤9972):jq [nt x,I c]=some (.ret [T (lnT x c)] []):=by
 rw [LS];obtain⟨h1,h2,h3⟩:=nG.1 hx;have s1:=bX 9 (n:=x.1) (by omega) (by omega);have s2:=bX 9 (n:=x.2.1) (by omega) (by omega);have s3:=bX 9 (n:=x.2.2) (by omega) (by omega);have s4:=bX 9 (n:=c) (by omega) (by omega);have hj4:qC ([x.1,x.2.1,x.2.2,c].map aI) ⟨#[32]⟩=aI x.1++⟨#[32]⟩++aI x.2.1++⟨#[32]⟩++aI x.2.2++⟨#[32]⟩++aI c:=ahJ _ _ _ _ _;have hjz:(qC ([x.1,x.2.1,x.2.2,c].map aI) ⟨#[32]⟩).size≤100:=by
  rw [hj4];simp only [ai2,sz1];omega
 have hj:=Tx [x.1,x.2.1,x.2.2,c] ⟨#[32]⟩ (by simp) (by simp;omega) (by omega);rw [hj4] at hj;have hm:aA 1 [I x.1,I x.2.1,I x.2.2,I c]=some (oo [x.1,x.2.1,x.2.2,c]):=by simp [aA,kx]
 simp -implicitDefEqProofs [hm];refine ab1 (hj:dm [oo [x.1,x.2.1,x.2.2,c],T ⟨#[32]⟩]=_) ?_
 simp -implicitDefEqProofs (disch:=(first | assumption | (simp only [ai2,sz1];omega))) [YM,-fT,lnT]
theorem Kt (x:Nt) (c:Int):ae (lnT x c)=(ae (aI x.1)++32::(ae (aI x.2.1)++32::(ae (aI x.2.2)++32::ae (aI c))))++[10]:=by
 simp only [lnT,bh,ajh,ajl,show ae ⟨#[32]⟩=[32] from rfl,show ae ⟨#[10]⟩=[10] from rfl,ajE]
def lnL (x:Nt) (c:Int):List UInt8:=ae (aI x.1)++32::(ae (aI x.2.1)++32::(ae (aI x.2.2)++32::ae (aI c)))
theorem TP {x:Nt} {c:Int} {s:ByteArray}:lnT x c=s++⟨#[10]⟩↔ae s=lnL x c:=by
 constructor
 ·intro h
  have:=congrArg ae h;rw [Kt,bh] at this;exact(List.append_inj_left' this rfl).symm
 ·intro h
  apply bP;rw [Kt,bh,h];rfl
theorem aa5 {x:Nt} {c:Int} (hx:lu x=true) (hc:0≤c∧c≤9972) {s:ByteArray} (hs:ae s=lnL x c):fv s=[x.1,x.2.1,x.2.2,c]:=by
 obtain⟨h1,h2,h3⟩:=nG.1 hx;have d1:=gq (n:=x.1) (by omega);have d2:=gq (n:=x.2.1) (by omega);have d3:=gq (n:=x.2.2) (by omega);have d4:=gq (n:=c) (by omega);refine acl ?_ (by simp;omega) ?_
 ·rw [hs]
  intro b hb;simp only [lnL,ajF,aji] at hb;rcases hb with hb | rfl | hb | rfl | hb | rfl | hb<;>first
   | decide
   | exact Fz (d1.2 b hb)
   | exact Fz (d2.2 b hb)
   | exact Fz (d3.2 b hb)
   | exact Fz (d4.2 b hb)
 ·rw [hs,lnL,rU d1.1 d1.2 (by decide),rU d2.1 d2.2 (by decide),rU d3.1 d3.2 (by decide),SC d4.1 d4.2]
  rfl
theorem ZE {x:Nt} {c:Int} (hx:lu x=true) (hc:0≤c∧c≤9972) {s:ByteArray} (hs:ae s=lnL x c):aC 32 s=[aI x.1,aI x.2.1,aI x.2.2,aI c]:=by
 obtain⟨h1,h2,h3⟩:=nG.1 hx;have d1:=gq (n:=x.1) (by omega);have d2:=gq (n:=x.2.1) (by omega);have d3:=gq (n:=x.2.2) (by omega);have d4:=gq (n:=c) (by omega);unfold aC;rw [hs,lnL,fq (nP d1.2 (by decide)),fq (nP d2.2 (by decide)),fq (nP d3.2 (by decide)),ko (nP d4.2 (by decide))];simp only [ajb,ajS,nQ]
theorem kC {l:List Nt} {x:Nt} (h:eC (l++[x])=true):lu x=true∧l.length+1≤24:=by
 unfold eC at h;simp only [ajw,decide_eq_true_eq] at h;refine⟨?_,by simpa using h.2⟩
 have key:∀(p:Nat→Nt→Bool) (m:List Nt) (i:Nat),jD p i (m++[x])=true→p (i+m.length) x=true:=by
  intro p m;induction m with
  | nil=>intro i hi;simpa [jD] using hi
  | cons y m ih =>
   intro i hi;simp only [ajl,jD,ajw] at hi;have:=ih (i+1) hi.2;rw [ajg,show i+(m.length+1)=i+1+m.length by omega];exact this
 have:=key _ _ _ h.1;simp only [pNt,ajw] at this;exact this.1
def QG (l:List Nt) (c:Int) (s:ByteArray):Option Nt :=
 match fv s with
 | [a,b,g,_]=>if eC (l++[(a,b,g)])=true∧lnT (a,b,g) (ckN c (a,b,g))=s++⟨#[10]⟩ then some (a,b,g) else none
 | _=>none
def Fy (l:List Nt) (c:Int) (s:ByteArray):Option Nt :=
 match aC 32 s with
 | [a,b,g,_]=>if eC (l++[(bY a,bY b,bY g)])=true∧lnT (bY a,bY b,bY g) (ckN c (bY a,bY b,bY g))=s++⟨#[10]⟩ then some (bY a,bY b,bY g) else none
 | _=>none
theorem abn {l:List Nt} {c:Int} {s:ByteArray} {x:Nt} (h:QG l c s=some x):eC (l++[x])=true∧lnT x (ckN c x)=s++⟨#[10]⟩:=by
 unfold QG at h;split at h
 ·split at h
  ·rename_i hc
   cases h;exact hc
  ·cases h
 ·cases h
theorem SM {l:List Nt} {c:Int} {s:ByteArray} {x:Nt} (h:Fy l c s=some x):eC (l++[x])=true∧lnT x (ckN c x)=s++⟨#[10]⟩:=by
 unfold Fy at h;split at h
 ·split at h
  ·rename_i hc
   cases h;exact hc
  ·cases h
 ·cases h
theorem afo {l:List Nt} {c:Int} {s:ByteArray} {x:Nt} (h:eC (l++[x])=true) (hs:lnT x (ckN c x)=s++⟨#[10]⟩):QG l c s=some x:=by
 have hx:=(kC h).1;unfold QG;rw [aa5 hx (pi c x) (TP.1 hs)];simp only;rw [if_pos ⟨h,hs⟩]
theorem ZH {l:List Nt} {c:Int} {s:ByteArray} {x:Nt} (h:eC (l++[x])=true) (hs:lnT x (ckN c x)=s++⟨#[10]⟩):Fy l c s=some x:=by
 have hx:=(kC h).1;obtain⟨h1,h2,h3⟩:=nG.1 hx;unfold Fy;rw [ZE hx (pi c x) (TP.1 hs)];simp only;rw [oU (n:=x.1) (by omega) (by omega),oU (n:=x.2.1) (by omega) (by omega),oU (n:=x.2.2) (by omega) (by omega),if_pos ⟨h,hs⟩]
theorem agM (l:List Nt) (c:Int) (s:ByteArray):QG l c s=Fy l c s:=by
 cases hi:QG l c s with
 | some x =>
  obtain⟨h1,h2⟩:=abn hi;rw [ZH h1 h2]
 | none =>
  cases hs:Fy l c s with
  | none=>rfl
  | some x =>
   obtain⟨h1,h2⟩:=SM hs;rw [afo h1 h2] at hi;cases hi
def iE:List (List UInt8)→List Nt→Int→Nat→List Nt × Nat
 | [],l,_,u=>(l,u)
 | m::ms,l,c,u=>match Fy l c ⟨m.toArray⟩ with
  | some x=>iE ms (l++[x]) (ckN c x) (u+(m.length+1))
  | none=>(l,u)
abbrev mkT (l:List UInt8):ByteArray:=⟨l.toArray⟩
theorem nu (l:List UInt8):(mkT l).size=l.length:=rfl
theorem NU (c:UInt8):∀(l:List UInt8),∀m∈aW c l,m.length≤l.length:=by
 intro l m hm;have:=fL c (mkT l) (mkT m) (akc.2 ⟨m,by rw [cS];exact hm,rfl⟩);exact this
theorem YU (x:Nt):stD 3 (.agg [I 0,I 0,I 0]) (.ref 0 0) (nt x)=some (nt x):=by simp
theorem xw {l:List Nt} {m:List Nt} (h:l.length+m.length≤1048576):bB 3 24 (nts l) (nts m)=some (nts (l++m)):=by
 have e1:(l.map nt).length+(m.map nt).length=l.length+m.length:=by simp
 have h1:(l.length+m.length)*24≤140737488355328∧l.length+m.length≤1152921504606846976:=by omega
 rw [gH,e1,if_pos h1,←ajG]
theorem TE (x:Nt):aA 3 [nt x]=some (nts [x]):=by simp [aA,kx]
theorem Od (x:Nt):bf true 3 0 (nt x)=some (nt x):=by simp
theorem UU (l:List Nt):cR (nts l)=some (nts l):=qg fun _=>rfl
theorem abW (a b c:Int):dp [(0,1),(1,1),(2,1)] [I 0,I 0,I 0] [I a,I b,I c]=some (nt (a,b,c)):=by
 simp [dp,DJ]
theorem uW (s:ByteArray) (h:s.size≤1048576):pB [T s]=some (.ret [nts (iE (aW 10 (ae s)).dropLast [] 7 0).1,I ((iE (aW 10 (ae s)).dropLast [] 7 0).2:Int)] []):=by
 rw [Rk];have hs:ce [T s,D.v (ajj IntKind.u8 10)]=some (.ret [.arr 1 ((aC 10 s).map T)] []):=ga s 10 (by omega);have hll:=fc 10 (ae s);have hsz:s.size=(ae s).length:=rfl;have hne:=dv 10 (ae s);have hmem:∀m∈(aW 10 (ae s)).dropLast,m.length≤1048576:=by
  intro m hm;have:=NU 10 (ae s) m (List.dropLast_subset _ hm);omega
 have hlen:(aW 10 (ae s)).dropLast.length+1=(aW 10 (ae s)).length:=by
  rw [ajH];have:=ajK.2 hne;omega
 have hpre:dH false 1 (.arr 1 ((aC 10 s).map T)) (I 0) (I ((aW 10 (ae s)).dropLast.length:Int))=some (.arr 1 (((aW 10 (ae s)).dropLast.map mkT).map T)):=by
  have:=mK (z:=1) (i:=0) (j:=(aW 10 (ae s)).dropLast.length) (l:=(aC 10 s).map T) (k:=.i64) (k':=.i64) (ajn _) (by simp [aC]);rw [show I 0=D.v (ajj .i64 ((0:Nat):Int)) from rfl,this];rw [ajt,ajH,aC];simp -implicitDefEqProofs only [←List.map_take,aj2]
 rw [hs];have e1:((aC 10 s).map T).length=(aW 10 (ae s)).length:=by simp [aC]
 have hw:aiU.wrap (((aW 10 (ae s)).length:Int) - 1)=((aW 10 (ae s)).dropLast.length:Int):=by
  rw [ah (by omega) (by omega)];omega
 simp -implicitDefEqProofs only [am,ak,aL,e1,aiT,cq,hw,hpre,aiX];generalize (aW 10 (ae s)).dropLast=ms at hmem hlen;have hms:ms.length≤1048576:=by omega
 clear hpre hw hs e1 hlen hne hll hsz;refine aG _ (Ck ms (fun i (a:List Nt × Nat × Int)=>[nts a.1,I (a.2.1:Int),I a.2.2,.arr 1 ((ms.map mkT).map T),I (ms.length:Int),I (i:Int)]) (fun i a=>a.1.length≤24∧(0≤a.2.2∧a.2.2≤9972)∧a.2.1≤i*1048577)
  (fun _ m a=>match Fy a.1 a.2.2 (mkT m) with
   | some x=>.inl (a.1++[x],a.2.1+(m.length+1),ckN a.2.2 x)
   | none=>.inr (.ext 0 [nts a.1,I (a.2.1:Int)])) (fun a=>.ext 0 [nts a.1,I (a.2.1:Int)]) ?_ ?_ ([],0,7) ⟨ajn _,⟨by decide,by decide⟩,ajn _⟩ rfl) ?_
 ·rintro i m ⟨l,u,c⟩ hm ⟨hl,hc,hu⟩
  simp only at hl hc hu;have hi:i<ms.length:=(ajz.1 hm).1;have hmz:m.length≤1048576:=hmem m (List.mem_of_getElem? hm);have hi':(i:Int)<(ms.length:Int):=by omega
  have hel:aq 1 (.arr 1 ((ms.map mkT).map T)) (I (i:Int))=some [T (mkT m)]:=by simp [hm]
  have hsp:ce [T (mkT m),D.v (ajj IntKind.u8 32)]=some (.ret [.arr 1 ((aC 32 (mkT m)).map T)] []):=ga (mkT m) 32 (by rw [nu];omega);have hz:=fL 32 (mkT m);have hll:(aC 32 (mkT m)).length≤1048577:=by
   have h1:=fc 32 (ae (mkT m));have h2:=fb 32 (mkT m);have h3:(ae (mkT m)).length=m.length:=rfl;omega
  simp -implicitDefEqProofs only [nu] at hz;simp -implicitDefEqProofs only [ak,aE,bg,hi',decide_true,aiT,aH,if_true,hel,ai1,bn,aR,bJ,hsp,am,aL,aiX,iO];by_cases h4:(aC 32 (mkT m)).length=4
  ·obtain⟨w0,w1,w2,w3,hws⟩:∃w0 w1 w2 w3,aC 32 (mkT m)=[w0,w1,w2,w3]:=by
    generalize aC 32 (mkT m)=ws at h4
    match ws,h4 with
    | [a,b,c,d],_=>exact⟨a,b,c,d,rfl⟩
   rw [hws] at hz ⊢;have q0:=fN w0 (by have:=hz w0 (by simp);omega);have q1:=fN w1 (by have:=hz w1 (by simp);omega);have q2:=fN w2 (by have:=hz w2 (by simp);omega);have e0:aq 1 (.arr 1 ([w0,w1,w2,w3].map T)) (I 0)=some [T w0]:=rfl;have e1:aq 1 (.arr 1 ([w0,w1,w2,w3].map T)) (I 1)=some [T w1]:=rfl;have e2:aq 1 (.arr 1 ([w0,w1,w2,w3].map T)) (I 2)=some [T w2]:=rfl;have hacc:Fy l c (mkT m)=if eC (l++[(bY w0,bY w1,bY w2)])=true∧lnT (bY w0,bY w1,bY w2) (ckN c (bY w0,bY w1,bY w2))=mkT m++⟨#[10]⟩ then some (bY w0,bY w1,bY w2) else none:=by
    unfold Fy;rw [hws]
   have h4n:((([w0,w1,w2,w3]:List ByteArray).length:Nat):Int)=4:=rfl;rw [hacc];simp -implicitDefEqProofs only [h4n,decide_true,ai6,aiV,if_false,e0,e1,e2,ai1,aiT,bn,aR,bJ,q0,q1,q2,am,ak,abW];generalize (bY w0,bY w1,bY w2)=y at hacc ⊢;have hap:=xw (l:=l) (m:=[y]) (by simp;omega);have hg:=eA (l++[y]) (by simp;omega);have ha0:bB 3 24 (.arr 3 []) (nts l)=some (nts l):=xw (l:=[]) (m:=l) (by simp;omega);simp -implicitDefEqProofs only [YU,aiT,be,ch,cy,cz,ha0,Od,TE,UU,hap,hg,am,ak,bj];cases hgd:eC (l++[y])
   ·simp -implicitDefEqProofs [hgd,Out.ends]
   have hy:=(kC hgd).1;have hck:=pi c y;have j1:=Ao hc hy;have j2:=EP hy hck;have hadd:bin BinOp.add false [] (T (mkT m)) (D.v (ajI {data:={toList:=[10]}}))=some (T (mkT m++⟨#[10]⟩)):=by
    rw [show(D.v (ajI {data:={toList:=[10]}}))=T ⟨#[10]⟩ from rfl,fT,if_pos (by simp [nu];omega)]
   simp -implicitDefEqProofs only [ai6,bH,aiV,if_false,aiT,cb,j1,j2,am,bz,ak,hadd,ir,aP,aH];by_cases he:lnT y (ckN c y)=mkT m++⟨#[10]⟩
   ·have hw1:aiU.wrap ((m.length:Int)+1)=(m.length:Int)+1:=ah (by omega) (by omega)
    have hw2:aiU.wrap ((u:Int)+((m.length:Int)+1))=((u+(m.length+1):Nat):Int):=by rw [ah (by omega) (by omega)];omega
    have hw3:aiU.wrap ((i:Int)+1)=((i+1:Nat):Int):=by rw [ah (by omega) (by omega)];omega
    simp -implicitDefEqProofs only [he,decide_true,ai6,aiV,if_false,hgd,and_self,if_true,j1,am,ak,dV,nu,aiT,bv,hw1,hw2,hw3];have hll:(l++[y]).length≤24:=by
     rw [ajo,ajC];exact(kC hgd).2
    have huu:u+(m.length+1)≤(i+1)*1048577:=by omega
    exact⟨trivial,hll,hck,huu⟩
   ·simp [he,hgd,Out.ends]
  ·have hacc:Fy l c (mkT m)=none:=by
    unfold Fy;split
    ·rename_i hh
     exact absurd (by rw [hh];rfl) h4
    ·rfl
   rw [hacc];have h4':¬((aC 32 (mkT m)).length:Int)=4:=by omega
   simp -implicitDefEqProofs only [h4',decide_false,aju,if_true];simp [Out.ends]
 ·rintro⟨l,u,c⟩ _
  have hi':¬(ms.length:Int)<(ms.length:Int):=by omega
  simp -implicitDefEqProofs only [ak,aE,bg,hi',decide_false,aiT,aH,aiV,if_false];simp [Out.ends]
 ·have key:∀(ms:List (List UInt8)) (i:Nat) (l:List Nt) (u:Nat) (c:Int),goL (fun _ m (a:List Nt × Nat × Int)=>match Fy a.1 a.2.2 (mkT m) with
   | some x=>.inl (a.1++[x],a.2.1+(m.length+1),ckN a.2.2 x)
   | none=>.inr (.ext 0 [nts a.1,I (a.2.1:Int)])) (fun a=>.ext 0 [nts a.1,I (a.2.1:Int)]) i ms (l,u,c) = .ext 0 [nts (iE ms l c u).1,I ((iE ms l c u).2:Int)]:=by
   intro ms;induction ms with
   | nil=>intro i l u c;rfl
   | cons m ms ih =>
    intro i l u c;simp -implicitDefEqProofs only [goL,iE];cases Fy l c (mkT m) with
    | some x=>exact ih (i+1) _ _ _
    | none=>rfl
  rw [key];simp -implicitDefEqProofs only [bF,ajr,ep,if_true,ak,aE]
theorem ahe (w:ByteArray) (h:w.size≤1048576):TM [T w,T ⟨#[10]⟩]=some (.ret [T (mkT (ajD (ae w) [10]).1),T (mkT (ajD (ae w) [10]).2.1),B (ajD (ae w) [10]).2.2] []):=by
 simp -implicitDefEqProofs only [TM];rw [if_pos (by omega)];rfl
theorem ahw (r:List UInt8):(10:UInt8)∉r∨∃a b,r=a++10::b∧(10:UInt8)∉a:=by
 induction r with
 | nil=>left;simp
 | cons x r ih =>
  by_cases hx:x=10
  ·right
   exact⟨[],r,by rw [hx];rfl,by simp⟩
  ·rcases ih with ih | ⟨a,b,rfl,ha⟩
   ·left
    simp -implicitDefEqProofs only [aji,not_or];exact⟨fun e=>hx e.symm,ih⟩
   ·right
    refine⟨x::a,b,rfl,?_⟩
    simp -implicitDefEqProofs only [aji,not_or];exact⟨fun e=>hx e.symm,ha⟩
theorem ab7 (x y:ByteArray) (z:Bool):ao (.tup [T x,T y,B z]) 0=some (T x):=rfl
theorem adk (x y:ByteArray) (z:Bool):ao (.tup [T x,T y,B z]) 1=some (T y):=rfl
theorem aci (x y:ByteArray) (z:Bool):ao (.tup [T x,T y,B z]) 2=some (B z):=rfl
theorem wE (s:ByteArray) (h:s.size≤1048576):lg [T s]=some (.ret [nts (iE (aW 10 (ae s)).dropLast [] 7 0).1,I ((iE (aW 10 (ae s)).dropLast [] 7 0).2:Int)] []):=by
 rw [Kr];have hsz:s.size=(ae s).length:=rfl;generalize hR:iE (aW 10 (ae s)).dropLast [] 7 0=R;simp -implicitDefEqProofs only [be,aiT];refine bL (fun r=>r=_) (fun(a:List Nt × Int × Nat)=>[T s,nts a.1,I a.2.1,I (a.2.2:Int)]) (fun a=>a.1.length≤24∧(0≤a.2.1∧a.2.1≤9972)∧a.2.2≤s.size∧iE (aW 10 ((ae s).drop a.2.2)).dropLast a.1 a.2.1 a.2.2=R)
  (fun a=>s.size - a.2.2) (fun o=>o = .ret [nts R.1,I (R.2:Int)] []) ?_ ([],7,0) ⟨ajn _,⟨by decide,by decide⟩,ajn _,hR⟩ rfl ?_
 ·rintro⟨l,c,u⟩ ⟨hl,hc,hu,hr⟩
  simp only at hl hc hu hr;have hsl:=Gn (s:=s) (z:=0) (i:=u) hu;have hwz:(s.extract u s.size).size≤1048576:=by rw [ByteArray.size_extract];omega
  have hcut:=ahe (s.extract u s.size) hwz;have hch:ae (s.extract u s.size)=(ae s).drop u:=by
   rw [fa,hsz,ajv]
  have emp:(D.v (ajI {data:={toList:=[10]}}))=T ⟨#[10]⟩:=rfl;rw [hch] at hcut;have hlen:((ae s).drop u).length=s.size - u:=by rw [List.length_drop,hsz]
  simp -implicitDefEqProofs only [ak,aE,hsl,aiT,emp,hcut,am];generalize hdrop:(ae s).drop u=r at hcut hr hlen;rcases ahw r with hn | ⟨a,b,rfl,ha⟩
  ·right
   have hnum:=kJ (mkT r) (by rw [nu];omega);rw [ko hn] at hr;refine⟨_,?_,rfl,rfl⟩
   rw [←hr,Oa hn];simp -implicitDefEqProofs only [ab7,adk,aci,aiT,hnum,am,ak,bj,aju,bH,if_true,aP,aH];rfl
  ·have hnum:=kJ (mkT a) (by rw [nu];simp at hlen;omega)
   rw [fq ha,List.dropLast_cons_of_ne_nil (dv 10 b)] at hr;simp -implicitDefEqProofs only [iE] at hr;rw [←agM] at hr;rw [Uj ha];simp -implicitDefEqProofs only [ab7,adk,aci,aiT,hnum,am,ak,bj,ai6,bH,aiV,if_false,aL,aiX,iO,aP,aH];by_cases h4:(fv (mkT a)).length=4
   ·obtain⟨w0,w1,w2,w3,hws⟩:∃w0 w1 w2 w3,fv (mkT a)=[w0,w1,w2,w3]:=by
     generalize fv (mkT a)=ws at h4
     match ws,h4 with
     | [a,b,c,d],_=>exact⟨a,b,c,d,rfl⟩
    have hacc:QG l c (mkT a)=if eC (l++[(w0,w1,w2)])=true∧lnT (w0,w1,w2) (ckN c (w0,w1,w2))=mkT a++⟨#[10]⟩ then some (w0,w1,w2) else none:=by
     unfold QG;rw [hws]
    rw [hacc] at hr;rw [hws];have e0:aq 1 (oo [w0,w1,w2,w3]) (I 0)=some [I w0]:=rfl;have e1:aq 1 (oo [w0,w1,w2,w3]) (I 1)=some [I w1]:=rfl;have e2:aq 1 (oo [w0,w1,w2,w3]) (I 2)=some [I w2]:=rfl;have h4n:((([w0,w1,w2,w3]:List Int).length:Nat):Int)=4:=rfl;simp -implicitDefEqProofs only [h4n,decide_true,ai6,aiV,if_false,e0,e1,e2,ai1,aiT,bn,aR,bJ,am,ak,abW];generalize (w0,w1,w2)=y at hr ⊢;have hap:=xw (l:=l) (m:=[y]) (by simp;omega);have hg:=cC (l++[y]) (by simp;omega);have ha0:bB 3 24 (.arr 3 []) (nts l)=some (nts l):=xw (l:=[]) (m:=l) (by simp;omega);simp -implicitDefEqProofs only [YU,aiT,be,ch,cy,cz,ha0,Od,TE,UU,hap,hg,am,ak,bj];cases hgd:eC (l++[y])
    ·right
     rw [hgd] at hr;refine⟨_,?_,rfl,rfl⟩
     rw [←hr];simp -implicitDefEqProofs
    have hy:=(kC hgd).1;have hck:=pi c y;have j1:=Ht hc hy;have j2:=yt hy hck;have haz:a.length+1≤s.size - u:=by
     rw [ajo,ajg] at hlen;omega
    have hadd:bin BinOp.add false [] (T (mkT a)) (T ⟨#[10]⟩)=some (T (mkT a++⟨#[10]⟩)):=by
     rw [fT,if_pos (by rw [nu,sz1];omega)]
    simp -implicitDefEqProofs only [ai6,bH,aiV,if_false,aiT,cb,j1,j2,am,bz,ak,hadd,ir,aP,aH];by_cases he:lnT y (ckN c y)=mkT a++⟨#[10]⟩
    ·left
     have hw1:aiU.wrap ((a.length:Int)+1)=(a.length:Int)+1:=ah (by omega) (by omega);have hw2:aiU.wrap ((u:Int)+((a.length:Int)+1))=((u+(a.length+1):Nat):Int):=by rw [ah (by omega) (by omega)];omega
     simp -implicitDefEqProofs only [he,decide_true,ai6,aiV,if_false,hgd,and_self,if_true,j1,am,ak,dV,nu,aiT,bv,hw1,hw2] at hr ⊢;have hll:(l++[y]).length≤24:=by
      rw [ajo,ajC];exact(kC hgd).2
     have hdr:(ae s).drop (u+(a.length+1))=b:=by
      rw [←akm,hdrop];rw [←akm];simp
     refine⟨(l++[y],ckN c y,u+(a.length+1)),rfl,⟨hll,hck,by simp only;omega,?_⟩,by simp only;omega⟩
     simp -implicitDefEqProofs only [hdr];exact hr
    ·right
     refine⟨_,?_,rfl,rfl⟩
     rw [if_neg (fun g=>he g.2)] at hr;rw [←hr];simp -implicitDefEqProofs [he]
   ·right
    have hacc:QG l c (mkT a)=none:=by
     unfold QG;split
     ·rename_i hh
      exact absurd (by rw [hh];rfl) h4
     ·rfl
    rw [hacc] at hr;have h4':¬((fv (mkT a)).length:Int)=4:=by omega
    refine⟨_,?_,rfl,rfl⟩
    rw [←hr];simp -implicitDefEqProofs only [h4',decide_false,aju,if_true]
 ·rintro o rfl
  rfl
abbrev jo (s:ByteArray):List Nt × Nat:=iE (aW 10 (ae s)).dropLast [] 7 0
theorem PG:∀(ms:List (List UInt8)) (l:List Nt) (c:Int) (u:Nat),l.length≤24→(iE ms l c u).1.length≤24
 | [],_,_,_,h=>h
 | m::ms,l,c,u,h=>by
  simp only [iE];split
  ·rename_i x hx
   refine PG ms _ _ _ ?_
   rw [ajo,ajC];exact(kC (SM hx).1).2
  ·exact h
def aea (ms:List (List UInt8)):Nat:=(ms.map fun m=>m.length+1).sum
theorem Ld:∀(ms:List (List UInt8)) (l:List Nt) (c:Int) (u:Nat),(iE ms l c u).2≤u+aea ms
 | [],_,_,_=>akk _ _
 | m::ms,l,c,u=>by
  simp only [iE];split
  ·rename_i x hx
   refine Nat.le_trans (Ld ms _ _ _) ?_
   simp only [aea,ajb,aj7];omega
  ·exact akk _ _
theorem NT (c:UInt8):∀(l:List UInt8),aea (aW c l).dropLast≤l.length
 | []=>aiW _
 | x::l=>by
  have ih:=NT c l;simp only [aW];by_cases hx:x=c
  ·rw [if_pos hx,List.dropLast_cons_of_ne_nil (dv c l)]
   simp only [aea,ajb,aj7,ajY,ajg] at ih ⊢;omega
  ·rw [if_neg hx]
   cases hs:aW c l with
   | nil=>exact absurd hs (dv c l)
   | cons h t =>
    rw [hs] at ih;cases t with
    | nil=>exact ajn _
    | cons h2 t =>
     simp only [GU,List.dropLast_cons_cons,aea,ajb,aj7,ajg] at ih ⊢;omega
theorem aal (s:ByteArray):(jo s).2≤s.size:=by
 have h1:=Ld (aW 10 (ae s)).dropLast [] 7 0;have h2:=NT 10 (ae s);have h3:s.size=(ae s).length:=rfl;unfold jo;omega
theorem agV (s:ByteArray):(jo s).1.length≤24:=PG _ _ _ _ (ajn _)
theorem kt (s:ByteArray):gD [T s]=some (.ret [B (decide (s.size≤300))] []):=by
 rw [BG];have:((s.size:Int)≤300)=(s.size≤300):=by simp only [eq_iff_iff];omega
 simp [this]
theorem tp0 (l:List Nt) (ds:List D):ao (.tup (nts l::ds)) 0=some (nts l):=rfl
theorem aes (a:D) (n:Int) (ds:List D):ao (.tup (a::I n::ds)) 1=some (I n):=rfl
theorem ahU (a:D) (b:Bool) (ds:List D):ao (.tup (a::B b::ds)) 1=some (B b):=rfl
theorem tc0 (a:D) (ds:List D):dy (.tup (a::ds)) 0 = .tup (.bad::ds):=rfl
def jrS (s:ByteArray):List Nt × Bool:=if s.size≤300∧(jo s).2=s.size then((jo s).1,true) else([],false)
theorem iS (s:ByteArray) (h:s.size≤1048576):dS [T s]=some (.ret [nts (jrS s).1,B (jrS s).2] []):=by
 rw [Fj];have hu:=aal s;unfold jrS;by_cases hs:s.size≤300
 ·by_cases h2:(jo s).2=s.size
  ·have h2':¬((jo s).2:Int)<(s.size:Int):=by omega
   rw [if_pos ⟨hs,h2⟩];simp -implicitDefEqProofs only [kt,hs,decide_true,am,ak,bj,ai6,aiT,aH,aiV,if_false,wE s h,tp0,tc0,aes,dV,bg,h2',decide_false]
  ·have h2':((jo s).2:Int)<(s.size:Int):=by omega
   rw [if_neg (fun g=>h2 g.2)];simp -implicitDefEqProofs only [kt,hs,decide_true,am,ak,bj,ai6,aiT,aH,aiV,if_false,wE s h,tp0,tc0,aes,dV,bg,h2',if_true,be];rfl
 ·rw [if_neg (fun g=>hs g.1)]
  simp -implicitDefEqProofs only [kt,hs,decide_false,am,ak,bj,aju,aiT,aH,if_true,be];rfl
theorem iN (s:ByteArray) (h:s.size≤1048576):dR [T s]=some (.ret [nts (jrS s).1,B (jrS s).2] []):=by
 rw [Gk];have hu:=aal s;unfold jrS;by_cases hs:s.size≤300
 ·have hs':¬(300:Int)<(s.size:Int):=by omega
  by_cases h2:(jo s).2=s.size
  ·have h2':((jo s).2:Int)=(s.size:Int):=by omega
   rw [if_pos ⟨hs,h2⟩];simp -implicitDefEqProofs only [am,ak,aiT,aH,aiV,if_false,uW s h,tp0,tc0,aes,dV,eY,hs',bH,decide_false,iO,h2',decide_true,ai6,aP]
  ·have h2':¬((jo s).2:Int)=(s.size:Int):=by omega
   rw [if_neg (fun g=>h2 g.2)];simp -implicitDefEqProofs only [am,ak,aiT,aH,aiV,if_false,uW s h,tp0,tc0,aes,dV,eY,hs',bH,decide_false,iO,h2',aju,if_true,aP];rfl
 ·have hs':(300:Int)<(s.size:Int):=by omega
  rw [if_neg (fun g=>hs g.1)];simp -implicitDefEqProofs only [am,ak,aiT,aH,uW s h,tp0,tc0,aes,dV,eY,hs',bH,xi,decide_true,if_true,aP];rfl
open Go Go.V Go.RowKit Go.Shelf
def jT:List Nt→Int→ByteArray
 | [],_=>⟨#[]⟩
 | x::l,c=>lnT x (ckN c x)++jT l (ckN c x)
theorem Qa {x:Nt} {c:Int} (hx:lu x=true) (hc:0≤c∧c≤9972):(lnT x c).size≤44:=by
 obtain⟨h1,h2,h3⟩:=nG.1 hx;have s1:=bX 9 (n:=x.1) (by omega) (by omega);have s2:=bX 9 (n:=x.2.1) (by omega) (by omega);have s3:=bX 9 (n:=x.2.2) (by omega) (by omega);have s4:=bX 9 (n:=c) (by omega) (by omega);simp only [lnT,ai2,sz1];omega
theorem iZ {T e B b:Nat} {bs:List Value} {w w':World} (h:ajm T e B b bs w) (hB:Below w.heap.size w w'):ajm T e B b bs w':=by
 have key:∀p,ajL T e B b p bs w→ajL T e B b p bs w':=by
  rintro p h;have hlt:=h.lt;obtain⟨h1,v,h2,⟨h3,h4⟩,h5⟩:=h;refine⟨h1,v,(hB.block b hlt).trans h2,⟨h3,?_⟩,h5⟩
  rcases h4 with h4 | ⟨g,cap,cur,fz,g1,g2,g3,g4⟩
  ·exact .inl h4
  ·exact .inr ⟨g,cap,cur,fz,g1,g2,(hB.block g (ai8.1 g3).1).trans g3,g4⟩
 exact h.elim (fun h=>.inl (key _ h)) (fun h=>.inr (key _ h))
theorem mO {P:Program} {G:List (Nat × (Obj→Prop))} {f:FuncId} {S:FS} (he:∀args w,(callFunc f args).run P w = .ok (.enter f args) w) (hm:au G P f S) {ds:List D} {y:Value} (f':List D→Option Out) (hf':S.f=f') (hd:f' ds=some (.ret [.v y] [])) (hrm:S.rm=[.dat 0]) {args:Array Value} {w:World} {F:Nat→Prop}
  (hgl:gOk G w F) (ha:fB w F (fun _=>none) 0 S.pm ds args.toList) (hF:∀b,F b→b<w.heap.size):Calls P f args w fun e w'=>e = .returned y∧Below w.heap.size w w':=by
 refine(mh he hm (hf' ▸ hd) hgl ha (fun b hb=>⟨hF b hb,rfl⟩) (fun b i h=>by cases h)).mono ?_
 rintro e w' ⟨v,rfl,F',R,vs,rfl,hpost⟩;have hl:=hpost.len;rw [hrm] at hl;obtain⟨u,rfl⟩:=List.length_eq_one_iff.1 hl;have h0:=hpost.res 0;rw [hrm] at h0;simp only [aD,nth,List.getD_cons_zero] at h0;rcases h0 with h0 | h0
 ·cases h0
 exact⟨by rw [lA,(ct.1 h0).1],⟨hpost.os,hpost.tape,hpost.output,hpost.size,fun b hb=>hpost.keep b hb rfl⟩⟩
abbrev ntV (x:Nt):Value:=.agg #[.int .i64 x.1,.int .i64 x.2.1,.int .i64 x.2.2]
theorem ad2 {w:World} {F:Nat→Prop} (x:Nt):bU w F (nt x) (ntV x):=by
 refine⟨[.int .i64 x.1,.int .i64 x.2.1,.int .i64 x.2.2],rfl,?_⟩
 simp only [RepC];refine⟨?_,rfl⟩
 refine ax.2 ⟨[.int .i64 x.1],[.int .i64 x.2.1,.int .i64 x.2.2],rfl,by simp only [RepC];exact⟨trivial,rfl⟩,?_⟩
 refine ax.2 ⟨[.int .i64 x.2.1],[.int .i64 x.2.2],rfl,by simp only [RepC];exact⟨trivial,rfl⟩,?_⟩
 exact ax.2 ⟨[.int .i64 x.2.2],[],rfl,by simp only [RepC];exact⟨trivial,rfl⟩,aZ.2 rfl⟩
theorem YN {w:World} {F:Nat→Prop} (hF:∀b,F b→b<w.heap.size) (hgl:gOk gl0 w F) {c:Int} {x:Nt} (hc:0≤c∧c≤9972) (hx:lu x=true) :
  Calls Tryz.prog 89 #[.int .i64 c,ntV x] w fun e w'=>e = .returned (.int .i64 (ckN c x))∧Below w.heap.size w w' :=
 mO (ai4 Tryz.func89 (by kernel_rfl) rfl) GM lb rfl (Ht hc hx) rfl hgl (show eX w F _ (.dat 0) (I c) (.int .i64 c)∧eX w F _ (.dat 0) (nt x) (ntV x)∧True from⟨.inr (ct.2 ⟨rfl,rfl⟩),.inr (ad2 x),trivial⟩) hF
theorem RW {w:World} {F:Nat→Prop} (hF:∀b,F b→b<w.heap.size) (hgl:gOk gl1 w F) {c:Int} {x:Nt} (hc:0≤c∧c≤9972) (hx:lu x=true) :
  Calls Tryz.prog 88 #[ntV x,.int .i64 c] w fun e w'=>e = .returned (.string (lnT x c))∧Below w.heap.size w w' :=
 mO (ai4 Tryz.func88 (by kernel_rfl) rfl) yE jq rfl (yt hx hc) rfl hgl (show eX w F _ (.dat 0) (nt x) (ntV x)∧eX w F _ (.dat 0) (I c) (.int .i64 c)∧True from⟨.inr (ad2 x),.inr (ct.2 ⟨rfl,rfl⟩),trivial⟩) hF
theorem Fg (B b:Nat) (bs:List Value) (s:ByteArray) (w:World) (h:ajm 67 5 B b bs w) (hlen:bs.length+s.size≤140737488355328) (hBw:B≤w.heap.size) :
  Calls Tryz.prog 43 #[.pointer (some ⟨b,0,none⟩),.string s] w fun e w'=>e = .returned (.tuple #[.int .i64 s.size,.nilIface])∧(ajL 67 5 B b (.pointer (some ⟨b,0,none⟩)) (bs++Lib.strCells s) w'∧Below B w w'∧Lib.OthersKept 5 (some b) w w') :=
 Any.Builder_WriteString_k (ρ:=Tryz.lays156_ren) {Tryz.lays156 with} Tryz.Builder_Extra_156 B b bs s w h hlen hBw
theorem zZ (B b:Nat) (l:List UInt8) (w:World) (h:ajm 67 5 B b (ajx l) w) (hBw:B≤w.heap.size) :
  Calls Tryz.prog 44 #[.pointer (some ⟨b,0,none⟩)] w fun e w'=>e = .returned (.string ⟨l.toArray⟩)∧(ajm 67 5 B b (ajx l) w'∧Below B w w'∧Lib.OthersKept 5 (some b) w w') :=
 Any.Builder_String_any_k (ρ:=Tryz.lays156_ren) {Tryz.lays156 with} Tryz.Builder_Extra_156 B b l w h hBw
def Vm (x:Nt):List Value:=[.int .i64 x.1,.int .i64 x.2.1,.int .i64 x.2.2]
theorem ZI {w:World} {F:Nat→Prop}:∀(l:List Nt) (us:List Value),cm w F (l.map nt) us→us=l.flatMap Vm
 | [],us,h=>aZ.1 h
 | x::l,us,h=>by
  obtain⟨v1,v2,rfl,h1,h2⟩:=ax.1 h;rw [ZI l v2 h2];simp only [RepC] at h1;obtain⟨u1,r1,rfl,g1,h1⟩:=ax.1 h1.1;obtain⟨u2,r2,rfl,g2,h1⟩:=ax.1 h1;obtain⟨u3,r3,rfl,g3,h1⟩:=ax.1 h1;simp only [RepC] at g1 g2 g3;rw [g1.1,g2.1,g3.1,aZ.1 h1];rfl
theorem Tr {w:World} {b:Nat}:∀(l:List Nt) (o:Nat),cN w b o (l.flatMap Vm)→∀(i:Nat) (x:Nt),l[i]?=some x→cN w b (o+i*3) (Vm x)
 | [],_,_,i,x,hx=>by simp at hx
 | y::l,o,h,0,x,hx=>by
  simp only [ajd,aja] at hx;subst hx;intro j u hu;have:=h j u (by rw [ajQ,ajR (ajz.1 hu).1];exact hu);simpa using this
 | y::l,o,h,i+1,x,hx=>by
  have:=Tr l (o+3) (by
   have:=h.drop 3;exact this) i x (by simpa using hx)
  rw [show o+(i+1)*3=o+3+i*3 by omega];exact this
set_option maxHeartbeats 4000000 in
set_option maxRecDepth 1000000 in
theorem Kz (l:List Nt) (hg:∀x∈l,lu x=true) (hl:l.length≤1048576) (A:Option Addr) (c:Nat) (_hc:l.length≤c) (w:World) (F:Nat→Prop) (hF:∀b,F b→b<w.heap.size) (hgl:gOk gl1 w F)
  (hA:l≠[]→∃b o,A=some ⟨b,o,none⟩∧F b∧∀(i:Nat) (x:Nt),l[i]?=some x→cN w b (o+i*3) (Vm x)) :
  Calls Tryz.prog 233 #[.slice A l.length c] w fun e w'=>e = .returned (.string (jT l 7))∧Below w.heap.size w w':=by
 go_enter Tryz.func233,Tryz.ntmps233
 go_wp2
 go_loopw [4,9] (fun v4 v9 wr=>∃(i:Nat) (cc:Int) (acc:List UInt8),v4 = .int .i64 cc∧v9 = .int .i64 i∧i≤l.length∧(0≤cc∧cc≤9972)∧ajm 67 5 w.heap.size w.heap.size (ajx acc) wr∧Below w.heap.size w wr∧acc++ae (jT (l.drop i) cc)=ae (jT l 7)∧acc.length≤44*i) (fun v4 v9 wr=>l.length - (match v9 with | .int _ n=>n.toNat | _=>0))
 case atStart =>
  exact⟨0,7,[],rfl,rfl,ajn _,by decide,ake (aj9 67 5 w),(aj4 _ w).alloc (aiW _) _,rfl,aiW _⟩
 case round =>
  obtain⟨i,cc,acc,rfl,rfl,hi,hcc,hI,hbw,hacc,hal⟩:=hrel;by_cases hp:i<l.length
  ·have hpi:(i:Int)<(l.length:Int):=by omega
   obtain⟨b,o,rfl,hb,hcell⟩:=hA (fun h=>by rw [h] at hp;exact absurd hp (akl _));have hcl:=hcell i l[i] (ajc hp);have hbw0:wr.heap[b]?=w.heap[b]?:=hbw.block b (hF b hb);have c0:wr.cell? ⟨b,o+i*3,none⟩=some (.int .i64 l[i].1):=(ajp hbw0).trans (hcl 0 _ rfl);have c1:wr.cell? ⟨b,o+i*3+1,none⟩=some (.int .i64 l[i].2.1):=(ajp hbw0).trans (hcl 1 _ rfl);have c2:wr.cell? ⟨b,o+i*3+2,none⟩=some (.int .i64 l[i].2.2):=(ajp hbw0).trans (hcl 2 _ rfl);have hx:lu l[i]=true:=hg _ (ajk hp);have hI0:=hI.alloc (.cells #[.int .i64 l[i].1,.int .i64 l[i].2.1,.int .i64 l[i].2.2] 121);have hb0:Below w.heap.size w (wr.alloc (.cells #[.int .i64 l[i].1,.int .i64 l[i].2.1,.int .i64 l[i].2.2] 121)):=hbw.alloc hbw.size _;have hk0:(wr.alloc (.cells #[.int .i64 l[i].1,.int .i64 l[i].2.1,.int .i64 l[i].2.2] 121)).heap[wr.heap.size]?=some (.cells #[.int .i64 l[i].1,.int .i64 l[i].2.1,.int .i64 l[i].2.2] 121):=ajT;have hck:=pi cc l[i];have hcall1:=YN (F:=F) (fun b hb=>ajN (hF b hb) hb0.size) (iu (fun _ h=>h) (fun b hb=>hb0.block b (hF b hb)) (fun p hp=>hgl p (JP p hp))) hcc hx
   go_wp2_with (go_at_call 89;refine hcall1.mono ?_)
   rintro e W1 ⟨rfl,b1⟩;have hI1:=iZ hI0 b1;have hb1:=hb0.trans (b1.mono hb0.size);generalize hW0:wr.alloc (.cells #[.int .i64 l[i].1,.int .i64 l[i].2.1,.int .i64 l[i].2.2] 121)=W0 at *;have hk1:W1.heap[wr.heap.size]?=some (.cells #[.int .i64 l[i].1,.int .i64 l[i].2.1,.int .i64 l[i].2.2] 121):=(b1.block _ (ai8.1 hk0).1).trans hk0;have d0:W1.cell? ⟨wr.heap.size,0,none⟩=some (.int .i64 l[i].1):=by rw [ai7 hk1];rfl
   have d1:W1.cell? ⟨wr.heap.size,1,none⟩=some (.int .i64 l[i].2.1):=by rw [ai7 hk1];rfl
   have d2:W1.cell? ⟨wr.heap.size,2,none⟩=some (.int .i64 l[i].2.2):=by rw [ai7 hk1];rfl
   have hcall2:=RW (F:=F) (fun b hb=>ajN (hF b hb) hb1.size) (iu (fun _ h=>h) (fun b hb=>hb1.block b (hF b hb)) hgl) hck hx
   go_wp2_with (go_at_call 88;refine hcall2.mono ?_)
   rintro e W2 ⟨rfl,b2⟩;have hI2:=iZ hI1 b2;have hb2:=hb1.trans (b2.mono hb1.size);have hcall3:=Fg w.heap.size w.heap.size _ (lnT l[i] (ckN cc l[i])) _ hI2 (by rw [aj5];have:=Qa hx hck;omega) hb2.size
   go_wp2_with (go_at_call 43;refine hcall3.mono ?_)
   rintro e W3 ⟨rfl,hI3,b3,_⟩
   go_wp2
   have hdr:ae (jT (l.drop i) cc)=ae (lnT l[i] (ckN cc l[i]))++ae (jT (l.drop (i+1)) (ckN cc l[i])):=by
    rw [ajy hp];simp only [jT,bh]
   have hsz:(ae (lnT l[i] (ckN cc l[i]))).length≤44:=Qa hx hck;refine⟨⟨i+1,ckN cc l[i],acc++ae (lnT l[i] (ckN cc l[i])),rfl,congrArg (ajj .i64) (by omega),by omega,hck,?_,hb2.trans b3,?_,?_⟩,?_⟩
   ·rw [aj6]
    exact Or.inr hI3
   ·rw [←hacc,hdr,ajh]
   ·rw [ajo]
    omega
   ·show l.length - ((i:Int)+1).toNat<l.length - (i:Int).toNat
    omega
  ·have hpi:¬(i:Int)<(l.length:Int):=by omega
   have hcall4:=zZ w.heap.size w.heap.size acc _ hI hbw.size
   go_wp2_with (go_at_call 44;refine hcall4.mono ?_)
   intro e W1 he h1 b1 k1;subst he
   go_wp2
   go_ret
   rw [ajA (by omega)] at hacc;refine⟨?_,hbw.trans b1⟩
   have:acc=ae (jT l 7):=by rw [←hacc];simp [jT,ae]
   rw [this,nQ];rfl
def agv:D→Option Nt
 | .agg [.v (.int .i64 a),.v (.int .i64 b),.v (.int .i64 c)]=>some (a,b,c)
 | _=>none
theorem abm {d:D} {x:Nt} (h:agv d=some x):d=nt x:=by
 unfold agv at h;split at h
 ·cases h;rfl
 ·cases h
def SL:List D→Option (List Nt)
 | []=>some []
 | d::l=>(agv d).bind fun x=>(SL l).map (x::·)
theorem Pt:∀(ds:List D) (l:List Nt),SL ds=some l→ds=l.map nt
 | [],l,h=>by cases h;rfl
 | d::ds,l,h=>by
  simp only [SL,ai3,ai9] at h;obtain⟨x,h1,m,h2,rfl⟩:=h;rw [abm h1,Pt ds m h2];rfl
theorem Sj:∀(l:List Nt),SL (l.map nt)=some l
 | []=>rfl
 | x::l=>by
  simp only [ajb,SL,Sj l];rfl
def se:List D→Option Out
 | [.arr _ ds]=>(SL ds).bind fun l=>if (∀x∈l,lu x=true)∧l.length≤1048576 then some (.ret [T (jT l 7)] []) else none
 | _=>none
@[reducible] def sB:FS:={pm:=[.dat 2],rm:=[.dat 0],f:=se}
theorem FF:au gl1 Tryz.prog 233 sB:=by
 have he:∀args w,(callFunc 233 args).run Tryz.prog w = .ok (.enter 233 args) w:=ai4 Tryz.func233 (by kernel_rfl) rfl;refine cd he fun ds rs us hd args w F ow hg ha hF _=>?_
 obtain⟨d,y,rfl,h2,h3⟩:=ny ha;replace hd:se [d]=some (.ret rs us):=hd;unfold se at hd;split at hd
 case h_2=>cases hd
 rename_i z ds e;cases e;obtain⟨l,hl,hd⟩:=ai3.1 hd;split at hd
 case isFalse=>cases hd
 rename_i hz;cases hd;obtain rfl:=Pt _ _ hl;rcases h3 with h3 | h3
 ·cases h3
 simp only [bU,RepC] at h3;obtain⟨A,c,us,hy,hc,hr,_,hA⟩:=h3;simp only [ajZ,and_true] at hy;subst hy;rw [ZI l us hr] at hA;rw [GX h2];rw [aiX] at hc ⊢;refine(Kz l hz.1 hz.2 A c hc w F (fun b hb=>(hF b hb).1) hg (fun hne=>?_)).mono ?_
 ·obtain⟨b,o,rfl,h5,h6⟩:=hA (by simpa using hne)
  exact⟨b,o,rfl,h5,Tr l o h6⟩
 ·rintro e w' ⟨rfl,hB⟩
  refine⟨_,rfl,F,_,[_],rfl,fm hB hF rfl rfl [_] [_] rfl rfl fun j d hj=>?_⟩
  match j,hj with
  | 0,hj =>
   simp only [ajd,aja] at hj;subst hj;exact⟨_,rfl,ct.2 ⟨rfl,rfl⟩⟩
end Go.Proofs.YtjafgdefcggjcaaGreatDoor

namespace Go.Proofs.YtjafgdefcggjcaaGreatDoor
open Go Go.Proofs Go.V Go.RowKit Go.Sort
def inI (x:Int):Prop:=-9223372036854775808≤x∧x≤9223372036854775807
instance (x:Int):Decidable (inI x):=by unfold inI;infer_instance
def FY:List D→Option (List Int)
 | []=>some []
 | .v (.int .i64 a)::l=>if inI a then(FY l).map (a::·) else none
 | _=>none
theorem VK:∀(ds:List D) (l:List Int),FY ds=some l→ds=l.map (fun n=>I n)∧∀x∈l,inI x:=by
 intro ds;induction ds with
 | nil=>intro l h;cases h;simp
 | cons d ds ih =>
  intro l h;unfold FY at h;split at h
  ·rename_i e;cases e
  ·rename_i a m e
   cases e;split at h
   ·rename_i ha
    obtain⟨m',h2,rfl⟩:=ai9.1 h;obtain⟨g1,g2⟩:=ih m' h2;rw [g1];refine⟨rfl,fun x hx=>?_⟩
    rcases aji.1 hx with rfl | hx
    ·exact ha
    ·exact g2 x hx
   ·cases h
  ·cases h
theorem Oz:∀(l:List Int),(∀x∈l,inI x)→FY (l.map fun n=>I n)=some l
 | [],_=>rfl
 | x::l,h=>by
  simp only [ajb,FY];rw [if_pos (h x (by simp)),Oz l fun y hy=>h y (by simp [hy])];rfl
theorem We {w:World} {F:Nat→Prop}:∀(l:List Int) (us:List Value),cm w F (l.map fun n=>I n) us→us=l.map fun n=>.int .i64 n
 | [],us,h=>aZ.1 h
 | x::l,us,h=>by
  obtain⟨v1,v2,rfl,h1,h2⟩:=ax.1 h;simp only [RepC] at h1;rw [We l v2 h2,h1.1];rfl
theorem pd {w:World} {F:Nat→Prop}:∀(l:List Int),cm w F (l.map I) (l.map (ajj .i64))
 | []=>aZ.2 rfl
 | x::l=>ax.2 ⟨[.int .i64 x],l.map (ajj .i64),rfl,by simp only [RepC];exact⟨trivial,rfl⟩,pd l⟩
def RL (l:List Int):List Int:=l.mergeSort fun x y=>decide (x≤y)
theorem VV (l:List Int):(RL l).length=l.length:=List.length_mergeSort l
theorem aaW {w:World} {g off n:Nat} {os:Array Obj} {dk:Array Int} {cur:Array Value} {t:Nat} (hg:w.heap[g]?=some (.cells cur t (0,0))) (hs:off+dk.size≤cur.size) :
  ∃cur',(grow (putRow (ajj .i64) (Go.Sort.ahead w n) g off dk) os).heap[g]?=some (.cells cur' t (0,0))∧cur'.size=cur.size∧∀(i:Nat) (u:Value),(dk.toList.map (ajj .i64))[i]?=some u→cur'[off+i]?=some u:=by
 have hb:g<w.heap.size:=(ai8.1 hg).1;refine⟨ajU (ajj .i64) off dk cur,?_,by simp [ajU],fun i u hu=>?_⟩
 ·rw [heap_grow_old _ _ (by rw [size_putRow];exact hb)]
  unfold putRow mapBlock;show(w.heap.modify g _)[g]?=_
  rw [Array.getElem?_modify,if_pos rfl,hg];rfl
 ·simp only [akf,ai9] at hu
  obtain⟨x,hx,rfl⟩:=hu;rw [Array.getElem?_toList] at hx;obtain⟨hi,hx⟩:=ai8.1 hx;have hic:off+i<cur.size:=by omega
  unfold ajU;rw [Array.getElem?_mapIdx,Array.getElem?_eq_getElem hic];simp [hi,hx]
theorem aaV {w:World} {g off n:Nat} {os:Array Obj} {dk:Array Int} {k:Nat} (hk:k<w.heap.size) (hne:k≠g):(grow (putRow (ajj .i64) (Go.Sort.ahead w n) g off dk) os).heap[k]?=w.heap[k]?:=by
 rw [heap_grow_old _ _ (by rw [size_putRow];exact hk)];unfold putRow mapBlock;show(w.heap.modify g _)[k]?=_
 rw [Array.getElem?_modify,if_neg (fun e=>hne e.symm)]
def Jv:List D→Option Out
 | [.arr z ds]=>if z=1 then(FY ds).bind fun l=>if l.length≤1048576 then some (.ret [] [oo (RL l)]) else none else none
 | _=>none
@[reducible] def KK:FS:={pm:=[.own 1 0 true],rm:=[],f:=Jv}
theorem Xj:au gl0 Tryz.prog 235 KK:=by
 have he:∀args w,(callFunc 235 args).run Tryz.prog w = .ok (.enter 235 args) w:=ai4 Tryz.func235 (by kernel_rfl) rfl;refine cd he fun ds rs us hd args w F ow hg ha hF hO=>?_
 obtain⟨d,y,rfl,h2,h3⟩:=ny ha;replace hd:Jv [d]=some (.ret rs us):=hd;unfold Jv at hd;split at hd
 case h_2=>cases hd
 rename_i z ds e;cases e;split at hd
 case isFalse=>cases hd
 rename_i hz1;subst hz1;obtain⟨l,hl,hd'⟩:=ai3.1 hd;clear hd;split at hd'
 case isFalse=>cases hd'
 rename_i hz;cases hd';obtain⟨rfl,hin⟩:=VK _ _ hl;rcases h3 with h3 | h3
 ·cases h3
 replace h3:lL w (FB F 0 0) (fun g=>ow g=some 0) 1 (.arr 1 (l.map fun n=>I n)) y:=h3;obtain⟨l',e,hw,h3⟩:=h3;cases e;rw [GX h2];have hfl:∀x∈l.map (fun n=>I n),x.width=1:=fun x hx=>by
  obtain⟨s,_,rfl⟩:=akc.1 hx;rfl
 have hfl2:∀x∈(RL l).map (fun n=>I n),x.width=1:=fun x hx=>by
  obtain⟨s,_,rfl⟩:=akc.1 hx;rfl
 rcases h3 with ⟨rfl,hnil⟩ | ⟨g,o,c,us',cs,e,rfl,h4,h5,h6,h7,h8,h9⟩
 ·have hl0:l=[]:=by simpa using hnil
  subst hl0;refine(Any.sort_Ints_none Tryz.lays191 none 0 w).mono ?_
  rintro e w' ⟨rfl,rfl⟩;refine⟨_,rfl,F,fun _=>none,[],rfl,⟨rfl,rfl,rfl,aiW _,fun _ _ _=>rfl,fun _ h=>h,fun b hb=>⟨.inl hb,(hF b hb).1,rfl⟩,fun b j h=>(by cases h),rfl,rfl,fun j=>.inl rfl,?_⟩⟩
  exact⟨by simp,.inr ⟨[],by simp [RL],fun x hx=>(by cases hx),.inl ⟨rfl,rfl⟩⟩,trivial⟩
 ·have hgl:g<w.heap.size:=(ai8.1 h5).1
  have hus:=We l us' h7;subst hus;rw [aiX] at h4;have hH:Holds (ajj .i64) w g o l.toArray:=fun j hj=>by
   have hj':j<l.length:=by simpa using hj
   refine⟨?_,Lib.frozen_of_heap h5 _⟩
   rw [ai7 h5];refine(h8 j (.int .i64 l[j]) (by simp [hj'])).trans ?_
   simp [hj']
  have hc:=Any.sort_Ints Tryz.lays191 g o c l w hH hgl (by omega);rw [aiX];refine Calls.mono hc ?_
  rintro e w' ⟨rfl,n,os,rfl⟩;have hlen:=VV l;obtain⟨cur',c1,c2,c3⟩:=aaW (off:=o) (n:=n) (os:=os) (dk:=(RL l).toArray) h5 (by simp;omega);refine⟨_,rfl,F,fun _=>none,[],rfl,⟨rfl,rfl,rfl,by rw [size_grow,size_putRow];show w.heap.size≤w.heap.size+_;omega,fun b hb hob=>aaV hb (fun e=>by rw [e,h9] at hob;cases hob),fun _ h=>h,fun b hb=>⟨.inl hb,?_,rfl⟩,fun b j h=>(by cases h),rfl,rfl,fun j=>.inl rfl,?_⟩⟩
  ·have:=(hF b hb).1
   rw [size_grow,size_putRow];show b<w.heap.size+_
   omega
  ·refine⟨by simp,.inr ⟨(RL l).map (fun n=>I n),rfl,hfl2,.inr ⟨g,o,c,(RL l).map (ajj .i64),cur',e,by rw [aiX,hlen],by rw [aiX,hlen];exact h4,c1,by omega,pd _,fun i u hu=>c3 i u (by simpa using hu),trivial⟩⟩,trivial⟩
end Go.Proofs.YtjafgdefcggjcaaGreatDoor

namespace Go.Proofs.YtjafgdefcggjcaaGreatDoor
open Go Go.V Go.RowKit Go.Maps
def DOf:List (ByteArray × ByteArray)→DataW Unit
 | []=>.map []
 | x::E=>(DOf E).put (.string x.1.data.toList) (.lit (.string x.2.data.toList))
def fy:List (ByteArray × ByteArray)→ByteArray→Option ByteArray
 | [],_=>none
 | x::E,k=>if k=x.1 then some x.2 else fy E k
theorem YG {a b:ByteArray} (h:a.data.toList=b.data.toList):a=b:=by
 cases a with | mk a=>cases b with | mk b =>
  cases a with | mk a=>cases b with | mk b =>
   simp at h;rw [h]
theorem YB:∀E,IsMap (DOf E)
 | []=>⟨_,rfl⟩
 | x::E=>by
  obtain⟨es,he⟩:=YB E;simp only [DOf,he];exact⟨_,rfl⟩
theorem ab0 (k:ByteArray):∀E,(DOf E).atKey (.string k.data.toList) (.lit (.string [])) = .lit (.string ((fy E k).getD ⟨#[]⟩).data.toList)∧Maps.has (DOf E) (.string k.data.toList)=(fy E k).isSome
 | []=>⟨by simp [DOf,fy,DataW.atKey],by simp [DOf,fy,Maps.has]⟩
 | x::E=>by
  by_cases h:k=x.1
  ·subst h
   have hk:WideAt.IsKeyLit (.string x.1.data.toList):=trivial;refine⟨?_,?_⟩
   ·simp only [DOf,fy,if_true,ajB]
    rw [atKey_put_same (YB E) hk]
   ·simp only [DOf,fy,if_true,ajM]
    exact has_put_same (YB E) hk _
  ·have hne:(Lit.string k.data.toList) ≠ .string x.1.data.toList:=fun e=>h (YG (by injection e))
   obtain⟨h1,h2⟩:=ab0 k E;refine⟨?_,?_⟩
   ·simp only [DOf,fy,h,if_false]
    rw [atKey_put_other hne,h1]
   ·simp only [DOf,fy,h,if_false]
    rw [has_put_other hne,h2]
theorem aaC:Keyed Tryz.prog 9:=string_keyed Tryz.underlying9
theorem hD {w:World} {b n:Nat} {E:List (ByteArray × ByteArray)} (h:w.ownsMap Tryz.prog 9 (plainElem Tryz.prog 9) b n (DOf E)) (hn:n≤100) (kk vv:ByteArray) (hk:kk.size≤100) (hv:vv.size≤100) :
  ∃w',(Instr.mapUpdate 172 (.map (some b)) (.string kk) (.string vv)).run Tryz.prog w = .ok () w'∧w'.ownsMap Tryz.prog 9 (plainElem Tryz.prog 9) b (n+1) (DOf ((kk,vv)::E))∧w.grownBy w' (some b) :=
 h.update aaC Tryz.underlying172 (by unfold maxLen;omega) (WideMaps.keyOf_string_mk Tryz.underlying9 (by unfold maxLen;omega)) (plainElem_string Tryz.underlying9 (by unfold maxLen;omega))
theorem acq (w:World):(zeroValue 9).run Tryz.prog w = .ok (.string ⟨#[]⟩) w:=by kernel_rfl
def shE:List (ByteArray × ByteArray):=[(⟨#[115,99,104,101,109,101]⟩,⟨#[]⟩),(⟨#[102,111,108,100]⟩,⟨#[78]⟩),(⟨#[108,101,97,115,116]⟩,⟨#[78]⟩),(⟨#[109,101,116,97,108]⟩,⟨#[78,78]⟩),(⟨#[110,111,116,101]⟩,⟨#[78,78,78]⟩),(⟨#[100,114,105,102,116]⟩,⟨#[]⟩),(⟨#[109,101,100,105,97,110]⟩,⟨#[]⟩),(⟨#[111,102,102]⟩,⟨#[78]⟩),(⟨#[109,105,115,115,105,110,103]⟩,⟨#[78]⟩),(⟨#[99,117,116]⟩,⟨#[78,78]⟩),(⟨#[114,117,108,101]⟩,⟨#[78]⟩),(⟨#[115,116,111,99,107]⟩,⟨#[84]⟩),(⟨#[115,104,97,114,101,115]⟩,⟨#[]⟩),(⟨#[116,97,107,101]⟩,⟨#[78]⟩),(⟨#[106,111,105,110]⟩,⟨#[84]⟩),(⟨#[109,101,108,116]⟩,⟨#[84]⟩)]
set_option maxHeartbeats 4000000 in
set_option maxRecDepth 1000000 in
theorem TO (word:ByteArray) (hs:word.size≤1048576) (w:World) :
  Calls Tryz.prog 115 #[.string word] w fun e w'=>e = .returned (.tuple #[.string ((fy shE word).getD ⟨#[]⟩),.bool (fy shE word).isSome])∧Below w.heap.size w w':=by
 have hmm:=@run_makeMap Tryz.prog;have o0:=World.ownsMap_made w Tryz.prog 9 (plainElem (H:=Unit) Tryz.prog 9);have b0:=(aj4 w.heap.size w).alloc (aiW _) (.map #[] 0);replace o0:(w.alloc (.map #[] 0)).ownsMap Tryz.prog 9 (plainElem Tryz.prog 9) w.heap.size 0 (DOf []):=o0;obtain⟨W1,r1,o1,g1⟩:=hD o0 (by omega) ⟨#[109,101,108,116]⟩ ⟨#[84]⟩ (by decide) (by decide);have b1:=b0.grown g1 b0.size (fun j hj=>by cases hj;exact aiW _);obtain⟨W2,r2,o2,g2⟩:=hD o1 (by omega) ⟨#[106,111,105,110]⟩ ⟨#[84]⟩ (by decide) (by decide);have b2:=b1.grown g2 b1.size (fun j hj=>by cases hj;exact aiW _);obtain⟨W3,r3,o3,g3⟩:=hD o2 (by omega) ⟨#[116,97,107,101]⟩ ⟨#[78]⟩ (by decide) (by decide);have b3:=b2.grown g3 b2.size (fun j hj=>by cases hj;exact aiW _);obtain⟨W4,r4,o4,g4⟩:=hD o3 (by omega) ⟨#[115,104,97,114,101,115]⟩ ⟨#[]⟩ (by decide) (by decide);have b4:=b3.grown g4 b3.size (fun j hj=>by cases hj;exact aiW _);obtain⟨W5,r5,o5,g5⟩:=hD o4 (by omega) ⟨#[115,116,111,99,107]⟩ ⟨#[84]⟩ (by decide) (by decide);have b5:=b4.grown g5 b4.size (fun j hj=>by cases hj;exact aiW _);obtain⟨W6,r6,o6,g6⟩:=hD o5 (by omega) ⟨#[114,117,108,101]⟩ ⟨#[78]⟩ (by decide) (by decide);have b6:=b5.grown g6 b5.size (fun j hj=>by cases hj;exact aiW _);obtain⟨W7,r7,o7,g7⟩:=hD o6 (by omega) ⟨#[99,117,116]⟩ ⟨#[78,78]⟩ (by decide) (by decide);have b7:=b6.grown g7 b6.size (fun j hj=>by cases hj;exact aiW _);obtain⟨W8,r8,o8,g8⟩:=hD o7 (by omega) ⟨#[109,105,115,115,105,110,103]⟩ ⟨#[78]⟩ (by decide) (by decide);have b8:=b7.grown g8 b7.size (fun j hj=>by cases hj;exact aiW _);obtain⟨W9,r9,o9,g9⟩:=hD o8 (by omega) ⟨#[111,102,102]⟩ ⟨#[78]⟩ (by decide) (by decide);have b9:=b8.grown g9 b8.size (fun j hj=>by cases hj;exact aiW _);obtain⟨W10,r10,o10,g10⟩:=hD o9 (by omega) ⟨#[109,101,100,105,97,110]⟩ ⟨#[]⟩ (by decide) (by decide);have b10:=b9.grown g10 b9.size (fun j hj=>by cases hj;exact aiW _);obtain⟨W11,r11,o11,g11⟩:=hD o10 (by omega) ⟨#[100,114,105,102,116]⟩ ⟨#[]⟩ (by decide) (by decide);have b11:=b10.grown g11 b10.size (fun j hj=>by cases hj;exact aiW _);obtain⟨W12,r12,o12,g12⟩:=hD o11 (by omega) ⟨#[110,111,116,101]⟩ ⟨#[78,78,78]⟩ (by decide) (by decide);have b12:=b11.grown g12 b11.size (fun j hj=>by cases hj;exact aiW _);obtain⟨W13,r13,o13,g13⟩:=hD o12 (by omega) ⟨#[109,101,116,97,108]⟩ ⟨#[78,78]⟩ (by decide) (by decide);have b13:=b12.grown g13 b12.size (fun j hj=>by cases hj;exact aiW _);obtain⟨W14,r14,o14,g14⟩:=hD o13 (by omega) ⟨#[108,101,97,115,116]⟩ ⟨#[78]⟩ (by decide) (by decide);have b14:=b13.grown g14 b13.size (fun j hj=>by cases hj;exact aiW _);obtain⟨W15,r15,o15,g15⟩:=hD o14 (by omega) ⟨#[102,111,108,100]⟩ ⟨#[78]⟩ (by decide) (by decide);have b15:=b14.grown g15 b14.size (fun j hj=>by cases hj;exact aiW _);obtain⟨W16,r16,o16,g16⟩:=hD o15 (by omega) ⟨#[115,99,104,101,109,101]⟩ ⟨#[]⟩ (by decide) (by decide);have b16:=b15.grown g16 b15.size (fun j hj=>by cases hj;exact aiW _);obtain⟨v,ps,rl,hv⟩:=o16.look_ok aaC Tryz.underlying172 (acq W16) (plainElem_string Tryz.underlying9 (by unfold maxLen;decide)) (WideMaps.keyOf_string_mk Tryz.underlying9 (s:=word) (by unfold maxLen;omega));obtain⟨s,rfl,hs2,_⟩:=plainElem_string_inv Tryz.underlying9 hv;obtain⟨a1,a2⟩:=ab0 word shE;have hE:DOf shE=DOf [(⟨#[115,99,104,101,109,101]⟩,⟨#[]⟩),(⟨#[102,111,108,100]⟩,⟨#[78]⟩),(⟨#[108,101,97,115,116]⟩,⟨#[78]⟩),(⟨#[109,101,116,97,108]⟩,⟨#[78,78]⟩),(⟨#[110,111,116,101]⟩,⟨#[78,78,78]⟩),(⟨#[100,114,105,102,116]⟩,⟨#[]⟩),(⟨#[109,101,100,105,97,110]⟩,⟨#[]⟩),(⟨#[111,102,102]⟩,⟨#[78]⟩),(⟨#[109,105,115,115,105,110,103]⟩,⟨#[78]⟩),(⟨#[99,117,116]⟩,⟨#[78,78]⟩),(⟨#[114,117,108,101]⟩,⟨#[78]⟩),(⟨#[115,116,111,99,107]⟩,⟨#[84]⟩),(⟨#[115,104,97,114,101,115]⟩,⟨#[]⟩),(⟨#[116,97,107,101]⟩,⟨#[78]⟩),(⟨#[106,111,105,110]⟩,⟨#[84]⟩),(⟨#[109,101,108,116]⟩,⟨#[84]⟩)]:=rfl;rw [←hE] at hs2 rl;rw [show(⟨#[]⟩:ByteArray).data.toList=[] from rfl] at hs2;rw [a1] at hs2;rw [a2] at rl;have hse:((fy shE word).getD ⟨#[]⟩)=s:=by
  injection hs2 with h1 h2;injection h1 with h1;injection h1 with h1;exact YG h1
 rw [hse];generalize (fy shE word).isSome=q at rl;clear hs2 hv a1 a2 hse hE
 go_enter Tryz.func115,Tryz.ntmps115
 go_wp2
 go_ret2
 exact⟨rfl,b16⟩
def Ae (d:D):Option ByteArray:=match d with
 | .v x=>(match x with
  | .string s=>some s
  | _=>none)
 | _=>none
theorem Gl {d:D} {s:ByteArray} (h:Ae d=some s):d=T s:=by
 unfold Ae at h;split at h
 ·split at h
  ·cases h;rfl
  ·cases h
 ·cases h
def Oq (ds:List D):Option Out:=match ds with
 | [d]=>(Ae d).bind fun s=>if s.size≤1048576 then some (.ret [T ((fy shE s).getD ⟨#[]⟩),B (fy shE s).isSome] []) else none
 | _=>none
@[reducible] def Nn:FS:={pm:=[.dat 0],rm:=[.dat 0,.dat 0],f:=Oq}
theorem Nc:au gl0 Tryz.prog 115 Nn:=by
 have he:∀args w,(callFunc 115 args).run Tryz.prog w = .ok (.enter 115 args) w:=ai4 Tryz.func115 (by kernel_rfl) rfl;refine cd he fun ds rs us hd args w F ow hg ha hF _=>?_
 obtain⟨d,y,rfl,h2,h3⟩:=ny ha;replace hd:Oq [d]=some (.ret rs us):=hd;obtain⟨s,hs,hd'⟩:=ai3.1 hd;clear hd;obtain rfl:=Gl hs;split at hd'
 case isFalse=>cases hd'
 rename_i hz;cases hd';obtain⟨rfl,_⟩:=Fk h3;rw [GX h2];refine(TO s hz w).mono ?_
 rintro e w' ⟨rfl,hB⟩;refine⟨_,rfl,F,_,[_,_],rfl,fm hB hF rfl rfl [_,_] [_,_] rfl rfl fun j d hj=>?_⟩
 match j,hj with
 | 0,hj =>
  simp only [ajd,aja] at hj;subst hj;exact⟨_,rfl,ct.2 ⟨rfl,rfl⟩⟩
 | 1,hj =>
  simp only [List.getElem?_cons_succ,ajd,aja] at hj;subst hj;exact⟨_,rfl,ct.2 ⟨rfl,rfl⟩⟩
end Go.Proofs.YtjafgdefcggjcaaGreatDoor

namespace Go.Proofs.YtjafgdefcggjcaaGreatDoor
open Go Go.V
theorem BU {n:Int} (h:0<n):ae (aI (-n))=45::ae (aI n):=by
 rw [jl n (by omega)];unfold aI Lib.itoa;rw [if_pos (by omega),cS];congr 2
 omega
theorem aef {n:Int} (h0:0<n) (h1:n<1000000000000000000):ajq (ae (aI (-n))) = .ok (-n):=by
 have hp:=Tq n.toNat (by omega);rw [BU h0,jl n (by omega)];unfold ajq;simp only;have e45:(45:UInt8).toNat=45:=rfl;rw [if_pos (by rw [e45];omega)];unfold Lib.parseMag;rw [if_neg (kQ _),hp];simp only [e45];rw [if_neg (by simp),if_neg (by omega),if_pos trivial];congr 1
 omega
def Ar (w:ByteArray):Option Int:=match ajq (ae w) with
 | .ok v=>if (-999999≤v∧v≤999999)∧aI v=w then some v else none
 | _=>none
def Mg (w:ByteArray):Option Int :=
 if 1<w.size∧(ae w).head?=some 45 then(if 0<bY (w.extract 1 w.size) then some (-bY (w.extract 1 w.size)) else none)
 else if 0≤bY w then some (bY w) else none
theorem PE (w:ByteArray):bY w<1000000:=by
 unfold bY EC;split
 ·rename_i h
  have:=UB (ae w).length (ae w) rfl (List.all_eq_true.1 h.2.2);have:10 ^ (ae w).length≤10 ^ 6:=Nat.pow_le_pow_right (by decide) h.1.2;omega
 ·omega
theorem adF {n:Int} (h:0≤n):(ae (aI n)).head?≠some 45:=by
 obtain⟨h1,h2⟩:=gq h;intro e;have hm:(45:UInt8)∈ae (aI n):=List.mem_of_head? e;have:=h2 45 hm;revert this;decide
theorem aaH {w:ByteArray} {a:UInt8} {l:List UInt8} (h:ae w=a::l):ae (w.extract 1 w.size)=l:=by
 rw [fa,cZ,h];simp
theorem ad4 {v:Int} (h : -999999≤v∧v≤999999):Ar (aI v)=some v:=by
 unfold Ar;by_cases h0:0≤v
 ·rw [SD h0 (by omega)]
  simp only [h,and_self,if_true]
 ·have:=aef (n:=-v) (by omega) (by omega)
  rw [akh] at this;rw [this];simp only [h,and_self,if_true]
theorem adP {v:Int} (h : -999999≤v∧v≤999999):Mg (aI v)=some v:=by
 unfold Mg;by_cases h0:0≤v
 ·rw [if_neg (fun g=>adF h0 g.2),oU h0 (by omega),if_pos h0]
 ·have e:=BU (n:=-v) (by omega)
  rw [akh] at e;have hx:(aI v).extract 1 (aI v).size=aI (-v):=bP (aaH e);have hs:1<(aI v).size:=by
   rw [cZ,e,ajg];have:=ajK.2 (gq (n:=-v) (by omega)).1;omega
  rw [if_pos ⟨hs,by rw [e];rfl⟩,hx,oU (by omega) (by omega),if_pos (by omega),akh]
theorem SQ {w:ByteArray} {v:Int} (h:Ar w=some v):(-999999≤v∧v≤999999)∧aI v=w:=by
 unfold Ar at h;split at h
 ·split at h
  ·rename_i hc
   cases h;exact hc
  ·cases h
 ·cases h
theorem aa8 {w:ByteArray} {v:Int} (h:Mg w=some v):(-999999≤v∧v≤999999)∧aI v=w:=by
 unfold Mg at h;split at h
 ·rename_i hc
  split at h
  case isFalse=>cases h
  rename_i hp;cases h;have hlt:=PE (w.extract 1 w.size);refine⟨by omega,bP ?_⟩
  rw [BU hp,←uJ (w:=w.extract 1 w.size) rfl (by omega)];cases hw:ae w with
  | nil=>rw [hw] at hc;cases hc.2
  | cons a l =>
   rw [hw] at hc;have ha:=ajX hc.2;rw [aaH hw];subst ha;rfl
 ·split at h
  case isFalse=>cases h
  rename_i hp;cases h;have hlt:=PE w;exact⟨by omega,(uJ rfl hp).symm⟩
theorem ae0 (w:ByteArray):Mg w=Ar w:=by
 cases h:Ar w with
 | some v =>
  obtain⟨h1,rfl⟩:=SQ h;exact adP h1
 | none =>
  cases h':Mg w with
  | none=>rfl
  | some v =>
   obtain⟨h1,rfl⟩:=aa8 h';rw [ad4 h1] at h;cases h
def cF:List ByteArray→Option (List Int)
 | []=>some []
 | w::l=>(Ar w).bind fun v=>(cF l).map (v::·)
theorem mU:∀(l:List ByteArray) (r:List Int),cF l=some r→r.length=l.length∧∀v∈r,-999999≤v∧v≤999999
 | [],r,h=>by cases h;exact⟨rfl,by simp⟩
 | w::l,r,h=>by
  simp only [cF,ai3,ai9] at h;obtain⟨v,h1,m,h2,rfl⟩:=h;obtain⟨g1,g2⟩:=mU l m h2;refine⟨by simp [g1],fun x hx=>?_⟩
  rcases aji.1 hx with rfl | hx
  ·exact(SQ h1).1
  ·exact g2 x hx
abbrev ln:ByteArray:=⟨⟨[109,101,108,116]⟩⟩
abbrev kq:ByteArray:=⟨⟨[106,111,105,110]⟩⟩
abbrev dZ:ByteArray:=⟨⟨[116,97,107,101]⟩⟩
abbrev bT:ByteArray:=⟨⟨[115,104,97,114,101,115]⟩⟩
abbrev fG:ByteArray:=⟨⟨[115,116,111,99,107]⟩⟩
abbrev dP:ByteArray:=⟨⟨[114,117,108,101]⟩⟩
abbrev gV:ByteArray:=⟨⟨[99,117,116]⟩⟩
abbrev bA:ByteArray:=⟨⟨[109,105,115,115,105,110,103]⟩⟩
abbrev kV:ByteArray:=⟨⟨[111,102,102]⟩⟩
abbrev bS:ByteArray:=⟨⟨[109,101,100,105,97,110]⟩⟩
abbrev cG:ByteArray:=⟨⟨[100,114,105,102,116]⟩⟩
abbrev eP:ByteArray:=⟨⟨[110,111,116,101]⟩⟩
abbrev cE:ByteArray:=⟨⟨[109,101,116,97,108]⟩⟩
abbrev cB:ByteArray:=⟨⟨[108,101,97,115,116]⟩⟩
abbrev er:ByteArray:=⟨⟨[102,111,108,100]⟩⟩
abbrev bM:ByteArray:=⟨⟨[115,99,104,101,109,101]⟩⟩
def shN (w:ByteArray):Int :=
 if w=bT∨w=bS∨w=cG∨w=bM then 0
 else if w=ln∨w=kq∨w=fG then -1
 else if w=dZ∨w=dP∨w=bA∨w=kV∨w=cB∨w=er then 1
 else if w=gV∨w=cE then 2
 else if w=eP then 3 else -2
def rdL (t:ByteArray):Option (ByteArray × ByteArray × List Int) :=
 match aC 32 t with
 | []=>none
 | w::ws=>if shN w = -2 then none else if shN w = -1 then(if ws=[] then none else some (w,t.extract (w.size+1) t.size,[]))
  else match cF ws with
   | some r=>if (r.length:Int)=shN w then some (w,⟨⟨[]⟩⟩,r) else none
   | none=>none
open Go Go.V Go.RowKit Go.Shelf
theorem td {P:Program} {G:List (Nat × (Obj→Prop))} {f:FuncId} {S:FS} (he:∀args w,(callFunc f args).run P w = .ok (.enter f args) w) (hm:au G P f S) {ds rs us:List D} (f':List D→Option Out) (hf':S.f=f') (hd:f' ds=some (.ret rs us)) {args:Array Value} {w:World} {F:Nat→Prop}
  (hgl:gOk G w F) (ha:fB w F (fun _=>none) 0 S.pm ds args.toList) (hF:∀b,F b→b<w.heap.size):Calls P f args w fun e w'=>Below w.heap.size w w'∧∃F' R vs,e = .returned (lA vs)∧CallPost S args rs us w F (fun _=>none) F' R vs w':=by
 refine(mh he hm (hf' ▸ hd) hgl ha (fun b hb=>⟨hF b hb,rfl⟩) (fun b i h=>by cases h)).mono ?_
 rintro e w' ⟨v,rfl,F',R,vs,rfl,hpost⟩;exact⟨⟨hpost.os,hpost.tape,hpost.output,hpost.size,fun b hb=>hpost.keep b hb rfl⟩,F',R,vs,rfl,hpost⟩
theorem SE {α:Type}:∀(ys:List α) (j:Nat),j<ys.length→aD (ys.map fun _=>Kd.dat 0) j = .dat 0
 | _::_,0,_=>rfl
 | _::ys,j+1,h=>SE ys j (by simpa using h)
theorem af8:∀(ys:List Value) (j:Nat) (h:j<ys.length),nth (ys.map D.v) j = .v ys[j]
 | _::_,0,_=>rfl
 | _::ys,j+1,h=>af8 ys j (by simpa using h)
theorem qe {P:Program} {G:List (Nat × (Obj→Prop))} {f:FuncId} {S:FS} (he:∀args w,(callFunc f args).run P w = .ok (.enter f args) w) (hm:au G P f S) {ds:List D} (ys:List Value) (f':List D→Option Out) (hf':S.f=f') (hd:f' ds=some (.ret (ys.map D.v) [])) (hrm:S.rm=ys.map fun _=>.dat 0) {args:Array Value} {w:World} {F:Nat→Prop}
  (hgl:gOk G w F) (ha:fB w F (fun _=>none) 0 S.pm ds args.toList) (hF:∀b,F b→b<w.heap.size):Calls P f args w fun e w'=>e = .returned (lA ys)∧Below w.heap.size w w':=by
 refine(td he hm f' hf' hd hgl ha hF).mono ?_
 rintro e w' ⟨hB,F',R,vs,rfl,hpost⟩;refine⟨?_,hB⟩
 have hl:=hpost.len;rw [hrm,aiX] at hl;have:vs=ys:=by
  refine List.ext_getElem hl fun j h1 h2=>?_
  have h0:=hpost.res j;rw [hrm,SE _ _ h2,af8 _ _ h2] at h0;rcases h0 with h0 | h0
  ·cases h0
  rw [aje,ajc h1,ajB] at h0;exact(ct.1 h0).1
 rw [this]
theorem acv (s:ByteArray) (hs:s.size≤1048576):Oq [T s]=some (.ret ([.string ((fy shE s).getD ⟨#[]⟩),.bool (fy shE s).isSome].map D.v) []):=by
 have e:Oq [T s]=(Ae (T s)).bind fun s=>if s.size≤1048576 then some (.ret [T ((fy shE s).getD ⟨#[]⟩),B (fy shE s).isSome] []) else none:=rfl
 rw [e,show Ae (T s)=some s from rfl,aiT,if_pos hs];rfl
theorem acJ (w:ByteArray) (h:w.size≤1048576):TM [T w,T ⟨#[32]⟩]=some (.ret ([.string ⟨(ajD (ae w) [32]).1.toArray⟩,.string ⟨(ajD (ae w) [32]).2.1.toArray⟩,.bool (ajD (ae w) [32]).2.2].map D.v) []):=by
 simp -implicitDefEqProofs only [TM];rw [if_pos (by omega)];rfl
section
variable {w:World} {F:Nat→Prop} (hF:∀b,F b→b<w.heap.size)
include hF
theorem AQ (hgl:gOk gl0 w F) (a b c:Int):Calls Tryz.prog 52 #[.int .i64 a,.int .i64 b,.int .i64 c] w fun e w'=>e = .returned (.bool (decide (b≤a∧a≤c)))∧Below w.heap.size w w' :=
 qe (ai4 Tryz.func52 (by kernel_rfl) rfl) dL [_] bW rfl (bC a b c) rfl hgl
  (show eX w F _ (.dat 0) (I a) (.int .i64 a)∧eX w F _ (.dat 0) (I b) (.int .i64 b)∧eX w F _ (.dat 0) (I c) (.int .i64 c)∧True from⟨.inr (ct.2 ⟨rfl,rfl⟩),.inr (ct.2 ⟨rfl,rfl⟩),.inr (ct.2 ⟨rfl,rfl⟩),trivial⟩) hF
theorem Zh (hgl:gOk gl0 w F) (s:ByteArray) (hs:s.size≤1048576):Calls Tryz.prog 115 #[.string s] w fun e w'=>e = .returned (.tuple #[.string ((fy shE s).getD ⟨#[]⟩),.bool (fy shE s).isSome])∧Below w.heap.size w w' :=
 qe (ai4 Tryz.func115 (by kernel_rfl) rfl) Nc [_,_] Oq rfl (acv s hs) rfl hgl
  (show eX w F _ (.dat 0) (T s) (.string s)∧True from⟨.inr (ct.2 ⟨rfl,rfl⟩),trivial⟩) hF
theorem abY (hgl:gOk gl0 w F) (s:ByteArray) (hs:s.size≤1048576):Calls Tryz.prog 85 #[.string s,.string ⟨#[32]⟩] w fun e w' =>
  e = .returned (.tuple #[.string ⟨(ajD (ae s) [32]).1.toArray⟩,.string ⟨(ajD (ae s) [32]).2.1.toArray⟩,.bool (ajD (ae s) [32]).2.2])∧Below w.heap.size w w' :=
 qe (ai4 Tryz.func85 (by kernel_rfl) rfl) Eu (ds:=[T s,T ⟨#[32]⟩]) [_,_,_] TM rfl (acJ s hs) rfl hgl
  (show eX w F _ (.dat 0) (T s) (.string s)∧eX w F _ (.dat 0) (T ⟨#[32]⟩) (.string ⟨#[32]⟩)∧True from⟨.inr (ct.2 ⟨rfl,rfl⟩),.inr (ct.2 ⟨rfl,rfl⟩),trivial⟩) hF
theorem KF (hgl:gOk gl2 w F) (s:ByteArray) (hs:s.size≤1048576):Calls Tryz.prog 116 #[.string s] w fun e w'=>Below w.heap.size w w' ∧
  ((∃v,ajq (ae s) = .ok v∧e = .returned (.tuple #[.int .i64 v,.nilIface]))∨((∀v,ajq (ae s) ≠ .ok v)∧∃n t x,e = .returned (.tuple #[.int .i64 n,.iface t x]))):=by
 have he:=acL s (by omega);have ha:fB w F (fun _=>none) 0 tq.pm [T s] (#[ajI s]:Array Value).toList:=show eX w F _ (.dat 0) (T s) (.string s)∧True from⟨.inr (ct.2 ⟨rfl,rfl⟩),trivial⟩
 have hen:=ai4 Tryz.func116 (by kernel_rfl) rfl;have bad:∀n:Int,HP [T s]=some (.ret [I n,.ifc] [])→(∀v,ajq (ae s) ≠ .ok v)→Calls Tryz.prog 116 #[.string s] w fun e w'=>Below w.heap.size w w' ∧
  ((∃v,ajq (ae s) = .ok v∧e = .returned (.tuple #[.int .i64 v,.nilIface]))∨((∀v,ajq (ae s) ≠ .ok v)∧∃n t x,e = .returned (.tuple #[.int .i64 n,.iface t x]))):=by
  intro n hn hno;refine(td hen rZ HP rfl hn hgl ha hF).mono ?_
  rintro e w' ⟨hB,F',R,vs,rfl,hpost⟩;refine⟨hB,.inr ⟨hno,?_⟩⟩
  have hl:=hpost.len
  match vs,hl with
  | [y0,y1],hl =>
   have r0:=(hpost.res 0).resolve_left (by intro h;cases h);have r1:=(hpost.res 1).resolve_left (by intro h;cases h);replace r0:bU w' _ (I n) y0:=r0;replace r1:bU w' _ .ifc y1:=r1;obtain⟨rfl,-⟩:=ct.1 r0;simp only [bU,RepC] at r1;obtain⟨t,x,h1⟩:=r1;simp only [ajZ,and_true] at h1;subst h1;exact⟨_,_,_,rfl⟩
 cases hq:ajq (ae s) with
 | ok v =>
  rw [hq] at he;refine(qe hen rZ (ds:=[T s]) [.int .i64 v,.nilIface] HP rfl he rfl hgl ha hF).mono ?_
  rintro e w' ⟨rfl,hB⟩;exact⟨hB,.inl ⟨v,rfl,rfl⟩⟩
 | range =>
  rw [hq] at he;have:=bad _ he (fun v=>by rw [hq];intro h;cases h);rw [hq] at this;exact this
 | _ =>
  rw [hq] at he;have:=bad _ he (fun v=>by rw [hq];intro h;cases h);rw [hq] at this;exact this
theorem Gd (hgl:gOk gl0 w F) (s:ByteArray) (hs:s.size≤1048576):Calls Tryz.prog 70 #[.string s,.string ⟨#[32]⟩] w fun e w'=>Below w.heap.size w w' ∧
  ∃g o c cs t,e = .returned (.slice (some ⟨g,o,none⟩) (aC 32 s).length c)∧w.heap.size≤g∧w'.heap[g]?=some (.cells cs t (0,0))∧∀(i:Nat) (x:ByteArray),(aC 32 s)[i]?=some x→cs[o+i]?=some (.string x):=by
 have he:=aax (c:=32) (s:=s) (by omega);refine(td (ai4 Tryz.func70 (by kernel_rfl) rfl) yp (ds:=[T s,T ⟨#[32]⟩]) (args:=#[.string s,.string ⟨#[32]⟩]) Av rfl he hgl
  (show eX w F _ (.dat 0) (T s) (.string s)∧eX w F _ (.dat 0) (T ⟨#[32]⟩) (.string ⟨#[32]⟩)∧True from⟨.inr (ct.2 ⟨rfl,rfl⟩),.inr (ct.2 ⟨rfl,rfl⟩),trivial⟩) hF).mono ?_
 rintro e w' ⟨hB,F',R,vs,rfl,hpost⟩;refine⟨hB,?_⟩
 have hl:=hpost.len
 match vs,hl with
 | [y0],hl =>
  have r0:=(hpost.res 0).resolve_left (by intro h;cases h);replace r0:lL w' _ _ 1 (.arr 1 ((aC 32 s).map T)) y0:=r0;obtain⟨l,h1,h2,h3⟩:=r0;cases h1;rcases h3 with ⟨-,h3⟩ | ⟨g,o,c,us,cs,t,h3,h4,h5,h6,h7,h8,h9⟩
  ·have hne:aC 32 s≠[]:=by
    unfold aC;simp [dv]
   exact absurd (List.map_eq_nil_iff.1 h3) hne
  ·rw [aiX] at h3
   have hus:∀(l:List ByteArray) (us:List Value),cm w' (FB F' w.heap.size 0) (l.map T) us→us=l.map ajI:=by
    intro l;induction l with
    | nil=>intro us h;exact aZ.1 h
    | cons x l ih =>
     intro us h;obtain⟨v1,v2,rfl,q1,q2⟩:=ax.1 h;simp only [RepC] at q1;rw [ih v2 q2,q1.1];rfl
   rw [hus _ _ h7] at h8;exact⟨g,o,c,cs,t,by rw [h3];rfl,h9.2,h5,fun i x hx=>h8 i _ (by rw [akf,hx];rfl)⟩
end
end Go.Proofs.YtjafgdefcggjcaaGreatDoor

namespace Go.Proofs.YtjafgdefcggjcaaGreatDoor
open Go Go.V Go.RowKit Go.Shelf
theorem Cf {w:World} {F:Nat→Prop} (hF:∀b,F b→b<w.heap.size) (hgl:gOk gl1 w F) {n:Int} (h0 : -9223372036854775808≤n) (h1:n≤9223372036854775807) :
  Calls Tryz.prog 117 #[.int .i64 n] w fun e w'=>e = .returned (.string (aI n))∧Below w.heap.size w w' :=
 mO (ai4 Tryz.func117 (by kernel_rfl) rfl) sS KP rfl (Nu h0 h1) rfl hgl (show eX w F _ (.dat 0) (I n) (.int .i64 n)∧True from⟨.inr (ct.2 ⟨rfl,rfl⟩),trivial⟩) hF
def Us (x:Slp):List Value:=[.int .i64 x.1,.int .i64 x.2]
theorem aap {w:World} {F:Nat→Prop}:∀(l:List Slp) (us:List Value),cm w F (l.map slp) us→us=l.flatMap Us
 | [],us,h=>aZ.1 h
 | x::l,us,h=>by
  obtain⟨v1,v2,rfl,h1,h2⟩:=ax.1 h;rw [aap l v2 h2];simp only [RepC] at h1;obtain⟨u1,r1,rfl,g1,h1⟩:=ax.1 h1.1;obtain⟨u2,r2,rfl,g2,h1⟩:=ax.1 h1;simp only [RepC] at g1 g2;rw [g1.1,g2.1,aZ.1 h1];rfl
theorem Tl {w:World} {b:Nat}:∀(l:List Slp) (o:Nat),cN w b o (l.flatMap Us)→∀(i:Nat) (x:Slp),l[i]?=some x→cN w b (o+i*2) (Us x)
 | [],_,_,i,x,hx=>by simp at hx
 | y::l,o,h,0,x,hx=>by
  simp only [ajd,aja] at hx;subst hx;intro j u hu;have:=h j u (by rw [ajQ,ajR (ajz.1 hu).1];exact hu);simpa using this
 | y::l,o,h,i+1,x,hx=>by
  have:=Tl l (o+2) (by
   have:=h.drop 2;exact this) i x (by simpa using hx)
  rw [show o+(i+1)*2=o+2+i*2 by omega];exact this
set_option maxHeartbeats 4000000 in
set_option maxRecDepth 1000000 in
theorem MY (l:List Slp) (hg:∀x∈l,(1≤x.1∧x.1≤200)∧0≤x.2∧x.2≤20) (hl:l.length≤1048576) (A:Option Addr) (c:Nat) (_hc:l.length≤c) (w:World) (F:Nat→Prop) (hF:∀b,F b→b<w.heap.size) (hgl:gOk gl1 w F)
    (hA:l≠[]→∃b o,A=some ⟨b,o,none⟩∧F b∧∀(i:Nat) (x:Slp),l[i]?=some x→cN w b (o+i*2) (Us x)) :
    Calls Tryz.prog 166 #[.slice A l.length c] w fun e w'=>e = .returned (.string (stT l))∧Below w.heap.size w w':=by
  have hIt:∀n:Int,0≤n→n≤200→∀W,Below w.heap.size w W→Calls Tryz.prog 117 #[.int .i64 n] W fun e w'=>e = .returned (.string (aI n))∧Below W.heap.size W w':=fun n h0 h1 W hW =>
    Cf (F:=F) (fun b hb=>ajN (hF b hb) hW.size) (iu (fun _ h=>h) (fun b hb=>hW.block b (hF b hb)) hgl) (by omega) (by omega)
  go_enter Tryz.func166,Tryz.ntmps166
  go_wp2
  go_loopw [8] (fun v8 wr=>∃(i:Nat) (acc:List UInt8),v8 = .int .i64 i∧i≤l.length∧ajm 67 5 w.heap.size w.heap.size (ajx acc) wr∧Below w.heap.size w wr∧acc++ae (stT (l.drop i))=ae (stT l)∧acc.length≤8*i) (fun v8 wr=>l.length - (match v8 with | .int _ n=>n.toNat | _=>0))
  case atStart =>
    exact⟨0,[],rfl,ajn _,ake (aj9 67 5 w),(aj4 _ w).alloc (aiW _) _,rfl,aiW _⟩
  case round =>
    obtain⟨i,acc,rfl,hi,hI,hbw,hacc,hal⟩:=hrel;by_cases hp:i<l.length
    · have hpi:(i:Int)<(l.length:Int):=by omega
      obtain⟨b,o,rfl,hb,hcell⟩:=hA (fun h=>by rw [h] at hp;exact absurd hp (akl _));have hcl:=hcell i l[i] (ajc hp);have hbw0:wr.heap[b]?=w.heap[b]?:=hbw.block b (hF b hb);have c0:wr.cell? ⟨b,o+i*2,none⟩=some (.int .i64 l[i].1):=(ajp hbw0).trans (hcl 0 _ rfl);have c1:wr.cell? ⟨b,o+i*2+1,none⟩=some (.int .i64 l[i].2):=(ajp hbw0).trans (hcl 1 _ rfl);have hx:=hg _ (ajk hp);have hItC:=hIt l[i].2 (by omega) (by omega);have hItL:=hIt l[i].1 (by omega) (by omega);obtain⟨z1,z2,z3⟩:=Hu hx;have s1:(aI l[i].2++⟨⟨[120]⟩⟩:ByteArray).size=(aI l[i].2).size+1:=by rw [ai2,Hm]
      have s2:(aI l[i].2++⟨⟨[120]⟩⟩++aI l[i].1:ByteArray).size=(aI l[i].2).size+1+(aI l[i].1).size:=by rw [ai2,s1]
      generalize hO0:(Obj.cells #[.int .i64 l[i].1,.int .i64 l[i].2] 75)=O0 at *;have hIs:=iZ (hI.alloc O0) ((aj4 _ _).drew);have hBl:=(hbw.alloc hbw.size O0).drew;have hk:(wr.alloc O0).drew.heap[wr.heap.size]?=some O0:=ajT;have d0:(wr.alloc O0).drew.cell? ⟨wr.heap.size,0,none⟩=some (.int .i64 l[i].1):=by rw [←hO0] at hk ⊢;rw [ai7 hk];rfl
      have d1:(wr.alloc O0).drew.cell? ⟨wr.heap.size,1,none⟩=some (.int .i64 l[i].2):=by rw [←hO0] at hk ⊢;rw [ai7 hk];rfl
      have hlt:w.heap.size<wr.heap.size:=hI.elim (fun h=>h.lt) (fun h=>h.lt);have hne:∀c fz,O0 ≠ .cells c 5 fz:=fun c fz h=>by
        rw [←hO0] at h;injection h with _ h _;exact absurd h (by decide)
      have hWr:∀W,ajm 67 5 w.heap.size w.heap.size (ajx acc) W→w.heap.size≤W.heap.size→W.heap[wr.heap.size]?=some O0 →
          Calls Tryz.prog 43 #[.pointer (some ⟨w.heap.size,0,none⟩),.string (aI l[i].2++⟨#[120]⟩++aI l[i].1++⟨#[32]⟩)] W fun e w'=>e = .returned (.tuple #[.int .i64 (slT l[i]).size,.nilIface]) ∧
            ajL 67 5 w.heap.size w.heap.size (.pointer (some ⟨w.heap.size,0,none⟩)) (ajx acc++Lib.strCells (slT l[i])) w'∧Below w.heap.size W w'∧w'.heap[wr.heap.size]?=some O0:=by
        intro W hW1 hW2 hW3;refine(Fg w.heap.size w.heap.size _ (slT l[i]) W hW1 (by rw [aj5];omega) hW2).mono ?_
        rintro e w' ⟨q1,q2,q3,q4⟩;refine⟨q1,q2,q3,q4 _ _ hW3 (fun h=>?_) hne⟩
        have:=ajX h;omega
      go_upto_region 5 with fail
      go_region_held (fun w'=>w'.cell? ⟨wr.heap.size,0,none⟩=some (.int .i64 l[i].1)∧w'.cell? ⟨wr.heap.size,1,none⟩=some (.int .i64 l[i].2)) (first | exact⟨d0,d1⟩ | go_keep)
        (first
          | (go_at_call 117;first
              | (refine(hItC _ hBl).mono ?_;rintro e W1 ⟨rfl,b1⟩
                 have hk:=(b1.block _ (ai8.1 hk).1).trans hk;have hIs:=iZ hIs b1;have hBl:=hBl.trans (b1.mono hBl.size);have d0:W1.cell? ⟨wr.heap.size,0,none⟩=some (.int .i64 l[i].1):=by rw [←hO0] at hk;rw [ai7 hk];rfl
                 have d1:W1.cell? ⟨wr.heap.size,1,none⟩=some (.int .i64 l[i].2):=by rw [←hO0] at hk;rw [ai7 hk];rfl)
              | (refine(hItL _ hBl).mono ?_;rintro e W1 ⟨rfl,b1⟩
                 have hk:=(b1.block _ (ai8.1 hk).1).trans hk;have hIs:=iZ hIs b1;have hBl:=hBl.trans (b1.mono hBl.size);have d0:W1.cell? ⟨wr.heap.size,0,none⟩=some (.int .i64 l[i].1):=by rw [←hO0] at hk;rw [ai7 hk];rfl
                 have d1:W1.cell? ⟨wr.heap.size,1,none⟩=some (.int .i64 l[i].2):=by rw [←hO0] at hk;rw [ai7 hk];rfl))
          | (go_at_call 43
             refine(hWr _ hIs hBl.size hk).mono ?_
             rintro e W3 ⟨rfl,hI3,b3,hk⟩;have d0:W3.cell? ⟨wr.heap.size,0,none⟩=some (.int .i64 l[i].1):=by rw [←hO0] at hk;rw [ai7 hk];rfl
             have d1:W3.cell? ⟨wr.heap.size,1,none⟩=some (.int .i64 l[i].2):=by rw [←hO0] at hk;rw [ai7 hk];rfl))
      all_goals
        go_wp2
        have hdr:ae (stT (l.drop i))=ae (slT l[i])++ae (stT (l.drop (i+1))):=by
          rw [ajy hp];simp only [stT,bh]
        have hsz:(ae (slT l[i])).length≤8:=z3;refine⟨⟨i+1,acc++ae (slT l[i]),congrArg (ajj .i64) (by omega),by omega,?_,hBl.trans b3,?_,?_⟩,?_⟩
        · rw [aj6]
          exact Or.inr hI3
        · rw [←hacc,hdr,ajh]
        · rw [ajo]
          omega
        · show l.length - ((i:Int)+1).toNat<l.length - (i:Int).toNat
          omega
    · have hpi:¬(i:Int)<(l.length:Int):=by omega
      have hcall4:=zZ w.heap.size w.heap.size acc _ hI hbw.size
      go_wp2_with (go_at_call 44;refine hcall4.mono ?_)
      intro e W1 he h1 b1 k1;subst he
      go_wp2
      go_ret
      rw [ajA (by omega)] at hacc;refine⟨?_,hbw.trans b1⟩
      have:acc=ae (stT l):=by rw [←hacc];simp [stT,ae]
      rw [this,nQ];rfl
def adj:D→Option Slp
 | .agg [.v (.int .i64 a),.v (.int .i64 b)]=>some (a,b)
 | _=>none
theorem YL {d:D} {x:Slp} (h:adj d=some x):d=slp x:=by
 unfold adj at h;split at h
 ·cases h;rfl
 ·cases h
def Th:List D→Option (List Slp)
 | []=>some []
 | d::l=>(adj d).bind fun x=>(Th l).map (x::·)
theorem PL:∀(ds:List D) (l:List Slp),Th ds=some l→ds=l.map slp
 | [],l,h=>by cases h;rfl
 | d::ds,l,h=>by
  simp only [Th,ai3,ai9] at h;obtain⟨x,h1,m,h2,rfl⟩:=h;rw [YL h1,PL ds m h2];rfl
theorem SJ:∀(l:List Slp),Th (l.map slp)=some l
 | []=>rfl
 | x::l=>by
  simp only [ajb,Th,SJ l];rfl
def FH:List D→Option Out
 | [.arr _ ds]=>(Th ds).bind fun l=>if (∀x∈l,(1≤x.1∧x.1≤200)∧0≤x.2∧x.2≤20)∧l.length≤1048576 then some (.ret [T (stT l)] []) else none
 | _=>none
theorem Pf {l:List Slp} (h:cA l=true):FH [sls l]=some (.ret [T (stT l)] []):=by
 have h8:=dE h;simp only [FH,SJ,aiT];rw [if_pos ⟨dW h,by omega⟩]
@[reducible] def pb:FS:={pm:=[.dat 2],rm:=[.dat 0],f:=FH}
theorem wz:au gl1 Tryz.prog 166 pb:=by
 have he:∀args w,(callFunc 166 args).run Tryz.prog w = .ok (.enter 166 args) w:=ai4 Tryz.func166 (by kernel_rfl) rfl;refine cd he fun ds rs us hd args w F ow hg ha hF _=>?_
 obtain⟨d,y,rfl,h2,h3⟩:=ny ha;replace hd:FH [d]=some (.ret rs us):=hd;unfold FH at hd;split at hd
 case h_2=>cases hd
 rename_i z ds e;cases e;obtain⟨l,hl,hd⟩:=ai3.1 hd;split at hd
 case isFalse=>cases hd
 rename_i hz;cases hd;obtain rfl:=PL _ _ hl;rcases h3 with h3 | h3
 ·cases h3
 simp only [bU,RepC] at h3;obtain⟨A,c,us,hy,hc,hr,_,hA⟩:=h3;simp only [ajZ,and_true] at hy;subst hy;rw [aap l us hr] at hA;rw [GX h2];rw [aiX] at hc ⊢;refine(MY l hz.1 hz.2 A c hc w F (fun b hb=>(hF b hb).1) hg (fun hne=>?_)).mono ?_
 ·obtain⟨b,o,rfl,h5,h6⟩:=hA (by simpa using hne)
  exact⟨b,o,rfl,h5,Tl l o h6⟩
 ·rintro e w' ⟨rfl,hB⟩
  refine⟨_,rfl,F,_,[_],rfl,fm hB hF rfl rfl [_] [_] rfl rfl fun j d hj=>?_⟩
  match j,hj with
  | 0,hj =>
   simp only [ajd,aja] at hj;subst hj;exact⟨_,rfl,ct.2 ⟨rfl,rfl⟩⟩
end Go.Proofs.YtjafgdefcggjcaaGreatDoor

end
