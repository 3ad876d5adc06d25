/-
  A part of the proof: contracts and plain forms of functions beneath the statement, made small by a program (names shortened, what is not needed left out).
-/
import Derived.Test.YtjafgdefcggjcaaGreatDoorRows
import Derived.Test.YtjafgdefcggjcaaGreatDoorTie
import Derived.Test.YtjafgdefcggjcaaGreatDoorCards
import Derived.Test.YtjafgdefcggjcaaGreatDoorM7
import Derived.Shelf.Strings.BuilderK
import Derived.BigCall
import Derived.Shelf.Slices.In.SortNone2
import Derived.Shelf.Sort.Plain
import Derived.Maps.OwnSet
import Derived.Maps.StringElems
import Derived.StringKeys
import Derived.WalkKit
import Derived.Shelf.Abstract
import Derived.Deep.RegionHeld
open Option renaming bind_some → aht, map_some → ahy, bind_eq_some_iff → ahA, map_eq_some_iff → ahK, getD_some → aib, isSome_some → aim, isSome_none → aiH
open Go.IntKind renaming i64 → ahu
open Bool renaming false_eq_true → ahv, not_true → ahD, not_false → ah3, and_eq_true → ah5, and_self → aip, not_eq_true → aiP
open List renaming length_map → ahw, replicate → ahC, map_cons → ahJ, getElem?_eq_getElem → ahL, getElem?_cons_zero → ahM, take_succ_eq_append_getElem → ahO, length_cons → ahP, append_assoc → ahQ, mem_cons → ahR, getElem_mem → ahT, cons_append → ahU, length_append → ahX, drop_zero → ah2, take_length → ah4, getD_eq_getElem?_getD → ah6, drop_eq_getElem_cons → ah8, getElem?_eq_some_iff → ah9, drop_eq_nil_of_le → aia, length_singleton → aic, nil_append → aie, mem_append → aif, map_append → aig, length_dropLast → aih, eq_nil_of_length_eq_zero → aij, length_pos_iff → aik, flatMap_cons → aiq, getElem?_append_left → air, length_nil → aiw, getElem_cons_succ → aiy, set_append_right → aiz, replicate_succ' → aiA, sum_cons → aiE, take_succ_cons → aiF, map_nil → aiI, mem_map → aiJ, foldl_append → aiK, getElem?_map → aiM, length → aiN, length_take → aiQ, drop_drop → aiT
open Nat renaming le_refl → ahx, zero_le → ahW, beq_refl → ah0, le_div_iff_mul_le → ah1, lt_of_lt_of_le → ain, le_add_right → aiR, not_lt_zero → aiS
open ByteArray renaming size_append → ahz
open Go.Proofs renaming enters_of → ahB
open Go.Lib renaming cell_of_heap → ahE, IsBuilderF → ahV, atoiAll → ahZ, byteCells → ah7, cut → aid, BuilderAtF → ail, byteCells_length → aiC, byteCells_append → aiD, fresh_isBuilder → aiG
open Array renaming getElem?_eq_some_iff → ahF, getElem?_push_size → ais
open Int renaming reduceLT → ahG, reduceLE → ahH, reduceEq → ahI, tdiv_eq_ediv_of_nonneg → aio, natCast_mul → aiu, neg_neg → aiO
open Option.some renaming injEq → ahN, inj → aiv
open Go.Value renaming int → ahS, string → aii
open Go.World renaming cell?_of_block → ahY
open Go.Sort renaming putCells → ait
open List.cons renaming injEq → aix
open Go.RowKit.Below renaming refl → aiB
open Go.Lib.IsBuilderF renaming of → aiL
set_option linter.unusedSimpArgs false
set_option linter.unusedVariables false
noncomputable section
namespace Go.Proofs.YtjafgdefcggjcaaGreatDoor
open Go Go.V
theorem ach {l:List Slp} {i:Nat} (hi:i<l.length) (h0:0≤l[i].1):((slW l i:Nat):Int)=l[i].1:=by
 simp only [slW,ah6,ahL hi,aib]
 omega
theorem UV {l:List Slp} {i:Nat} (hi:i<l.length) (h0:0≤l[i].2):((slC l i:Nat):Int)=l[i].2:=by
 simp only [slC,ah6,ahL hi,aib]
 omega
theorem agj (a b:Int):XE (I a) (I b)=some (I (if b<a then b else a)):=rfl
def ruO (l:List Slp) (n:Nat):D:=if (cS l n).isSome=true then ai (ctl l l.length n) else .v (.slice none 0 0)
theorem Rg (l:List Slp) (n:Nat) (hl:l.length≤8) (hn:n≤400) (hok:∀x∈l,(1≤x.1∧x.1≤200)∧0≤x.2∧x.2≤20) :
  ov [ai (l.map (·.1)),ai (l.map (·.2)),I (n:Int)]=some (.ret [ruO l n] []):=by
 rw [PO]
 have hfw:=DN l n hl hn hok
 have htl:l.take l.length=l:=ah4
 have het:=AF (l:=px n l (l.length+1)) (i:=l.length) (by rw [pz];omega)
 rw [Ad (by omega),htl] at het
 have her:=gH (l:=yf n (cS l)) (i:=n) (by rw [ve];omega)
 rw [Ap (by omega)] at her
 simp -implicitDefEqProofs only [hfw,am,ak,aK,ahw,aht,het,ahy,bh,aP,her,bC,be]
 cases hv:cS l n with
 | none =>
  simp -implicitDefEqProofs only [Jc,show(-1:Int)<0 by decide,decide_true,aG,if_true,ruO,hv,aiH,ahv,if_false]
 | some v =>
 have hv0:¬(v:Int)<0:=by omega
 have wl:ahu.wrap ((l.length:Int) - 1)=(l.length:Int) - 1:=ah (by omega) (by omega)
 simp -implicitDefEqProofs only [EJ,hv0,decide_false,aG,ahv,if_false,AE (show l.length≤1000000 by omega),ci,aht,ca,wl]
 refine cG (fun r=>r=_) (fun(a:Nat × Nat × List Int)=>[ai (l.map (·.1)),ai (l.map (·.2)),I (a.2.1:Int),fj (px n l (l.length+1)),.ref 0 0,I ((a.1:Int) - 1),ai (ahC a.1 0++a.2.2)]) (fun a=>a.1≤l.length∧a.2.1≤n∧(∃v,cS (l.take a.1) a.2.1=some v)∧ctl l l.length n=ctl l a.1 a.2.1++a.2.2) (fun a=>a.1)
  (fun o=>o = .ext 0 [.ref 0 0,ai (ctl l l.length n)]) ?_ (l.length,n,[]) ⟨ahx _,ahx _,⟨v,by dsimp only;rw [htl];exact hv⟩,by simp⟩ (by simp) ?_
 case refine_2 =>
  rintro o rfl
  simp -implicitDefEqProofs only [bE,ah0,dZ,if_true,ak,aF,MW,ruO,hv,aim]
 rintro⟨i1,n1,tl⟩ ⟨g1,g2,⟨v1,g3⟩,g4⟩
 dsimp only at g1 g2 g3 g4
 cases i1 with
 | zero =>
  right
  refine⟨_,?_,rfl,rfl⟩
  have hge:¬(0:Int)≤((0:Nat):Int) - 1:=by omega
  have e:ahC 0 0++tl=ctl l l.length n:=by rw [g4];rfl
  simp -implicitDefEqProofs only [ak,aF,jd,hge,decide_false,aht,aG,ahv,if_false,e]
 | succ i =>
  left
  have hi:i<l.length:=g1
  have ho:=hok l[i] (ahT hi)
  have hW:=ach hi (by omega)
  have hC:=UV hi ho.2.1
  obtain⟨u,p1,p2,p3⟩:=Nc hi g3
  have hpm:pk l i n1*slW l i≤n1:=by
   have:pk l i n1≤n1 / slW l i:=by unfold mx at p3;omega
   exact(ah1 (by omega)).1 this
  refine⟨(i,n1 - pk l i n1*slW l i,(pk l i n1:Int)::tl),?_,⟨by dsimp only;omega,by dsimp only;omega,⟨u,p1⟩,?_⟩,by dsimp only;omega⟩
  ·have hidx:(((i+1:Nat):Int) - 1)=(i:Int):=by omega
   have hi0:(0:Int)≤(i:Int):=by omega
   have ew:ao 1 (ai (l.map (·.1))) (I (i:Int))=some [I ((slW l i:Nat):Int)]:=by rw [gH (by simpa using hi),hW];simp
   have ec:ao 1 (ai (l.map (·.2))) (I (i:Int))=some [I ((slC l i:Nat):Int)]:=by rw [gH (by simpa using hi),hC];simp
   have hw0:¬((slW l i:Nat):Int)=0:=by omega
   have hdl:n1 / slW l i≤n1:=Nat.div_le_self _ _
   have hq:ahu.wrap (((n1:Nat):Int).tdiv ((slW l i:Nat):Int))=((n1 / slW l i:Nat):Int):=by
    rw [aio (by omega),←Int.natCast_ediv]
    generalize n1 / slW l i=q at hdl
    exact ah (by omega) (by omega)
   have hmx:(if ((n1 / slW l i:Nat):Int)<((slC l i:Nat):Int) then((n1 / slW l i:Nat):Int) else((slC l i:Nat):Int))=((mx l i n1:Nat):Int):=by
    rw [af4]
    unfold mx
    omega
   have hb:=An (l:=l) (fun x hx=>(hok x hx).2.2) i (by omega)
   have htab:=AF (l:=px n l (l.length+1)) (i:=i) (by rw [pz];omega)
   rw [Ad (by omega)] at htab
   have htab1:=AF (l:=px n l (l.length+1)) (i:=i+1) (by rw [pz];omega)
   rw [Ad (by omega)] at htab1
   have her1:=gH (l:=yf n (cS (l.take (i+1)))) (i:=n1) (by rw [ve];omega)
   rw [Ap (by omega)] at her1
   have hwi:=wI (show i≤1000000 by omega)
   have hmc:mx l i n1≤20:=by unfold mx;omega
   simp -implicitDefEqProofs only [ak,aF,hidx,jd,hi0,decide_true,aht,aG,if_true,ew,ec,ahy,bh,aP,bC,lC,hw0,if_false,hq,agj,hmx]
   refine cG (fun r=>r=_) (fun(m:Nat)=>[ai (l.map (·.1)),ai (l.map (·.2)),I (n1:Int),fj (px n l (l.length+1)),.ref 0 0,I (i:Int),I (m:Int),ai (ahC (i+1) 0++tl)]) (fun m=>m≤mx l i n1∧pk l i n1=HV (agr l i n1) m) (fun m=>m)
    (fun o=>o = .ext 2 [ai (l.map (·.1)),ai (l.map (·.2)),I ((n1 - pk l i n1*slW l i:Nat):Int),fj (px n l (l.length+1)),.ref 0 0,I (i:Int),ai (ahC i 0++(pk l i n1:Int)::tl)]) ?_ (mx l i n1) ⟨ahx _,rfl⟩ rfl ?_
   case refine_2 =>
    rintro o rfl
    have hwd:ahu.wrap ((i:Int) - 1)=(i:Int) - 1:=ah (by omega) (by omega)
    simp -implicitDefEqProofs only [bE,ah0,dZ,if_true,ak,aF,ca,hwd,aht]
   rintro m ⟨q1,q2⟩
   have hm0:(0:Int)≤(m:Int):=by omega
   have hmw:m*slW l i≤n1:=by
    have:m≤n1 / slW l i:=by unfold mx at q1;omega
    exact(ah1 (by omega)).1 this
   have hwr:ahu.wrap ((m:Int)*((slW l i:Nat):Int))=((m*slW l i:Nat):Int):=by
    rw [←aiu]
    exact ah (by omega) (by omega)
   have hsub:ahu.wrap (((n1:Nat):Int) - ((m*slW l i:Nat):Int))=((n1 - m*slW l i:Nat):Int):=by rw [ah (by omega) (by omega)];omega
   have her:=gH (l:=yf n (cS (l.take i))) (i:=n1 - m*slW l i) (by rw [ve];omega)
   rw [Ap (by omega)] at her
   have hag:agr l i n1 m=(decide (0≤iA (cS (l.take i) (n1 - m*slW l i)))&&decide (iA (cS (l.take i) (n1 - m*slW l i))+(m:Int)=iA (cS (l.take (i+1)) n1))):=ab0 g3
   have hbb : -1≤iA (cS (l.take i) (n1 - m*slW l i))∧iA (cS (l.take i) (n1 - m*slW l i))≤1000:=by
    cases ho2:cS (l.take i) (n1 - m*slW l i) with
    | none=>simp [iA]
    | some x =>
     have:=hb _ _ ho2
     simp only [iA]
     omega
   have hsum:ahu.wrap (iA (cS (l.take i) (n1 - m*slW l i))+(m:Int))=iA (cS (l.take i) (n1 - m*slW l i))+(m:Int):=ah (by omega) (by omega)
   by_cases hA:agr l i n1 m=true
   ·right
    have hpk:pk l i n1=m:=by rw [q2];exact SN hA
    rw [hag,ah5,decide_eq_true_eq,decide_eq_true_eq] at hA
    have hsum':=hsum.trans hA.2
    refine⟨_,?_,rfl,rfl⟩
    have hrf:=pC (l:=ahC (i+1) 0++tl) (i:=i) (by simp;omega)
    have hst:=oT (ahC (i+1) 0++tl) i (m:Int) (by simp;omega)
    have hset:(ahC (i+1) 0++tl).set i (m:Int)=ahC i 0++(m:Int)::tl:=by
     rw [aiA,ahQ,aiz _ _ (by simp)]
     simp
    rw [hset] at hst
    rw [hpk]
    simp -implicitDefEqProofs only [ak,aF,jd,hm0,decide_true,aht,aG,if_true,htab,htab1,ew,ahy,bh,aP,bC,dX,hwr,ca,hsub,her,her1,hA.1,dN,br,hsum',hwi,eR,aN,cg,ci,hrf,hst]
   ·left
    obtain⟨m',rfl,hs⟩:=Te (by rw [←q2];exact HZ (Zv hi g3)) hA
    have hmd:ahu.wrap (((m'+1:Nat):Int) - 1)=(m':Int):=by rw [ah (by omega) (by omega)];omega
    rw [hag] at hA
    refine⟨m',?_,⟨by omega,by rw [q2,hs]⟩,by omega⟩
    cases hd:decide (0≤iA (cS (l.take i) (n1 - (m'+1)*slW l i)))
    ·simp -implicitDefEqProofs only [ak,aF,jd,hm0,decide_true,aht,aG,if_true,htab,ew,ahy,bh,aP,bC,dX,hwr,ca,hsub,her,hd,dN,ahv,if_false,aN,hmd]
    ·rw [hd,Bool.true_and,aiP] at hA
     simp -implicitDefEqProofs only [ak,aF,jd,hm0,decide_true,aht,aG,if_true,htab,htab1,ew,ahy,bh,aP,bC,dX,hwr,ca,hsub,her,her1,hd,dN,br,hsum,hwi,eR,hA,aN,ahv,if_false,hmd]
  ·rw [g4]
   simp [ctl]
end Go.Proofs.YtjafgdefcggjcaaGreatDoor

namespace Go.Proofs.YtjafgdefcggjcaaGreatDoor
open Go Go.V
def ruL (l:List Slp) (n:Nat):List Int:=if (cS l n).isSome=true then ctl l l.length n else []
theorem PP (l:List Slp) (n:Nat) (hl:l.length≤8) (hn:n≤400) (hok:∀x∈l,(1≤x.1∧x.1≤200)∧0≤x.2∧x.2≤20) :
  ou [sls l,I (n:Int)]=some (.ret [ai (ruL l n),B (cS l n).isSome] []):=by
 rw [QB]
 have hfw:=xF l n hl hn hok
 have htl:l.take l.length=l:=ah4
 have het:=AF (l:=nQ n l (l.length+1)) (i:=l.length) (by rw [pj];omega)
 rw [Af (by omega),htl] at het
 have her:=gH (l:=yk n (cS l)) (i:=n) (by rw [vj];omega)
 rw [uC (by omega)] at her
 have hb0:=An (l:=l) (fun x hx=>(hok x hx).2.2) l.length (ahx _)
 rw [htl] at hb0
 simp -implicitDefEqProofs only [hfw,am,ak,aK,ahw,aht,het,ahy,bh,aP,her,bC,jd]
 unfold ruL
 cases hv:cS l n with
 | none =>
  simp -implicitDefEqProofs only [gD,show(1048576:Int)≤1048576 by decide,decide_true,aG,if_true,aiH,ahv,if_false]
  rfl
 | some v =>
 have hvb:=hb0 n v hv
 have hv0:¬(1048576:Int)≤(v:Int):=by omega
 have wl:ahu.wrap ((l.length:Int) - 1)=(l.length:Int) - 1:=ah (by omega) (by omega)
 simp -implicitDefEqProofs only [gD,hv0,decide_false,aG,ahv,if_false,AE (show l.length≤1000000 by omega),aht,ca,wl,aim,if_true]
 refine cG (fun r=>r=_) (fun(a:Nat × Nat × List Int)=>[sls l,I (a.2.1:Int),fj (nQ n l (l.length+1)),ai (ahC a.1 0++a.2.2),I ((a.1:Int) - 1)]) (fun a=>a.1≤l.length∧a.2.1≤n∧(∃v,cS (l.take a.1) a.2.1=some v)∧ctl l l.length n=ctl l a.1 a.2.1++a.2.2) (fun a=>a.1)
  (fun o=>o = .ext 0 [ai (ctl l l.length n)]) ?_ (l.length,n,[]) ⟨ahx _,ahx _,⟨v,by dsimp only;rw [htl];exact hv⟩,by simp⟩ (by simp) ?_
 case refine_2 =>
  rintro o rfl
  simp -implicitDefEqProofs only [bE,ah0,dZ,if_true,ak]
 rintro⟨i1,n1,tl⟩ ⟨g1,g2,⟨v1,g3⟩,g4⟩
 dsimp only at g1 g2 g3 g4
 cases i1 with
 | zero =>
  right
  refine⟨_,?_,rfl,rfl⟩
  have hge:¬(0:Int)≤((0:Nat):Int) - 1:=by omega
  have e:ahC 0 0++tl=ctl l l.length n:=by rw [g4];rfl
  simp -implicitDefEqProofs only [ak,aF,jd,hge,decide_false,aht,aG,ahv,if_false,e]
 | succ i =>
  left
  have hi:i<l.length:=g1
  have ho:=hok l[i] (ahT hi)
  have hW:=ach hi (by omega)
  have hC:=UV hi ho.2.1
  obtain⟨u,p1,p2,p3⟩:=Nc hi g3
  have hpm:pk l i n1*slW l i≤n1:=by
   have:pk l i n1≤n1 / slW l i:=by unfold mx at p3;omega
   exact(ah1 (by omega)).1 this
  refine⟨(i,n1 - pk l i n1*slW l i,(pk l i n1:Int)::tl),?_,⟨by dsimp only;omega,by dsimp only;omega,⟨u,p1⟩,by rw [g4];simp [ctl]⟩,by dsimp only;omega⟩
  have hidx:(((i+1:Nat):Int) - 1)=(i:Int):=by omega
  have hi0:(0:Int)≤(i:Int):=by omega
  have es:ao 2 (sls l) (I (i:Int))=some [I ((slW l i:Nat):Int),I ((slC l i:Nat):Int)]:=by rw [elS hi,hW,hC]
  have hw0:¬((slW l i:Nat):Int)=0:=by omega
  have hdl:n1 / slW l i≤n1:=Nat.div_le_self _ _
  have hq:ahu.wrap (((n1:Nat):Int).tdiv ((slW l i:Nat):Int))=((n1 / slW l i:Nat):Int):=by
   rw [aio (by omega),←Int.natCast_ediv]
   generalize n1 / slW l i=q at hdl
   exact ah (by omega) (by omega)
  have hls:=zF ((slC l i:Nat):Int) ((n1 / slW l i:Nat):Int)
  have hmx:(if ((slC l i:Nat):Int)<((n1 / slW l i:Nat):Int) then((slC l i:Nat):Int) else((n1 / slW l i:Nat):Int))=((mx l i n1:Nat):Int):=by
   rw [af4]
   unfold mx
   omega
  rw [hmx] at hls
  have hb:=An (l:=l) (fun x hx=>(hok x hx).2.2) i (by omega)
  have hb1:=An (l:=l) (fun x hx=>(hok x hx).2.2) (i+1) hi n1 v1 g3
  have htab:=AF (l:=nQ n l (l.length+1)) (i:=i) (by rw [pj];omega)
  rw [Af (by omega)] at htab
  have htab1:=AF (l:=nQ n l (l.length+1)) (i:=i+1) (by rw [pj];omega)
  rw [Af (by omega)] at htab1
  have her1:=gH (l:=yk n (cS (l.take (i+1)))) (i:=n1) (by rw [vj];omega)
  rw [uC (by omega)] at her1
  have hwi:=wI (show i≤1000000 by omega)
  have hmc:mx l i n1≤20:=by unfold mx;omega
  simp -implicitDefEqProofs only [ak,aF,hidx,jd,hi0,decide_true,aht,aG,if_true,es,ahy,dA,List.drop_succ_cons,ah2,bh,aP,bC,lC,hw0,if_false,hq,hls,am]
  refine cG (fun r=>r=_) (fun(m:Nat)=>[sls l,I (n1:Int),fj (nQ n l (l.length+1)),ai (ahC (i+1) 0++tl),I (i:Int),I (m:Int)]) (fun m=>m≤mx l i n1∧pk l i n1=HV (agr l i n1) m) (fun m=>m)
   (fun o=>o = .ext 2 [sls l,I (n1:Int),fj (nQ n l (l.length+1)),ai (ahC (i+1) 0++tl),I (i:Int),I (pk l i n1:Int)]) ?_ (mx l i n1) ⟨ahx _,rfl⟩ rfl ?_
  case refine_2 =>
   rintro o rfl
   have hwd:ahu.wrap ((i:Int) - 1)=(i:Int) - 1:=ah (by omega) (by omega)
   have hrf:=pC (l:=ahC (i+1) 0++tl) (i:=i) (by simp;omega)
   have hst:=oT (ahC (i+1) 0++tl) i (pk l i n1:Int) (by simp;omega)
   have hset:(ahC (i+1) 0++tl).set i (pk l i n1:Int)=ahC i 0++(pk l i n1:Int)::tl:=by
    rw [aiA,ahQ,aiz _ _ (by simp)]
    simp
   rw [hset] at hst
   have hwr:ahu.wrap ((pk l i n1:Int)*((slW l i:Nat):Int))=((pk l i n1*slW l i:Nat):Int):=by
    rw [←aiu]
    exact ah (by omega) (by omega)
   have hsub:ahu.wrap (((n1:Nat):Int) - ((pk l i n1*slW l i:Nat):Int))=((n1 - pk l i n1*slW l i:Nat):Int):=by rw [ah (by omega) (by omega)];omega
   simp -implicitDefEqProofs only [bE,ah0,dZ,if_true,ak,aF,ci,cg,hrf,hst,es,ahy,dA,ah2,bh,aP,bC,dX,hwr,ca,hsub,hwd,aht]
  rintro m ⟨q1,q2⟩
  have hmw:m*slW l i≤n1:=by
   have:m≤n1 / slW l i:=by unfold mx at q1;omega
   exact(ah1 (by omega)).1 this
  have hwr:ahu.wrap ((m:Int)*((slW l i:Nat):Int))=((m*slW l i:Nat):Int):=by
   rw [←aiu]
   exact ah (by omega) (by omega)
  have hsub:ahu.wrap (((n1:Nat):Int) - ((m*slW l i:Nat):Int))=((n1 - m*slW l i:Nat):Int):=by rw [ah (by omega) (by omega)];omega
  have her:=gH (l:=yk n (cS (l.take i))) (i:=n1 - m*slW l i) (by rw [vj];omega)
  rw [uC (by omega)] at her
  have hag:agr l i n1 m=decide (gD (cS (l.take i) (n1 - m*slW l i))+(m:Int)=gD (cS (l.take (i+1)) n1)):=acL g3 (by omega)
  have hbb:=acP (o:=cS (l.take i) (n1 - m*slW l i)) fun x hx=>by have:=hb _ _ hx;omega
  have hsum:ahu.wrap (gD (cS (l.take i) (n1 - m*slW l i))+(m:Int))=gD (cS (l.take i) (n1 - m*slW l i))+(m:Int):=ah (by omega) (by omega)
  by_cases hA:agr l i n1 m=true
  ·right
   have hpk:pk l i n1=m:=by rw [q2];exact SN hA
   rw [hag] at hA
   refine⟨_,?_,rfl,rfl⟩
   rw [hpk]
   simp -implicitDefEqProofs only [ak,aF,aht,htab,htab1,es,ahy,dA,ah2,bh,aP,bC,dX,hwr,ca,hsub,her,her1,br,hsum,hwi,iz,hA,ahD,aG,ahv,if_false]
  ·left
   obtain⟨m',rfl,hs⟩:=Te (by rw [←q2];exact HZ (Zv hi g3)) hA
   have hmd:ahu.wrap (((m'+1:Nat):Int) - 1)=(m':Int):=by rw [ah (by omega) (by omega)];omega
   rw [hag,aiP] at hA
   refine⟨m',?_,⟨by omega,by rw [q2,hs]⟩,by omega⟩
   simp -implicitDefEqProofs only [ak,aF,aht,htab,htab1,es,ahy,dA,ah2,bh,aP,bC,dX,hwr,ca,hsub,her,her1,br,hsum,hwi,iz,hA,ah3,aG,if_true,hmd]
end Go.Proofs.YtjafgdefcggjcaaGreatDoor

namespace Go.Proofs.YtjafgdefcggjcaaGreatDoor
open Go Go.V
theorem PT (l:List Slp) (n:Nat) (hl:l.length≤8) (hn:n≤400) (hok:∀x∈l,(1≤x.1∧x.1≤200)∧0≤x.2∧x.2≤20) :
  oV [sls l,I (n:Int)]=some (.ret [ruO l n] []):=by
 rw [QD]
 have tp1:∀(v:List Int) (a:D),aq (dg (.tup [a,ai v]) 0) 1=some (ai v):=fun _ _=>rfl
 simp -implicitDefEqProofs only [uB l (by omega),am,tpL,tp1,aht,Rg l n hl hn hok,ak]
theorem qM (l:List Slp):∀(i n:Nat),(ctl l i n).length=i
 | 0,_=>rfl
 | i+1,n=>by simp [ctl,qM l i]
def rsS:List Slp→List Int→List Slp
 | x::l,k::cs=>(x.1,ahu.wrap (x.2 - k))::rsS l cs
 | l,_=>l
theorem mF:∀(l:List Slp) (cs:List Int),(rsS l cs).length=l.length
 | [],[]=>rfl
 | [],_::_=>rfl
 | _::_,[]=>rfl
 | x::l,k::cs=>by simp [rsS,mF l cs]
theorem Ms:∀(l:List Slp) (cs:List Int) (i:Nat) (hi:i<l.length) (hc:i<cs.length),(rsS l (cs.take i)).set i (l[i].1,ahu.wrap (l[i].2 - cs[i]))=rsS l (cs.take (i+1))
 | x::l,k::cs,0,_,_=>by cases l<;>rfl
 | x::l,k::cs,i+1,hi,hc=>by
  have:=Ms l cs i (by simpa using hi) (by simpa using hc)
  simp only [aiF,rsS,List.set_cons_succ,aiy,this]
theorem Gq:∀(l:List Slp) (cs:List Int) (i:Nat) (hi:i<l.length),(rsS l (cs.take i))[i]'(by rw [mF];exact hi)=l[i]
 | x::l,cs,0,_=>by cases l<;>rfl
 | x::l,[],i+1,hi=>by simp [rsS]
 | x::l,k::cs,i+1,hi=>by
  have:=Gq l cs i (by simpa using hi)
  simp only [aiF,rsS,aiy,this]
theorem Xg (l:List Slp) (cs:List Int) (hl:l.length≤1000) (hc:cs.length=l.length):sZ [sls l,ai cs]=some (.ret [sls (rsS l cs)] []):=by
 rw [Wu]
 have ha0:=je (l:=[]) (m:=l) (by simp;omega)
 rw [aie] at ha0
 simp -implicitDefEqProofs only [aZ,oL,jj,ha0,aht,aK,ahw]
 refine aD (.ext 0 [sls (rsS l cs)]) (aQ cs.length (fun i=>[sls (rsS l (cs.take i)),ai cs,I cs.length,I i]) _ (fun i hi=>?_) ?_ rfl ?_) ?_
 ·have hi':(i:Int)<(cs.length:Int):=by omega
  have hil:i<l.length:=by omega
  have hlen:i<(rsS l (cs.take i)).length:=by rw [mF];exact hil
  have hr:eH 2 (sls (rsS l (cs.take i))) (I (i:Int))=some (.ref i 0):=by rw [mU,if_pos (by simpa using hlen)]
  have hat:(atD (sls (rsS l (cs.take i))) (.ref i 1)).bind (an false 1)=some (I l[i].2):=by
   have:=Gq l cs i hil
   simp [hlen,this]
  have hs:=AO (rsS l (cs.take i)) i (ahu.wrap (l[i].2 - cs[i])) hlen
  rw [Gq l cs i hil,Ms l cs i hil hi] at hs
  simp -implicitDefEqProofs only [ak,aF,be,hi',decide_true,aht,aG,if_true,gH hi,ahy,bh,aP,bC,ci,cg,hr,od,Nat.zero_add,hat,ca,hs,br,wI (show i≤1000000 by omega)]
 ·simp
 ·cases l<;>rfl
 ·simp -implicitDefEqProofs only [bE,ah0,dZ,if_true,ak]
theorem RC (l:List Slp) (cs:List Int) (hl:l.length≤1000) (hc:cs.length=l.length):oY [sls l,ai cs]=some (.ret [sls (rsS l cs)] []):=by
 rw [RR]
 have ha0:=je (l:=[]) (m:=l) (by simp;omega)
 rw [aie] at ha0
 simp -implicitDefEqProofs only [aZ,oL,jj,ha0,aht,aK,ahw]
 refine aD (.ext 0 [sls (rsS l cs)]) (aQ cs.length (fun i=>[sls (rsS l (cs.take i)),ai cs,I cs.length,I i]) _ (fun i hi=>?_) ?_ rfl ?_) ?_
 ·have hi':(i:Int)<(cs.length:Int):=by omega
  have hil:i<l.length:=by omega
  have hlen:i<(rsS l (cs.take i)).length:=by rw [mF];exact hil
  have hr:eH 2 (sls (rsS l (cs.take i))) (I (i:Int))=some (.ref i 0):=by rw [mU,if_pos (by simpa using hlen)]
  have hat:(atD (sls (rsS l (cs.take i))) (.ref i 1)).bind (an false 1)=some (I l[i].2):=by
   have:=Gq l cs i hil
   simp [hlen,this]
  have hs:=AO (rsS l (cs.take i)) i (ahu.wrap (l[i].2 - cs[i])) hlen
  rw [Gq l cs i hil,Ms l cs i hil hi] at hs
  simp -implicitDefEqProofs only [ak,aF,be,hi',decide_true,aht,aG,if_true,gH hi,ahy,bh,aP,bC,ci,cg,hr,od,Nat.zero_add,hat,ca,hs,br,wI (show i≤1000000 by omega)]
 ·simp
 ·cases l<;>rfl
 ·simp -implicitDefEqProofs only [bE,ah0,dZ,if_true,ak]
end Go.Proofs.YtjafgdefcggjcaaGreatDoor

namespace Go.Proofs.YtjafgdefcggjcaaGreatDoor
open Go Go.V
end Go.Proofs.YtjafgdefcggjcaaGreatDoor

namespace Go.Proofs.YtjafgdefcggjcaaGreatDoor
open Go Go.V
def slT (x:Slp):ByteArray:=aJ x.2++⟨⟨[120]⟩⟩++aJ x.1++⟨⟨[32]⟩⟩
def stT:List Slp→ByteArray
 | []=>⟨⟨[]⟩⟩
 | x::l=>slT x++stT l
theorem Uu (a:UInt8):(⟨⟨[a]⟩⟩:ByteArray).size=1:=rfl
theorem HU {x:Slp} (h:(1≤x.1∧x.1≤200)∧0≤x.2∧x.2≤20):(aJ x.1).size≤3∧(aJ x.2).size≤3∧(slT x).size≤8:=by
 have s1:=cq 2 (n:=x.1) (by omega) (by omega)
 have s2:=cq 2 (n:=x.2) (by omega) (by omega)
 simp only [slT,ahz,Uu]
 omega
theorem ZK:∀(a b:List Slp),stT (a++b)=stT a++stT b
 | [],b=>bK (by simp [stT,ac])
 | x::a,b=>by simp only [ahU,stT,ZK a b,ByteArray.append_assoc]
theorem aeN (x:Slp):stT [x]=slT x:=bK (by simp [stT,ac])
theorem ab5 {l:List Slp} {i:Nat} (hi:i<l.length):stT (l.take (i+1))=stT (l.take i)++slT l[i]:=by
 rw [ahO hi,ZK,aeN]
theorem VP:∀(l:List Slp),(∀x∈l,(1≤x.1∧x.1≤200)∧0≤x.2∧x.2≤20)→(stT l).size≤8*l.length
 | [],_=>ahx 0
 | x::l,h=>by
  have h1:=(HU (h x (by simp))).2.2
  have h2:=VP l fun y hy=>h y (by simp [hy])
  simp only [stT,ahz,ahP]
  omega
theorem ahh (a b:Int):(an true 2 [I a,I b]).bind aL=some (slp (a,b)):=rfl
theorem PS (l:List Slp) (hl:l.length≤1000) (hok:∀x∈l,(1≤x.1∧x.1≤200)∧0≤x.2∧x.2≤20):ll [sls l]=some (.ret [T (stT l)] []):=by
 rw [RA]
 simp -implicitDefEqProofs only [ay,ahG,ahH,ahI]
 refine aD (.ext 0 [T (stT l)]) (aQ l.length (fun i=>[T (stT (l.take i)),sls l,I l.length,I i]) _ (fun i hi=>?_) ?_ rfl rfl) ?_
 ·have hi':(i:Int)<(l.length:Int):=by omega
  have hw:ahu.wrap ((i:Int)+1)=((i+1:Nat):Int):=by rw [ah (by omega) (by omega)];omega
  have ho:=hok l[i] (ahT hi)
  obtain⟨z1,z2,z3⟩:=HU ho
  have z4:=VP (l.take i) fun x hx=>hok x (List.mem_of_mem_take hx)
  have z5:(l.take i).length≤1000:=by rw [aiQ];omega
  have n1:=cE (n:=l[i].2) (by omega) (by omega)
  have n2:=cE (n:=l[i].1) (by omega) (by omega)
  have a1:=Bj (a:=aJ l[i].2) (b:=⟨⟨[120]⟩⟩) (by rw [Uu];omega)
  have a2:=Bj (a:=aJ l[i].2++⟨⟨[120]⟩⟩) (b:=aJ l[i].1) (by rw [ahz,Uu];omega)
  have a3:=Bj (a:=aJ l[i].2++⟨⟨[120]⟩⟩++aJ l[i].1) (b:=⟨⟨[32]⟩⟩) (by rw [ahz,ahz,Uu,Uu];omega)
  have a4:=Bj (a:=stT (l.take i)) (b:=slT l[i]) (by omega)
  rw [←ab5 hi] at a4
  have e:aJ l[i].2++⟨⟨[120]⟩⟩++aJ l[i].1++⟨⟨[32]⟩⟩=slT l[i]:=rfl
  rw [e] at a3
  simp -implicitDefEqProofs only [ay,ahG,ahH,ahI,hi',elS hi,ahh,af5,n1,n2,a1,a2,a3,a4,hw]
 ·simp -implicitDefEqProofs only [ay,ahG,ahH,ahI,Int.lt_irrefl,ah4]
 ·simp -implicitDefEqProofs only [ay,ahG,ahH,ahI]
theorem Al {n:Int} (h0:0≤n):ac (aJ n)≠[]∧(∀b∈ac (aJ n),dig b=true)∧(120:UInt8)∉ac (aJ n)∧(32:UInt8)∉ac (aJ n):=by
 obtain⟨h1,h2⟩:=ju h0
 exact⟨h1,h2,vZ h2 (by decide),vZ h2 (by decide)⟩
def prt (x:Slp):List UInt8:=ac (aJ x.2)++120::ac (aJ x.1)
theorem abj (b:UInt8):ac ⟨⟨[b]⟩⟩=[b]:=rfl
theorem abf (x:Slp):ac (slT x)=prt x++[32]:=by
 simp only [slT,prt,bk,abj]
 simp
theorem Bg (x:Slp) (l:List Slp):ac (stT (x::l))=prt x++32::ac (stT l):=by
 simp only [stT,bk,abf]
 simp
def adf (l:List Slp):Prop:=∀x∈l,0≤x.1∧0≤x.2
def WB (l:List Slp):List Int:=l.flatMap fun x=>[x.2,x.1]
def prS:List Int→List Slp
 | a::b::r=>(b,a)::prS r
 | _=>[]
theorem Wv:∀l:List Slp,prS (WB l)=l
 | []=>rfl
 | x::l=>by
  have:=Wv l
  simp only [WB,aiq,ahU,aie,prS] at this ⊢
  rw [this]
theorem VV:∀l:List Slp,adf l→om none (ac (stT l))=(WB l).map fun n=>ac (aJ n)
 | [],_=>rfl
 | x::l,h=>by
  have hx:=h x (by simp)
  obtain⟨a1,a2,-,-⟩:=Al hx.1
  obtain⟨b1,b2,-,-⟩:=Al hx.2
  rw [Bg,prt,ahQ,ahU,rf b1 b2 (by decide),rf a1 a2 (by decide),VV l fun y hy=>h y (by simp [hy])]
  rfl
theorem Sx:∀l:List Slp,adf l→∀b∈ac (stT l),b.toNat<128
 | [],_,b,hb=>by cases hb
 | x::l,h,b,hb=>by
  have hx:=h x (by simp)
  rw [Bg,prt,ahQ,ahU,aif,ahR,aif,ahR] at hb
  rcases hb with hb | rfl | hb | rfl | hb
  ·exact EX ((Al hx.2).2.1 b hb)
  ·decide
  ·exact EX ((Al hx.1).2.1 b hb)
  ·decide
  ·exact Sx l (fun y hy=>h y (by simp [hy])) b hb
theorem AV {l:List Slp} (h:ct l=true):adf l:=fun x hx=>by have:=eZ h x hx;omega
theorem abs {l:List Slp} (h:ct l=true):ada (WB l):=by
 intro n hn
 obtain⟨x,hx,hn⟩:=List.mem_flatMap.1 hn
 have:=eZ h x hx
 simp only [ahR,List.not_mem_nil,or_false] at hn
 omega
theorem adT {l:List Slp} (h:ct l=true):fc (stT l)=WB l:=SU (Sx l (AV h)) (abs h) (VV l (AV h))
theorem Sa:∀l:List Slp,adf l→aY 32 (ac (stT l))=l.map prt++[[]]
 | [],_=>rfl
 | x::l,h=>by
  have hx:=h x (by simp)
  have hn:(32:UInt8)∉prt x:=by
   intro hm
   rw [prt,aif,ahR] at hm
   rcases hm with hm | hm | hm
   ·exact(Al hx.2).2.2.2 hm
   ·exact absurd hm (by decide)
   ·exact(Al hx.1).2.2.2 hm
  rw [Bg,gr hn,Sa l fun y hy=>h y (by simp [hy])]
  rfl
theorem abv {x:Slp} (h:0≤x.1∧0≤x.2):aY 120 (prt x)=[ac (aJ x.2),ac (aJ x.1)]:=by
 rw [prt,gr (Al h.2).2.2.1,jN (Al h.1).2.2.1]
theorem Yo {c:UInt8} {a:List UInt8} {l:List (List UInt8)} (h:l≠[]):dO c (a::l)=a++c::dO c l:=by
 cases l with
 | nil=>exact absurd rfl h
 | cons b l=>rfl
theorem WG:∀l:List Slp,dO 32 (l.map prt++[[]])=ac (stT l)
 | []=>rfl
 | x::l=>by
  rw [ahJ,ahU,Yo (by simp),WG l,Bg]
def rdP (p:ByteArray):Option Slp:=match aB 120 p with
 | [a,b]=>some (bR b,bR a)
 | _=>none
def qn:List ByteArray→Option (List Slp)
 | []=>some []
 | p::l=>(rdP p).bind fun x=>(qn l).map (x::·)
abbrev mkB (l:List UInt8):ByteArray:=⟨l.toArray⟩
theorem ad5 {x:Slp} (h:(1≤x.1∧x.1≤200)∧0≤x.2∧x.2≤20):rdP (mkB (prt x))=some x:=by
 unfold rdP aB
 rw [cN,abv (by omega)]
 simp only [ahJ,aiI]
 have e:∀s:ByteArray,(⟨(ac s).toArray⟩:ByteArray)=s:=mC
 rw [e,e,nU (by omega) (by omega),nU (by omega) (by omega)]
theorem Tc:∀l:List Slp,(∀x∈l,(1≤x.1∧x.1≤200)∧0≤x.2∧x.2≤20)→qn ((l.map prt).map mkB)=some l
 | [],_=>rfl
 | x::l,h=>by
  simp only [ahJ,qn]
  rw [ad5 (h x (by simp)),Tc l fun y hy=>h y (by simp [hy])]
  rfl
theorem acp {p:List UInt8} {x:Slp} (h:rdP (mkB p)=some x) (h1:0≤x.1) (h2:0≤x.2):p=prt x:=by
 unfold rdP aB at h
 rw [cN] at h
 have hj:=mO 120 p
 generalize aY 120 p=q at h hj
 match q,h with
 | [a,b],h =>
  simp only [ahJ,aiI,ahN] at h
  subst h
  have ea:=congrArg ac (sK (w:=⟨a.toArray⟩) rfl h2)
  have eb:=congrArg ac (sK (w:=⟨b.toArray⟩) rfl h1)
  rw [cN] at ea eb
  rw [prt,←ea,←eb,←hj]
  rfl
 | [],h=>cases h
 | [_],h=>cases h
 | _::_::_::_,h=>cases h
theorem OK:∀(o:List (List UInt8)) (l:List Slp),qn (o.map mkB)=some l→adf l→o=l.map prt
 | [],l,h,_=>by cases h;rfl
 | p::o,l,h,hp=>by
  simp only [ahJ,qn,ahA,ahK] at h
  obtain⟨x,h1,m,h2,rfl⟩:=h
  have hx:=hp x (by simp)
  rw [acp h1 hx.1 hx.2,OK o m h2 fun y hy=>hp y (by simp [hy])]
  rfl
def pSt (s:ByteArray):Option (List Slp):=if ct (prS (fc s))=true∧stT (prS (fc s))=s then some (prS (fc s)) else none
def sSt (s:ByteArray):Option (List Slp) :=
 if (aB 32 s).length≤9∧(aB 32 s).getLast?=some ⟨⟨[]⟩⟩ then(qn (aB 32 s).dropLast).bind fun l=>if ct l=true then some l else none else none
theorem agX {l:List Slp} (h:ct l=true):pSt (stT l)=some l:=by
 unfold pSt
 rw [adT h,Wv,if_pos ⟨h,rfl⟩]
theorem agR {l:List Slp} (h:ct l=true):sSt (stT l)=some l:=by
 have e:aB 32 (stT l)=(l.map prt).map mkB++[⟨⟨[]⟩⟩]:=by
  unfold aB
  rw [Sa l (AV h),aig]
  rfl
 have hl:=ef h
 unfold sSt
 rw [e,if_pos ⟨by simp;omega,by simp⟩,List.dropLast_concat,Tc l (eZ h)]
 simp only [aht,h,if_true]
theorem adl {s:ByteArray} {l:List Slp} (h:pSt s=some l):ct l=true∧stT l=s:=by
 unfold pSt at h
 split at h
 ·rename_i hc
  cases h
  exact hc
 ·cases h
theorem ab1 {s:ByteArray} {l:List Slp} (h:sSt s=some l):ct l=true∧stT l=s:=by
 unfold sSt at h
 split at h
 case isFalse=>cases h
 rename_i hc
 obtain⟨m,h1,h2⟩:=ahA.1 h
 split at h2
 case isFalse=>cases h2
 rename_i hg
 cases h2
 refine⟨hg,bK ?_⟩
 have hj:=mO 32 (ac s)
 have hne:=em 32 (ac s)
 have hd:=List.dropLast_concat_getLast hne
 have hL:(aY 32 (ac s)).getLast hne=[]:=by
  have:=hc.2
  unfold aB at this
  rw [List.getLast?_map,List.getLast?_eq_some_getLast hne,ahy,ahN] at this
  have:=congrArg ac this
  rw [cN] at this
  exact this
 have h1':qn ((aY 32 (ac s)).dropLast.map mkB)=some l:=by
  rw [←h1]
  unfold aB
  rw [←List.map_dropLast]
 have ho:=OK _ l h1' (AV hg)
 rw [hL,ho] at hd
 rw [←hd,WG] at hj
 exact hj
theorem af1 (s:ByteArray):sSt s=pSt s:=by
 cases h:pSt s with
 | some l =>
  obtain⟨h1,rfl⟩:=adl h
  exact agR h1
 | none =>
  cases h':sSt s with
  | none=>rfl
  | some l =>
   obtain⟨h1,rfl⟩:=ab1 h'
   rw [agX h1] at h
   cases h
def stO (o:Option (List Slp)):List Slp:=o.getD []
theorem Ho (s:ByteArray) (h:s.size≤1048576):js [T s]=some (.ret [sls (stO (pSt s)),B (pSt s).isSome] []):=by
 rw [GZ,←af1]
 have hsp:=fK s 32 (by omega)
 have h32:U ((32:UInt8).toNat:Int)=U 32:=rfl
 rw [h32] at hsp
 have hsz:=fp 32 s
 have hlen:(aB 32 s).length≤1048577:=by
  rw [eK]
  have:=eJ 32 (ac s)
  have:=cQ s
  omega
 have hpos:0<(aB 32 s).length:=by
  rw [eK]
  exact aik.2 (em _ _)
 have hdef:sSt s=if (aB 32 s).length≤9∧(aB 32 s).getLast?=some ⟨⟨[]⟩⟩ then(qn (aB 32 s).dropLast).bind fun l=>if ct l=true then some l else none else none:=rfl
 generalize aB 32 s=ps at hsp hsz hlen hpos hdef
 by_cases h9:ps.length≤9
 case neg =>
  have h9':(9:Int)<(ps.length:Int):=by omega
  rw [hdef,if_neg (fun g=>h9 g.1)]
  simp -implicitDefEqProofs only [ay,ahG,ahH,ahI,hsp,h9']
  rfl
 have h9':¬(9:Int)<(ps.length:Int):=by omega
 have wl:ahu.wrap ((ps.length:Int) - 1)=((ps.length - 1:Nat):Int):=by rw [ah (by omega) (by omega)];omega
 have hel:ao 1 (txs ps) (I ((ps.length - 1:Nat):Int))=some [T (ps[ps.length - 1]'(by omega))]:=by
  have:ps.length - 1<ps.length:=by omega
  simp [this]
 have hlast:ps.getLast?=some (ps[ps.length - 1]'(by omega)):=by
  rw [List.getLast?_eq_getElem?,ahL (by omega)]
 by_cases hl:ps[ps.length - 1]'(by omega)=⟨⟨[]⟩⟩
 case neg =>
  rw [hdef,if_neg (fun g=>hl (by have:=hlast.symm.trans g.2;exact aiv this))]
  simp -implicitDefEqProofs only [ay,ahG,ahH,ahI,hsp,h9',wl,hel,jI,hl]
  rfl
 have hs:dW false 1 (txs ps) (I 0) (I ((ps.length - 1:Nat):Int))=some (txs ps.dropLast):=by
  have:=lQ (z:=1) (k:=.i64) (k':=.i64) (l:=ps.map T) (i:=0) (j:=ps.length - 1) (by omega) (by simp)
  rw [ah2,←List.map_take,←List.dropLast_eq_take] at this
  exact this
 rw [if_pos ⟨h9,by rw [hlast,hl]⟩] at hdef
 simp -implicitDefEqProofs only [ay,ahG,ahH,ahI,hsp,h9',wl,hel,jI,hl,hs]
 have hq:∀w∈ps.dropLast,w.size≤1048576:=fun w hw=>Nat.le_trans (hsz w ((List.dropLast_sublist ps).subset hw)) h
 have hq8:ps.dropLast.length≤8:=by rw [aih];omega
 generalize ps.dropLast=q at hdef hq hq8
 refine cG (fun r=>r=_) (fun(a:List Slp × Nat)=>[sls a.1,txs q,I q.length,I (a.2:Int)]) (fun a=>a.2≤q.length∧a.1.length≤a.2∧qn q=(qn (q.drop a.2)).map (a.1++·)) (fun a=>q.length - a.2)
  (fun o=>o=match qn q with
   | none=>.ret [.arr 2 [],B false] []
   | some r=>.ext 0 [sls r]) ?_ ([],0) ⟨ahW _,ahx _,by simp⟩ rfl ?_
 ·rintro⟨acc,i⟩ ⟨g1,g2,g3⟩
  dsimp only at g1 g2 g3
  by_cases hi:i<q.length
  ·have hi':(i:Int)<(q.length:Int):=by omega
   have hw:ahu.wrap ((i:Int)+1)=((i+1:Nat):Int):=by rw [ah (by omega) (by omega)];omega
   have eq:ao 1 (txs q) (I (i:Int))=some [T q[i]]:=by simp [hi]
   have hz:=hq q[i] (ahT hi)
   have h2:=fK q[i] 120 (by omega)
   have h120:U ((120:UInt8).toNat:Int)=U 120:=rfl
   rw [h120] at h2
   have hz2:=fp 120 q[i]
   rw [ah8 hi] at g3
   simp only [qn,rdP] at g3
   generalize aB 120 q[i]=w at h2 hz2 g3
   match w,h2,hz2,g3 with
   | [a,b],h2,hz2,g3 =>
    have ra:=fq a (by have:=hz2 a (by simp);omega)
    have rb:=fq b (by have:=hz2 b (by simp);omega)
    have e0:ao 1 (txs [a,b]) (I 0)=some [T a]:=rfl
    have e1:ao 1 (txs [a,b]) (I 1)=some [T b]:=rfl
    have ha:=je (l:=acc) (m:=[(bR b,bR a)]) (by simp;omega)
    have hl2:((aiN [a,b]:Nat):Int)=2:=rfl
    refine .inl ⟨(acc++[(bR b,bR a)],i+1),?_,⟨hi,by simp;omega,?_⟩,by dsimp only;omega⟩
    ·simp -implicitDefEqProofs only [ay,ahG,ahH,ahI,hi',eq,h2,hl2,e0,e1,ra,rb,ad7,Mg,jj,ha,hw]
    ·rw [g3]
     simp only [aht,Option.map_map]
     congr 1
     funext r
     simp
   | [],h2,hz2,g3 =>
    refine .inr ⟨.ret [.arr 2 [],B false] [],?_,rfl,?_⟩
    ·simp -implicitDefEqProofs only [ay,ahG,ahH,ahI,hi',eq,h2,aiw,Int.natCast_zero,show((0:Nat):Int)=0 from rfl]
    ·rw [g3];rfl
   | [a],h2,hz2,g3 =>
    refine .inr ⟨.ret [.arr 2 [],B false] [],?_,rfl,?_⟩
    ·have hl2:((aiN [a]:Nat):Int)=1:=rfl
     simp -implicitDefEqProofs only [ay,ahG,ahH,ahI,hi',eq,h2,hl2]
    ·rw [g3];rfl
   | a::b::c::t,h2,hz2,g3 =>
    have hl2:¬((aiN (a::b::c::t):Nat):Int)=2:=by simp only [ahP];omega
    refine .inr ⟨.ret [.arr 2 [],B false] [],?_,rfl,?_⟩
    ·simp -implicitDefEqProofs only [ay,ahG,ahH,ahI,hi',eq,h2,hl2]
    ·rw [g3];rfl
  ·have hi':¬(i:Int)<(q.length:Int):=by omega
   rw [aia (by omega)] at g3
   refine .inr ⟨.ext 0 [sls acc],?_,rfl,?_⟩
   ·simp -implicitDefEqProofs only [ay,ahG,ahH,ahI,hi']
   ·rw [g3]
    simp [qn]
 ·rintro o rfl
  rw [hdef]
  cases hr:qn q with
  | none=>rfl
  | some r =>
   have hlr:r.length≤1048576:=by
    have key:∀(q:List ByteArray) (r:List Slp),qn q=some r→r.length=q.length:=by
     intro q
     induction q with
     | nil=>intro r h;cases h;rfl
     | cons p q ih =>
      intro r h
      simp only [qn,ahA,ahK] at h
      obtain⟨x,_,m,h2,rfl⟩:=h
      simp [ih m h2]
    rw [key q r hr]
    omega
   simp -implicitDefEqProofs only [ay,ahG,ahH,ahI,KE r hlr,afV,agp]
   unfold ckS stO
   cases ct r<;>rfl
end Go.Proofs.YtjafgdefcggjcaaGreatDoor

namespace Go.Proofs.YtjafgdefcggjcaaGreatDoor
open Go Go.V
abbrev Nt:=Int × Int × Int
abbrev nt (x:Nt):D:=.agg [I x.1,I x.2.1,I x.2.2]
abbrev nts (l:List Nt):D:=.arr 3 (l.map nt)
def lR (x:Nt):Bool:=decide (0≤x.1∧x.1≤9999)&&decide (0≤x.2.1∧x.2.1≤3)&&decide (1≤x.2.2∧x.2.2≤99999)
theorem ua (x:Nt):oD [nt x]=some (.ret [B (lR x)] []):=by
 rw [RB]
 by_cases h1:0≤x.1∧x.1≤9999<;>by_cases h2:0≤x.2.1∧x.2.1≤3<;>simp [bn,lR,h1,h2]
theorem kp (a:Int):hY [I a]=some (.ret [B (decide (0≤a∧a≤9999))] []):=by
 rw [Js]
 simp [bz]
theorem kR (x:Nt):kV [nt x]=some (.ret [B (lR x)] []):=by
 rw [Qe]
 by_cases h1:0≤x.1∧x.1≤9999<;>by_cases h2:0≤x.2.1∧x.2.1≤3<;>simp [bz,kp,lR,h1,h2]
def pNt (l:List Nt) (i:Nat) (x:Nt):Bool:=lR x && !(decide (0<i)&&decide (x.1<(l.getD (i - 1) (0,0,0)).1))
def gk (l:List Nt):Bool:=mT (pNt l) 0 l&&decide (l.length≤24)
theorem dS (l:List Nt) (h:l.length≤1048576):gw [nts l]=some (.ret [B (gk l)] []):=by
 rw [Ri]
 simp only [aK,ahw,aht]
 refine aD _ (pA l (fun i=>[nts l,nts l,I l.length,I i]) (pNt l) (.ret [B false] []) (.ext 0 [nts l]) (fun i hi=>?_) ?_ rfl rfl rfl) ?_
 ·have hw:ahu.wrap ((i:Int)+1)=(i:Int)+1:=ah (by omega) (by omega)
  cases h1:lR l[i]
  ·simp [hi,ua,h1,pNt]
  ·by_cases h0:0<i
   ·have hw2:ahu.wrap ((i:Int) - 1)=((i - 1:Nat):Int):=by rw [ah (by omega) (by omega)];omega
    have hy:i - 1<l.length:=by omega
    by_cases h2:l[i].1<l[i - 1].1<;>simp [hi,hy,ua,h1,pNt,hw,hw2,h0,h2]
   ·simp [hi,ua,h1,pNt,hw,h0]
 ·simp
 ·by_cases hg:mT (pNt l) 0 l=true<;>simp [hg,gk]
  omega
theorem cm (l:List Nt) (h:l.length≤1048576):eV [nts l]=some (.ret [B (gk l)] []):=by
 rw [Ma]
 simp only [aK,ahw,aht]
 refine aD _ (pA l (fun i=>[nts l,nts l,I l.length,I i]) (pNt l) (.ret [B false] []) (.ext 0 [nts l]) (fun i hi=>?_) ?_ rfl rfl rfl) ?_
 ·have hw:ahu.wrap ((i:Int)+1)=(i:Int)+1:=ah (by omega) (by omega)
  cases h1:lR l[i]
  ·simp [hi,kR,h1,pNt]
  ·by_cases h0:0<i
   ·have hw2:ahu.wrap ((i:Int) - 1)=((i - 1:Nat):Int):=by rw [ah (by omega) (by omega)];omega
    have hy:i - 1<l.length:=by omega
    by_cases h2:l[i].1<l[i - 1].1<;>simp [hi,hy,kR,h1,pNt,hw,hw2,h0,h2]
   ·simp [hi,kR,h1,pNt,hw,h0]
 ·simp
 ·by_cases hg:mT (pNt l) 0 l=true<;>simp [hg,gk]
  omega
end Go.Proofs.YtjafgdefcggjcaaGreatDoor

namespace Go.Proofs.YtjafgdefcggjcaaGreatDoor
open Go Go.V
theorem wL (a:Int):qL [I a]=some (.ret [B (decide (0≤a∧a≤9999))] []):=by
 rw [TR]
 simp [bn]
theorem eh (a:Int):eY [I a]=some (.ret [B (decide (0≤a∧a≤1000000))] []):=by
 rw [BO]
 simp [bz]
def wi (g:Int) (x:Nt):Int:=if x.2.1=0∨x.2.1=3 then ahu.wrap (g+x.2.2) else ahu.wrap (g - x.2.2)
theorem sj (g:Int) (x:Nt):jM [I g,nt x]=some (.ret [I (wi g x)] []):=by
 rw [MR]
 by_cases h1:x.2.1=0
 ·simp [h1,wi]
 ·by_cases h2:x.2.1=3<;>simp [h1,h2,wi]
theorem uo (x:Nt):lf [nt x]=some (.ret [I (if x.2.1=0∨x.2.1=3 then x.2.2 else ahu.wrap (-x.2.2))] []):=by
 rw [RT]
 by_cases h1:x.2.1=0
 ·simp [h1]
 ·by_cases h2:x.2.1=3<;>simp [h1,h2]
theorem TK (g:Int) (x:Nt):ahu.wrap (g+if x.2.1=0∨x.2.1=3 then x.2.2 else ahu.wrap (-x.2.2))=wi g x:=by
 unfold wi
 split
 ·rfl
 ·exact adv
def bB (l:List Nt) (s d:Int):Int:=l.foldl (fun g x=>if x.1≤d then wi g x else g) s
def er (l:List Nt) (s d:Int):Bool:=gk l&&decide (0≤s∧s≤1000000)&&decide (0≤d∧d≤9999)
theorem Gh (l:List Nt) (s d:Int) (h:l.length≤1048576):jc [nts l,I s,I d]=some (.ret [I (if er l s d then bB l s d else 0),B (er l s d)] []):=by
 rw [GK]
 cases h1:gk l
 ·simp [dS l h,h1,er]
 by_cases h2:0≤s∧s≤1000000
 case neg=>simp [dS l h,bn,wL,h1,h2,er]
 by_cases h3:0≤d∧d≤9999
 case neg=>simp [dS l h,bn,wL,h1,h2,h3,er]
 simp only [dS l h,bn,wL,h1,h2,h3,er,am,ak,bd,aht,bG,bQ,aN,aG,bv,ahD,ahv,if_false,decide_true,aK,ahw,and_self,aip,if_true]
 refine aD _ (aQ l.length (fun i=>[I (bB (l.take i) s d),I d,nts l,I l.length,I i]) (.ext 0 [I (bB l s d)]) (fun i hi=>?_) ?_ rfl rfl) ?_
 ·have hw:ahu.wrap ((i:Int)+1)=(i:Int)+1:=ah (by omega) (by omega)
  have hf:bB (l.take (i+1)) s d=if l[i].1≤d then wi (bB (l.take i) s d) l[i] else bB (l.take i) s d:=by
   unfold bB
   rw [ahO hi,aiK]
   rfl
  by_cases h4:l[i].1≤d<;>simp [hi,h4,hw,hf,sj]
 ·simp
 ·simp
theorem Hw (l:List Nt) (s d:Int) (h:l.length≤1048576):jk [nts l,I s,I d]=some (.ret [I (if er l s d then bB l s d else 0),B (er l s d)] []):=by
 rw [FV]
 cases h1:gk l
 ·simp [cm l h,h1,er]
 by_cases h2:0≤s∧s≤1000000
 case neg=>simp [cm l h,eh,kp,h1,h2,er]
 by_cases h3:0≤d∧d≤9999
 case neg=>simp [cm l h,eh,kp,h1,h2,h3,er]
 simp only [cm l h,eh,kp,h1,h2,h3,er,am,ak,bd,aht,bG,bQ,aN,aG,bv,ahD,ahv,if_false,decide_true,aK,ahw,and_self,aip,if_true]
 refine aD _ (aQ l.length (fun i=>[I (bB (l.take i) s d),I d,nts l,I l.length,I i]) (.ext 0 [I (bB l s d)]) (fun i hi=>?_) ?_ rfl rfl) ?_
 ·have hw:ahu.wrap ((i:Int)+1)=(i:Int)+1:=ah (by omega) (by omega)
  have hf:bB (l.take (i+1)) s d=if l[i].1≤d then wi (bB (l.take i) s d) l[i] else bB (l.take i) s d:=by
   unfold bB
   rw [ahO hi,aiK]
   rfl
  by_cases h4:l[i].1≤d<;>simp [hi,h4,hw,hf,uo,TK]
 ·simp
 ·simp
def lT (i:Nat) (a:Int × Int × Int) (x:Nt):Int × Int × Int:=if a.2.2<0∨wi a.1 x<a.2.1 then(wi a.1 x,wi a.1 x,i) else(wi a.1 x,a.2.1,a.2.2)
def fR (l:List Nt) (s:Int):Bool:=gk l&&decide (0≤s∧s≤1000000) && !decide (l.length=0)
def gu (l:List Nt) (s:Int):Int × Int:=if fR l s then(Cd lT 0 l (s,0,-1)).2 else(0,0)
theorem Fj (l:List Nt) (s:Int) (h:l.length≤1048576):jf [nts l,I s]=some (.ret [I (gu l s).1,I (gu l s).2,B (fR l s)] []):=by
 rw [Fp]
 cases h1:gk l
 ·simp [dS l h,h1,fR,gu]
 by_cases h2:0≤s∧s≤1000000
 case neg=>simp [dS l h,bn,h1,h2,fR,gu]
 by_cases h3:(l.length:Int)=0
 case pos =>
  have h3':l=[]:=aij (by omega)
  subst h3'
  simp [dS [] h,bn,h1,h2,fR,gu]
 have h3':¬l=[]:=fun e=>h3 (by simp [e])
 have hok:fR l s=true:=by simp [fR,h1,h2,h3']
 simp only [dS l h,bn,h1,h2,h3,am,ak,bd,aht,bG,bQ,aN,aG,bv,ahD,ahv,if_false,decide_true,decide_false,eR,aK,ahw,and_self,aip,if_true]
 refine aD _ (MP l (fun i a=>[I a.1,I a.2.1,I a.2.2,nts l,I l.length,I i]) (fun _ _=>True) lT (fun a=>.ext 0 [I a.2.1,I a.2.2]) (s,0,-1) (fun i a hi _=>⟨?_,trivial⟩) (fun a _=>?_) (fun _=>rfl) trivial rfl) ?_
 ·have hw:ahu.wrap ((i:Int)+1)=(i:Int)+1:=ah (by omega) (by omega)
  by_cases h4:a.2.2<0
  ·simp [hi,h4,hw,lT,sj]
  ·by_cases h5:wi a.1 l[i]<a.2.1<;>simp [hi,h4,h5,hw,lT,sj]
 ·simp
 ·simp [gu,hok]
theorem Gb (l:List Nt) (s:Int) (h:l.length≤1048576):jq [nts l,I s]=some (.ret [I (gu l s).1,I (gu l s).2,B (fR l s)] []):=by
 rw [FG]
 cases h1:gk l
 ·simp [cm l h,h1,fR,gu]
 by_cases h2:0≤s∧s≤1000000
 case neg=>simp [cm l h,eh,h1,h2,fR,gu]
 by_cases h3:(l.length:Int)=0
 case pos =>
  have h3':l=[]:=aij (by omega)
  subst h3'
  simp [cm [] h,eh,h1,h2,fR,gu]
 have h3':¬l=[]:=fun e=>h3 (by simp [e])
 have hok:fR l s=true:=by simp [fR,h1,h2,h3']
 simp only [cm l h,eh,h1,h2,h3,am,ak,bd,aht,bG,bQ,aN,aG,bv,ahD,ahv,if_false,decide_true,decide_false,eR,aK,ahw,and_self,aip,if_true]
 refine aD _ (MP l (fun i a=>[I a.1,I a.2.1,I a.2.2,nts l,I l.length,I i]) (fun _ _=>True) lT (fun a=>.ext 0 [I a.2.1,I a.2.2]) (s,0,-1) (fun i a hi _=>⟨?_,trivial⟩) (fun a _=>?_) (fun _=>rfl) trivial rfl) ?_
 ·have hw:ahu.wrap ((i:Int)+1)=(i:Int)+1:=ah (by omega) (by omega)
  by_cases h4:a.2.2<0
  ·simp [hi,h4,hw,lT,uo,TK]
  ·by_cases h5:wi a.1 l[i]<a.2.1<;>simp [hi,h4,h5,hw,lT,uo,TK]
 ·simp
 ·simp [gu,hok]
end Go.Proofs.YtjafgdefcggjcaaGreatDoor

namespace Go.Proofs.YtjafgdefcggjcaaGreatDoor
open Go Go.V
theorem pJ {x:Nt}:lR x=true↔(0≤x.1∧x.1≤9999)∧(0≤x.2.1∧x.2.1≤3)∧(1≤x.2.2∧x.2.2≤99999):=by
 simp only [lR,ah5,decide_eq_true_eq,and_assoc]
def ckN (b:Int) (x:Nt):Int:=(31*b+17*x.1+5*x.2.1+x.2.2) % 9973
theorem qX (b:Int) (x:Nt):0≤ckN b x∧ckN b x≤9972:=by
 unfold ckN
 omega
theorem XC {b:Int} {x:Nt} (hb:0≤b∧b≤9972) (hx:lR x=true):ahu.wrap (31*b)=31*b∧ahu.wrap (17*x.1)=17*x.1∧ahu.wrap (31*b+17*x.1)=31*b+17*x.1 ∧
  ahu.wrap (5*x.2.1)=5*x.2.1∧ahu.wrap (31*b+17*x.1+5*x.2.1)=31*b+17*x.1+5*x.2.1∧ahu.wrap (31*b+17*x.1+5*x.2.1+x.2.2)=31*b+17*x.1+5*x.2.1+x.2.2 ∧
  (31*b+17*x.1+5*x.2.1+x.2.2).tmod 9973=ckN b x:=by
 obtain⟨h1,h2,h3⟩:=pJ.1 hx
 refine⟨ah (by omega) (by omega),ah (by omega) (by omega),ah (by omega) (by omega),ah (by omega) (by omega),ah (by omega) (by omega),ah (by omega) (by omega),?_⟩
 rw [Int.tmod_eq_emod_of_nonneg (by omega)]
 rfl
theorem HF {b:Int} {x:Nt} (hb:0≤b∧b≤9972) (hx:lR x=true):ko [I b,nt x]=some (.ret [I (ckN b x)] []):=by
 rw [Va]
 obtain⟨h1,h2,h3,h4,h5,h6,h7⟩:=XC hb hx
 simp -implicitDefEqProofs [h1,h2,h3,h4,h5,h6,h7]
theorem Ae {b:Int} {x:Nt} (hb:0≤b∧b≤9972) (hx:lR x=true):gU [I b,nt x]=some (.ret [I (ckN b x)] []):=by
 rw [Pm]
 obtain⟨h1,h2,h3,h4,h5,h6,h7⟩:=XC hb hx
 simp -implicitDefEqProofs [h1,h2,h3,h4,h5,h6,h7]
def lnT (x:Nt) (c:Int):ByteArray:=aJ x.1++⟨#[32]⟩++aJ x.2.1++⟨#[32]⟩++aJ x.2.2++⟨#[32]⟩++aJ c++⟨#[10]⟩
theorem DV {x:Nt} {c:Int} (hx:lR x=true) (hc:0≤c∧c≤9972):kZ [nt x,I c]=some (.ret [T (lnT x c)] []):=by
 rw [Qr]
 obtain⟨h1,h2,h3⟩:=pJ.1 hx
 have s1:=cq 9 (n:=x.1) (by omega) (by omega)
 have s2:=cq 9 (n:=x.2.1) (by omega) (by omega)
 have s3:=cq 9 (n:=x.2.2) (by omega) (by omega)
 have s4:=cq 9 (n:=c) (by omega) (by omega)
 have n1:=cE (n:=x.1) (by omega) (by omega)
 have n2:=cE (n:=x.2.1) (by omega) (by omega)
 have n3:=cE (n:=x.2.2) (by omega) (by omega)
 have n4:=cE (n:=c) (by omega) (by omega)
 simp -implicitDefEqProofs (disch:=(first | assumption | (simp only [ahz,sz1];omega))) [n1,n2,n3,n4,aaO,-fH,lnT]
theorem Tq (l:List Int) (sep:ByteArray) (hl:l.length≤1048576) (hr:∀n∈l,-9223372036854775808≤n∧n≤9223372036854775807) (hz:(pP (l.map aJ) sep).size≤140737488355328):cV [ja l,T sep]=some (.ret [T (pP (l.map aJ) sep)] []):=by
 rw [AK]
 simp only [aZ,aht,aK,ahw]
 refine aD _ (aQ l.length (fun i=>[T sep,.arr 1 (((l.take i).map aJ).map T),ja l,I l.length,I (i:Int)]) (.ext 0 [T sep,.arr 1 ((l.map aJ).map T)]) (fun i hi=>?_) ?_ rfl rfl) ?_
 ·have hi':(i:Int)<(l.length:Int):=by omega
  have hw:ahu.wrap ((i:Int)+1)=((i+1:Nat):Int):=by rw [ah (by omega) (by omega)];omega
  have hel:ao 1 (ja l) (I (i:Int))=some [I l[i]]:=by simp [hi]
  have hr':=hr l[i] (ahT hi)
  have hIt:=MK hr'.1 hr'.2
  have e1:(((l.take i).map aJ).map T).length+[T (aJ l[i])].length=i+1:=by
   simp only [ahw,aiQ,ahP,aiw]
   omega
  have hap:(i+1)*16≤140737488355328∧i+1≤1152921504606846976:=by omega
  have hck:cK (.arr 1 [T (aJ l[i])])=some (.arr 1 [T (aJ l[i])]):=rz [aJ l[i]]
  have htk:((l.take (i+1)).map aJ).map T=((l.take i).map aJ).map T++[T (aJ l[i])]:=by
   rw [ahO hi,aig,aig]
   rfl
  simp only [ak,aF,be,hi',decide_true,aht,aG,if_true,hel,ahy,bh,aP,bC,hIt,am,vb,hck,gn,e1,hap,and_self,br,hw,htk]
 ·have hi':¬(l.length:Int)<(l.length:Int):=by omega
  simp only [ak,aF,be,hi',decide_false,aht,aG,ahv,if_false,ah4]
 ·have hj:CU [.arr 1 ((l.map aJ).map T),T sep]=some (.ret [T (pP (l.map aJ) sep)] []):=by
   simp only [CU,AP,aht,ahw]
   rw [if_pos ⟨by omega,hz⟩]
  simp only [bE,ah0,dZ,if_true,ak,aF,ci,cg,aht,hj,am]
theorem adN {r:Option Out} {rs us:List D} {k:List D→List D→Option Out} {o:Option Out} (h:r=some (.ret rs us)) (hk:k rs us=o):ae r k=o:=by rw [h];exact hk
theorem ag5 (a b c d:ByteArray) (s:ByteArray):pP [a,b,c,d] s=a++s++b++s++c++s++d:=by
 apply bK
 simp only [bk]
 unfold pP
 rw [cN]
 simp [Lib.join,List.intercalate,List.intersperse,ac]
theorem xC {x:Nt} {c:Int} (hx:lR x=true) (hc:0≤c∧c≤9972):iP [nt x,I c]=some (.ret [T (lnT x c)] []):=by
 rw [LA]
 obtain⟨h1,h2,h3⟩:=pJ.1 hx
 have s1:=cq 9 (n:=x.1) (by omega) (by omega)
 have s2:=cq 9 (n:=x.2.1) (by omega) (by omega)
 have s3:=cq 9 (n:=x.2.2) (by omega) (by omega)
 have s4:=cq 9 (n:=c) (by omega) (by omega)
 have hj4:pP ([x.1,x.2.1,x.2.2,c].map aJ) ⟨#[32]⟩=aJ x.1++⟨#[32]⟩++aJ x.2.1++⟨#[32]⟩++aJ x.2.2++⟨#[32]⟩++aJ c:=ag5 _ _ _ _ _
 have hjz:(pP ([x.1,x.2.1,x.2.2,c].map aJ) ⟨#[32]⟩).size≤100:=by
  rw [hj4]
  simp only [ahz,sz1]
  omega
 have hj:=Tq [x.1,x.2.1,x.2.2,c] ⟨#[32]⟩ (by simp) (by simp;omega) (by omega)
 rw [hj4] at hj
 have hm:aH 1 [I x.1,I x.2.1,I x.2.2,I c]=some (ja [x.1,x.2.1,x.2.2,c]):=by simp [aH,lW]
 simp -implicitDefEqProofs [hm]
 refine adN (hj:cV [ja [x.1,x.2.1,x.2.2,c],T ⟨#[32]⟩]=_) ?_
 simp -implicitDefEqProofs (disch:=(first | assumption | (simp only [ahz,sz1];omega))) [aaO,-fH,lnT]
theorem SQ (x:Nt) (c:Int):ac (lnT x c)=(ac (aJ x.1)++32::(ac (aJ x.2.1)++32::(ac (aJ x.2.2)++32::ac (aJ c))))++[10]:=by
 simp only [lnT,bk,ahQ,ahU,show ac ⟨#[32]⟩=[32] from rfl,show ac ⟨#[10]⟩=[10] from rfl,aie]
def lnL (x:Nt) (c:Int):List UInt8:=ac (aJ x.1)++32::(ac (aJ x.2.1)++32::(ac (aJ x.2.2)++32::ac (aJ c)))
theorem ZU {x:Nt} {c:Int} {s:ByteArray}:lnT x c=s++⟨#[10]⟩↔ac s=lnL x c:=by
 constructor
 ·intro h
  have:=congrArg ac h
  rw [SQ,bk] at this
  exact(List.append_inj_left' this rfl).symm
 ·intro h
  apply bK
  rw [SQ,bk,h]
  rfl
theorem abc {x:Nt} {c:Int} (hx:lR x=true) (hc:0≤c∧c≤9972) {s:ByteArray} (hs:ac s=lnL x c):fc s=[x.1,x.2.1,x.2.2,c]:=by
 obtain⟨h1,h2,h3⟩:=pJ.1 hx
 have d1:=ju (n:=x.1) (by omega)
 have d2:=ju (n:=x.2.1) (by omega)
 have d3:=ju (n:=x.2.2) (by omega)
 have d4:=ju (n:=c) (by omega)
 refine adg ?_ (by simp;omega) ?_
 ·rw [hs]
  intro b hb
  simp only [lnL,aif,ahR] at hb
  rcases hb with hb | rfl | hb | rfl | hb | rfl | hb<;>first
   | decide
   | exact EX (d1.2 b hb)
   | exact EX (d2.2 b hb)
   | exact EX (d3.2 b hb)
   | exact EX (d4.2 b hb)
 ·rw [hs,lnL,rf d1.1 d1.2 (by decide),rf d2.1 d2.2 (by decide),rf d3.1 d3.2 (by decide),Ta d4.1 d4.2]
  rfl
theorem Zp {x:Nt} {c:Int} (hx:lR x=true) (hc:0≤c∧c≤9972) {s:ByteArray} (hs:ac s=lnL x c):aB 32 s=[aJ x.1,aJ x.2.1,aJ x.2.2,aJ c]:=by
 obtain⟨h1,h2,h3⟩:=pJ.1 hx
 have d1:=ju (n:=x.1) (by omega)
 have d2:=ju (n:=x.2.1) (by omega)
 have d3:=ju (n:=x.2.2) (by omega)
 have d4:=ju (n:=c) (by omega)
 unfold aB
 rw [hs,lnL,gr (vZ d1.2 (by decide)),gr (vZ d2.2 (by decide)),gr (vZ d3.2 (by decide)),jN (vZ d4.2 (by decide))]
 simp only [ahJ,aiI,mC]
theorem jO {l:List Nt} {x:Nt} (h:gk (l++[x])=true):lR x=true∧l.length+1≤24:=by
 unfold gk at h
 simp only [ah5,decide_eq_true_eq] at h
 refine⟨?_,by simpa using h.2⟩
 have key:∀(p:Nat→Nt→Bool) (m:List Nt) (i:Nat),mT p i (m++[x])=true→p (i+m.length) x=true:=by
  intro p m
  induction m with
  | nil=>intro i hi;simpa [mT] using hi
  | cons y m ih =>
   intro i hi
   simp only [ahU,mT,ah5] at hi
   have:=ih (i+1) hi.2
   rw [ahP,show i+(m.length+1)=i+1+m.length by omega]
   exact this
 have:=key _ _ _ h.1
 simp only [pNt,ah5] at this
 exact this.1
def RN (l:List Nt) (c:Int) (s:ByteArray):Option Nt :=
 match fc s with
 | [a,b,g,_]=>if gk (l++[(a,b,g)])=true∧lnT (a,b,g) (ckN c (a,b,g))=s++⟨#[10]⟩ then some (a,b,g) else none
 | _=>none
def Hp (l:List Nt) (c:Int) (s:ByteArray):Option Nt :=
 match aB 32 s with
 | [a,b,g,_]=>if gk (l++[(bR a,bR b,bR g)])=true∧lnT (bR a,bR b,bR g) (ckN c (bR a,bR b,bR g))=s++⟨#[10]⟩ then some (bR a,bR b,bR g) else none
 | _=>none
theorem aaK {l:List Nt} {c:Int} {s:ByteArray} {x:Nt} (h:RN l c s=some x):gk (l++[x])=true∧lnT x (ckN c x)=s++⟨#[10]⟩:=by
 unfold RN at h
 split at h
 ·split at h
  ·rename_i hc
   cases h
   exact hc
  ·cases h
 ·cases h
theorem Sv {l:List Nt} {c:Int} {s:ByteArray} {x:Nt} (h:Hp l c s=some x):gk (l++[x])=true∧lnT x (ckN c x)=s++⟨#[10]⟩:=by
 unfold Hp at h
 split at h
 ·split at h
  ·rename_i hc
   cases h
   exact hc
  ·cases h
 ·cases h
theorem ae7 {l:List Nt} {c:Int} {s:ByteArray} {x:Nt} (h:gk (l++[x])=true) (hs:lnT x (ckN c x)=s++⟨#[10]⟩):RN l c s=some x:=by
 have hx:=(jO h).1
 unfold RN
 rw [abc hx (qX c x) (ZU.1 hs)]
 simp only
 rw [if_pos ⟨h,hs⟩]
theorem aey {l:List Nt} {c:Int} {s:ByteArray} {x:Nt} (h:gk (l++[x])=true) (hs:lnT x (ckN c x)=s++⟨#[10]⟩):Hp l c s=some x:=by
 have hx:=(jO h).1
 obtain⟨h1,h2,h3⟩:=pJ.1 hx
 unfold Hp
 rw [Zp hx (qX c x) (ZU.1 hs)]
 simp only
 rw [nU (n:=x.1) (by omega) (by omega),nU (n:=x.2.1) (by omega) (by omega),nU (n:=x.2.2) (by omega) (by omega),if_pos ⟨h,hs⟩]
theorem afL (l:List Nt) (c:Int) (s:ByteArray):RN l c s=Hp l c s:=by
 cases hi:RN l c s with
 | some x =>
  obtain⟨h1,h2⟩:=aaK hi
  rw [aey h1 h2]
 | none =>
  cases hs:Hp l c s with
  | none=>rfl
  | some x =>
   obtain⟨h1,h2⟩:=Sv hs
   rw [ae7 h1 h2] at hi
   cases hi
def kL:List (List UInt8)→List Nt→Int→Nat→List Nt × Nat
 | [],l,_,u=>(l,u)
 | m::ms,l,c,u=>match Hp l c ⟨m.toArray⟩ with
  | some x=>kL ms (l++[x]) (ckN c x) (u+(m.length+1))
  | none=>(l,u)
end Go.Proofs.YtjafgdefcggjcaaGreatDoor

namespace Go.Proofs.YtjafgdefcggjcaaGreatDoor
open Go Go.V
abbrev mkT (l:List UInt8):ByteArray:=⟨l.toArray⟩
theorem pH (l:List UInt8):(mkT l).size=l.length:=rfl
theorem OX (c:UInt8):∀(l:List UInt8),∀m∈aY c l,m.length≤l.length:=by
 intro l m hm
 have:=fp c (mkT l) (mkT m) (aiJ.2 ⟨m,by rw [cN];exact hm,rfl⟩)
 exact this
theorem YC (x:Nt):stD 3 (.agg [I 0,I 0,I 0]) (.ref 0 0) (nt x)=some (nt x):=by simp
theorem wF {l:List Nt} {m:List Nt} (h:l.length+m.length≤1048576):bA 3 24 (nts l) (nts m)=some (nts (l++m)):=by
 have e1:(l.map nt).length+(m.map nt).length=l.length+m.length:=by simp
 have h1:(l.length+m.length)*24≤140737488355328∧l.length+m.length≤1152921504606846976:=by omega
 rw [gn,e1,if_pos h1,←aig]
theorem Vo (x:Nt):aH 3 [nt x]=some (nts [x]):=by simp [aH,lW]
theorem Mz (x:Nt):bf true 3 0 (nt x)=some (nt x):=by simp
theorem UG (l:List Nt):cK (nts l)=some (nts l):=pw fun _=>rfl
theorem acn (a b c:Int):dw [(0,1),(1,1),(2,1)] [I 0,I 0,I 0] [I a,I b,I c]=some (nt (a,b,c)):=by
 simp [dw,HR]
theorem ub (s:ByteArray) (h:s.size≤1048576):oU [T s]=some (.ret [nts (kL (aY 10 (ac s)).dropLast [] 7 0).1,I ((kL (aY 10 (ac s)).dropLast [] 7 0).2:Int)] []):=by
 rw [PJ]
 have hs:bU [T s,D.v (ahS IntKind.u8 10)]=some (.ret [.arr 1 ((aB 10 s).map T)] []):=fK s 10 (by omega)
 have hll:=eJ 10 (ac s)
 have hsz:s.size=(ac s).length:=rfl
 have hne:=em 10 (ac s)
 have hmem:∀m∈(aY 10 (ac s)).dropLast,m.length≤1048576:=by
  intro m hm
  have:=OX 10 (ac s) m (List.dropLast_subset _ hm)
  omega
 have hlen:(aY 10 (ac s)).dropLast.length+1=(aY 10 (ac s)).length:=by
  rw [aih]
  have:=aik.2 hne
  omega
 have hpre:dW false 1 (.arr 1 ((aB 10 s).map T)) (I 0) (I ((aY 10 (ac s)).dropLast.length:Int))=some (.arr 1 (((aY 10 (ac s)).dropLast.map mkT).map T)):=by
  have:=lQ (z:=1) (i:=0) (j:=(aY 10 (ac s)).dropLast.length) (l:=(aB 10 s).map T) (k:=.i64) (k':=.i64) (ahW _) (by simp [aB])
  rw [show I 0=D.v (ahS .i64 ((0:Nat):Int)) from rfl,this]
  rw [ah2,aih,aB]
  simp -implicitDefEqProofs only [←List.map_take,List.dropLast_eq_take]
 rw [hs]
 have e1:((aB 10 s).map T).length=(aY 10 (ac s)).length:=by simp [aB]
 have hw:ahu.wrap (((aY 10 (ac s)).length:Int) - 1)=((aY 10 (ac s)).dropLast.length:Int):=by
  rw [ah (by omega) (by omega)]
  omega
 simp -implicitDefEqProofs only [am,ak,aK,e1,aht,ca,hw,hpre,ahw]
 generalize (aY 10 (ac s)).dropLast=ms at hmem hlen
 have hms:ms.length≤1048576:=by omega
 clear hpre hw hs e1 hlen hne hll hsz
 refine aD _ (Ba ms (fun i (a:List Nt × Nat × Int)=>[nts a.1,I (a.2.1:Int),I a.2.2,.arr 1 ((ms.map mkT).map T),I (ms.length:Int),I (i:Int)]) (fun i a=>a.1.length≤24∧(0≤a.2.2∧a.2.2≤9972)∧a.2.1≤i*1048577)
  (fun _ m a=>match Hp a.1 a.2.2 (mkT m) with
   | some x=>.inl (a.1++[x],a.2.1+(m.length+1),ckN a.2.2 x)
   | none=>.inr (.ext 0 [nts a.1,I (a.2.1:Int)])) (fun a=>.ext 0 [nts a.1,I (a.2.1:Int)]) ?_ ?_ ([],0,7) ⟨ahW _,⟨by decide,by decide⟩,ahW _⟩ rfl) ?_
 ·rintro i m ⟨l,u,c⟩ hm ⟨hl,hc,hu⟩
  simp only at hl hc hu
  have hi:i<ms.length:=(ah9.1 hm).1
  have hmz:m.length≤1048576:=hmem m (List.mem_of_getElem? hm)
  have hi':(i:Int)<(ms.length:Int):=by omega
  have hel:ao 1 (.arr 1 ((ms.map mkT).map T)) (I (i:Int))=some [T (mkT m)]:=by simp [hm]
  have hsp:bU [T (mkT m),D.v (ahS IntKind.u8 32)]=some (.ret [.arr 1 ((aB 32 (mkT m)).map T)] []):=fK (mkT m) 32 (by rw [pH];omega)
  have hz:=fp 32 (mkT m)
  have hll:(aB 32 (mkT m)).length≤1048577:=by
   have h1:=eJ 32 (ac (mkT m))
   have h2:=eK 32 (mkT m)
   have h3:(ac (mkT m)).length=m.length:=rfl
   omega
  simp -implicitDefEqProofs only [pH] at hz
  simp -implicitDefEqProofs only [ak,aF,be,hi',decide_true,aht,aG,if_true,hel,ahy,bh,aP,bC,hsp,am,aK,ahw,iz]
  by_cases h4:(aB 32 (mkT m)).length=4
  ·obtain⟨w0,w1,w2,w3,hws⟩:∃w0 w1 w2 w3,aB 32 (mkT m)=[w0,w1,w2,w3]:=by
    generalize aB 32 (mkT m)=ws at h4
    match ws,h4 with
    | [a,b,c,d],_=>exact⟨a,b,c,d,rfl⟩
   rw [hws] at hz ⊢
   have q0:=fq w0 (by have:=hz w0 (by simp);omega)
   have q1:=fq w1 (by have:=hz w1 (by simp);omega)
   have q2:=fq w2 (by have:=hz w2 (by simp);omega)
   have e0:ao 1 (.arr 1 ([w0,w1,w2,w3].map T)) (I 0)=some [T w0]:=rfl
   have e1:ao 1 (.arr 1 ([w0,w1,w2,w3].map T)) (I 1)=some [T w1]:=rfl
   have e2:ao 1 (.arr 1 ([w0,w1,w2,w3].map T)) (I 2)=some [T w2]:=rfl
   have hacc:Hp l c (mkT m)=if gk (l++[(bR w0,bR w1,bR w2)])=true∧lnT (bR w0,bR w1,bR w2) (ckN c (bR w0,bR w1,bR w2))=mkT m++⟨#[10]⟩ then some (bR w0,bR w1,bR w2) else none:=by
    unfold Hp
    rw [hws]
   have h4n:((([w0,w1,w2,w3]:List ByteArray).length:Nat):Int)=4:=rfl
   rw [hacc]
   simp -implicitDefEqProofs only [h4n,decide_true,ahD,ahv,if_false,e0,e1,e2,ahy,aht,bh,aP,bC,q0,q1,q2,am,ak,acn]
   generalize (bR w0,bR w1,bR w2)=y at hacc ⊢
   have hap:=wF (l:=l) (m:=[y]) (by simp;omega)
   have hg:=dS (l++[y]) (by simp;omega)
   have ha0:bA 3 24 (.arr 3 []) (nts l)=some (nts l):=wF (l:=[]) (m:=l) (by simp;omega)
   simp -implicitDefEqProofs only [YC,aht,aZ,cg,ci,cA,ha0,Mz,Vo,UG,hap,hg,am,ak,bd]
   cases hgd:gk (l++[y])
   ·simp -implicitDefEqProofs [hgd,Out.ends]
   have hy:=(jO hgd).1
   have hck:=qX c y
   have j1:=Ae hc hy
   have j2:=DV hy hck
   have hadd:bin BinOp.add false [] (T (mkT m)) (D.v (aii {data:={toList:=[10]}}))=some (T (mkT m++⟨#[10]⟩)):=by
    rw [show(D.v (aii {data:={toList:=[10]}}))=T ⟨#[10]⟩ from rfl,fH,if_pos (by simp [pH];omega)]
   simp -implicitDefEqProofs only [ahD,bG,ahv,if_false,aht,bQ,j1,j2,am,bv,ak,hadd,jI,aN,aG]
   by_cases he:lnT y (ckN c y)=mkT m++⟨#[10]⟩
   ·have hw1:ahu.wrap ((m.length:Int)+1)=(m.length:Int)+1:=ah (by omega) (by omega)
    have hw2:ahu.wrap ((u:Int)+((m.length:Int)+1))=((u+(m.length+1):Nat):Int):=by rw [ah (by omega) (by omega)];omega
    have hw3:ahu.wrap ((i:Int)+1)=((i+1:Nat):Int):=by rw [ah (by omega) (by omega)];omega
    simp -implicitDefEqProofs only [he,decide_true,ahD,ahv,if_false,hgd,and_self,if_true,j1,am,ak,dG,pH,aht,br,hw1,hw2,hw3]
    have hll:(l++[y]).length≤24:=by
     rw [ahX,aic]
     exact(jO hgd).2
    have huu:u+(m.length+1)≤(i+1)*1048577:=by omega
    exact⟨trivial,hll,hck,huu⟩
   ·simp [he,hgd,Out.ends]
  ·have hacc:Hp l c (mkT m)=none:=by
    unfold Hp
    split
    ·rename_i hh
     exact absurd (by rw [hh];rfl) h4
    ·rfl
   rw [hacc]
   have h4':¬((aB 32 (mkT m)).length:Int)=4:=by omega
   simp -implicitDefEqProofs only [h4',decide_false,ah3,if_true]
   simp [Out.ends]
 ·rintro⟨l,u,c⟩ _
  have hi':¬(ms.length:Int)<(ms.length:Int):=by omega
  simp -implicitDefEqProofs only [ak,aF,be,hi',decide_false,aht,aG,ahv,if_false]
  simp [Out.ends]
 ·have key:∀(ms:List (List UInt8)) (i:Nat) (l:List Nt) (u:Nat) (c:Int),goL (fun _ m (a:List Nt × Nat × Int)=>match Hp a.1 a.2.2 (mkT m) with
   | some x=>.inl (a.1++[x],a.2.1+(m.length+1),ckN a.2.2 x)
   | none=>.inr (.ext 0 [nts a.1,I (a.2.1:Int)])) (fun a=>.ext 0 [nts a.1,I (a.2.1:Int)]) i ms (l,u,c) = .ext 0 [nts (kL ms l c u).1,I ((kL ms l c u).2:Int)]:=by
   intro ms
   induction ms with
   | nil=>intro i l u c;rfl
   | cons m ms ih =>
    intro i l u c
    simp -implicitDefEqProofs only [goL,kL]
    cases Hp l c (mkT m) with
    | some x=>exact ih (i+1) _ _ _
    | none=>rfl
  rw [key]
  simp -implicitDefEqProofs only [bE,ah0,dZ,if_true,ak,aF]
end Go.Proofs.YtjafgdefcggjcaaGreatDoor

namespace Go.Proofs.YtjafgdefcggjcaaGreatDoor
open Go Go.V
theorem afF (w:ByteArray) (h:w.size≤1048576):Ty [T w,T ⟨#[10]⟩]=some (.ret [T (mkT (aid (ac w) [10]).1),T (mkT (aid (ac w) [10]).2.1),B (aid (ac w) [10]).2.2] []):=by
 simp -implicitDefEqProofs only [Ty]
 rw [if_pos (by omega)]
 rfl
theorem agN (r:List UInt8):(10:UInt8)∉r∨∃a b,r=a++10::b∧(10:UInt8)∉a:=by
 induction r with
 | nil=>left;simp
 | cons x r ih =>
  by_cases hx:x=10
  ·right
   exact⟨[],r,by rw [hx];rfl,by simp⟩
  ·rcases ih with ih | ⟨a,b,rfl,ha⟩
   ·left
    simp -implicitDefEqProofs only [ahR,not_or]
    exact⟨fun e=>hx e.symm,ih⟩
   ·right
    refine⟨x::a,b,rfl,?_⟩
    simp -implicitDefEqProofs only [ahR,not_or]
    exact⟨fun e=>hx e.symm,ha⟩
theorem abO (x y:ByteArray) (z:Bool):aq (.tup [T x,T y,B z]) 0=some (T x):=rfl
theorem adD (x y:ByteArray) (z:Bool):aq (.tup [T x,T y,B z]) 1=some (T y):=rfl
theorem abI (x y:ByteArray) (z:Bool):aq (.tup [T x,T y,B z]) 2=some (B z):=rfl
theorem uU (s:ByteArray) (h:s.size≤1048576):kx [T s]=some (.ret [nts (kL (aY 10 (ac s)).dropLast [] 7 0).1,I ((kL (aY 10 (ac s)).dropLast [] 7 0).2:Int)] []):=by
 rw [IL]
 have hsz:s.size=(ac s).length:=rfl
 generalize hR:kL (aY 10 (ac s)).dropLast [] 7 0=R
 simp -implicitDefEqProofs only [aZ,aht]
 refine cG (fun r=>r=_) (fun(a:List Nt × Int × Nat)=>[T s,nts a.1,I a.2.1,I (a.2.2:Int)]) (fun a=>a.1.length≤24∧(0≤a.2.1∧a.2.1≤9972)∧a.2.2≤s.size∧kL (aY 10 ((ac s).drop a.2.2)).dropLast a.1 a.2.1 a.2.2=R)
  (fun a=>s.size - a.2.2) (fun o=>o = .ret [nts R.1,I (R.2:Int)] []) ?_ ([],7,0) ⟨ahW _,⟨by decide,by decide⟩,ahW _,hR⟩ rfl ?_
 ·rintro⟨l,c,u⟩ ⟨hl,hc,hu,hr⟩
  simp only at hl hc hu hr
  have hsl:=Fz (s:=s) (z:=0) (i:=u) hu
  have hwz:(s.extract u s.size).size≤1048576:=by rw [ByteArray.size_extract];omega
  have hcut:=afF (s.extract u s.size) hwz
  have hch:ac (s.extract u s.size)=(ac s).drop u:=by
   rw [eI,hsz,ah4]
  have emp:(D.v (aii {data:={toList:=[10]}}))=T ⟨#[10]⟩:=rfl
  rw [hch] at hcut
  have hlen:((ac s).drop u).length=s.size - u:=by rw [List.length_drop,hsz]
  simp -implicitDefEqProofs only [ak,aF,hsl,aht,emp,hcut,am]
  generalize hdrop:(ac s).drop u=r at hcut hr hlen
  rcases agN r with hn | ⟨a,b,rfl,ha⟩
  ·right
   have hnum:=km (mkT r) (by rw [pH];omega)
   rw [jN hn] at hr
   refine⟨_,?_,rfl,rfl⟩
   rw [←hr,Pg hn]
   simp -implicitDefEqProofs only [abO,adD,abI,aht,hnum,am,ak,bd,ah3,bG,if_true,aN,aG]
   rfl
  ·have hnum:=km (mkT a) (by rw [pH];simp at hlen;omega)
   rw [gr ha,List.dropLast_cons_of_ne_nil (em 10 b)] at hr
   simp -implicitDefEqProofs only [kL] at hr
   rw [←afL] at hr
   rw [Vh ha]
   simp -implicitDefEqProofs only [abO,adD,abI,aht,hnum,am,ak,bd,ahD,bG,ahv,if_false,aK,ahw,iz,aN,aG]
   by_cases h4:(fc (mkT a)).length=4
   ·obtain⟨w0,w1,w2,w3,hws⟩:∃w0 w1 w2 w3,fc (mkT a)=[w0,w1,w2,w3]:=by
     generalize fc (mkT a)=ws at h4
     match ws,h4 with
     | [a,b,c,d],_=>exact⟨a,b,c,d,rfl⟩
    have hacc:RN l c (mkT a)=if gk (l++[(w0,w1,w2)])=true∧lnT (w0,w1,w2) (ckN c (w0,w1,w2))=mkT a++⟨#[10]⟩ then some (w0,w1,w2) else none:=by
     unfold RN
     rw [hws]
    rw [hacc] at hr
    rw [hws]
    have e0:ao 1 (ja [w0,w1,w2,w3]) (I 0)=some [I w0]:=rfl
    have e1:ao 1 (ja [w0,w1,w2,w3]) (I 1)=some [I w1]:=rfl
    have e2:ao 1 (ja [w0,w1,w2,w3]) (I 2)=some [I w2]:=rfl
    have h4n:((([w0,w1,w2,w3]:List Int).length:Nat):Int)=4:=rfl
    simp -implicitDefEqProofs only [h4n,decide_true,ahD,ahv,if_false,e0,e1,e2,ahy,aht,bh,aP,bC,am,ak,acn]
    generalize (w0,w1,w2)=y at hr ⊢
    have hap:=wF (l:=l) (m:=[y]) (by simp;omega)
    have hg:=cm (l++[y]) (by simp;omega)
    have ha0:bA 3 24 (.arr 3 []) (nts l)=some (nts l):=wF (l:=[]) (m:=l) (by simp;omega)
    simp -implicitDefEqProofs only [YC,aht,aZ,cg,ci,cA,ha0,Mz,Vo,UG,hap,hg,am,ak,bd]
    cases hgd:gk (l++[y])
    ·right
     rw [hgd] at hr
     refine⟨_,?_,rfl,rfl⟩
     rw [←hr]
     simp -implicitDefEqProofs
    have hy:=(jO hgd).1
    have hck:=qX c y
    have j1:=HF hc hy
    have j2:=xC hy hck
    have haz:a.length+1≤s.size - u:=by
     rw [ahX,ahP] at hlen
     omega
    have hadd:bin BinOp.add false [] (T (mkT a)) (T ⟨#[10]⟩)=some (T (mkT a++⟨#[10]⟩)):=by
     rw [fH,if_pos (by rw [pH,sz1];omega)]
    simp -implicitDefEqProofs only [ahD,bG,ahv,if_false,aht,bQ,j1,j2,am,bv,ak,hadd,jI,aN,aG]
    by_cases he:lnT y (ckN c y)=mkT a++⟨#[10]⟩
    ·left
     have hw1:ahu.wrap ((a.length:Int)+1)=(a.length:Int)+1:=ah (by omega) (by omega)
     have hw2:ahu.wrap ((u:Int)+((a.length:Int)+1))=((u+(a.length+1):Nat):Int):=by rw [ah (by omega) (by omega)];omega
     simp -implicitDefEqProofs only [he,decide_true,ahD,ahv,if_false,hgd,and_self,if_true,j1,am,ak,dG,pH,aht,br,hw1,hw2] at hr ⊢
     have hll:(l++[y]).length≤24:=by
      rw [ahX,aic]
      exact(jO hgd).2
     have hdr:(ac s).drop (u+(a.length+1))=b:=by
      rw [←aiT,hdrop]
      rw [←aiT]
      simp
     refine⟨(l++[y],ckN c y,u+(a.length+1)),rfl,⟨hll,hck,by simp only;omega,?_⟩,by simp only;omega⟩
     simp -implicitDefEqProofs only [hdr]
     exact hr
    ·right
     refine⟨_,?_,rfl,rfl⟩
     rw [if_neg (fun g=>he g.2)] at hr
     rw [←hr]
     simp -implicitDefEqProofs [he]
   ·right
    have hacc:RN l c (mkT a)=none:=by
     unfold RN
     split
     ·rename_i hh
      exact absurd (by rw [hh];rfl) h4
     ·rfl
    rw [hacc] at hr
    have h4':¬((fc (mkT a)).length:Int)=4:=by omega
    refine⟨_,?_,rfl,rfl⟩
    rw [←hr]
    simp -implicitDefEqProofs only [h4',decide_false,ah3,if_true]
 ·rintro o rfl
  rfl
end Go.Proofs.YtjafgdefcggjcaaGreatDoor

namespace Go.Proofs.YtjafgdefcggjcaaGreatDoor
open Go Go.V
abbrev jo (s:ByteArray):List Nt × Nat:=kL (aY 10 (ac s)).dropLast [] 7 0
theorem Of:∀(ms:List (List UInt8)) (l:List Nt) (c:Int) (u:Nat),l.length≤24→(kL ms l c u).1.length≤24
 | [],_,_,_,h=>h
 | m::ms,l,c,u,h=>by
  simp only [kL]
  split
  ·rename_i x hx
   refine Of ms _ _ _ ?_
   rw [ahX,aic]
   exact(jO (Sv hx).1).2
  ·exact h
def abG (ms:List (List UInt8)):Nat:=(ms.map fun m=>m.length+1).sum
theorem KV:∀(ms:List (List UInt8)) (l:List Nt) (c:Int) (u:Nat),(kL ms l c u).2≤u+abG ms
 | [],_,_,_=>aiR _ _
 | m::ms,l,c,u=>by
  simp only [kL]
  split
  ·rename_i x hx
   refine Nat.le_trans (KV ms _ _ _) ?_
   simp only [abG,ahJ,aiE]
   omega
  ·exact aiR _ _
theorem Oo (c:UInt8):∀(l:List UInt8),abG (aY c l).dropLast≤l.length
 | []=>ahx _
 | x::l=>by
  have ih:=Oo c l
  simp only [aY]
  by_cases hx:x=c
  ·rw [if_pos hx,List.dropLast_cons_of_ne_nil (em c l)]
   simp only [abG,ahJ,aiE,aiw,ahP] at ih ⊢
   omega
  ·rw [if_neg hx]
   cases hs:aY c l with
   | nil=>exact absurd hs (em c l)
   | cons h t =>
    rw [hs] at ih
    cases t with
    | nil=>exact ahW _
    | cons h2 t =>
     simp only [Kw,List.dropLast_cons_cons,abG,ahJ,aiE,ahP] at ih ⊢
     omega
theorem aaf (s:ByteArray):(jo s).2≤s.size:=by
 have h1:=KV (aY 10 (ac s)).dropLast [] 7 0
 have h2:=Oo 10 (ac s)
 have h3:s.size=(ac s).length:=rfl
 unfold jo
 omega
theorem afU (s:ByteArray):(jo s).1.length≤24:=Of _ _ _ _ (ahW _)
theorem ka (s:ByteArray):gd [T s]=some (.ret [B (decide (s.size≤300))] []):=by
 rw [yw]
 have:((s.size:Int)≤300)=(s.size≤300):=by simp only [eq_iff_iff];omega
 simp [this]
theorem tp0 (l:List Nt) (ds:List D):aq (.tup (nts l::ds)) 0=some (nts l):=rfl
theorem adH (a:D) (n:Int) (ds:List D):aq (.tup (a::I n::ds)) 1=some (I n):=rfl
theorem agU (a:D) (b:Bool) (ds:List D):aq (.tup (a::B b::ds)) 1=some (B b):=rfl
theorem tc0 (a:D) (ds:List D):dg (.tup (a::ds)) 0 = .tup (.bad::ds):=rfl
def jrS (s:ByteArray):List Nt × Bool:=if s.size≤300∧(jo s).2=s.size then((jo s).1,true) else([],false)
theorem lU (s:ByteArray) (h:s.size≤1048576):eB [T s]=some (.ret [nts (jrS s).1,B (jrS s).2] []):=by
 rw [EO]
 have hu:=aaf s
 unfold jrS
 by_cases hs:s.size≤300
 ·by_cases h2:(jo s).2=s.size
  ·have h2':¬((jo s).2:Int)<(s.size:Int):=by omega
   rw [if_pos ⟨hs,h2⟩]
   simp -implicitDefEqProofs only [ka,hs,decide_true,am,ak,bd,ahD,aht,aG,ahv,if_false,uU s h,tp0,tc0,adH,dG,be,h2',decide_false]
  ·have h2':((jo s).2:Int)<(s.size:Int):=by omega
   rw [if_neg (fun g=>h2 g.2)]
   simp -implicitDefEqProofs only [ka,hs,decide_true,am,ak,bd,ahD,aht,aG,ahv,if_false,uU s h,tp0,tc0,adH,dG,be,h2',if_true,aZ]
   rfl
 ·rw [if_neg (fun g=>hs g.1)]
  simp -implicitDefEqProofs only [ka,hs,decide_false,am,ak,bd,ah3,aht,aG,if_true,aZ]
  rfl
theorem iF (s:ByteArray) (h:s.size≤1048576):dy [T s]=some (.ret [nts (jrS s).1,B (jrS s).2] []):=by
 rw [Fb]
 have hu:=aaf s
 unfold jrS
 by_cases hs:s.size≤300
 ·have hs':¬(300:Int)<(s.size:Int):=by omega
  by_cases h2:(jo s).2=s.size
  ·have h2':((jo s).2:Int)=(s.size:Int):=by omega
   rw [if_pos ⟨hs,h2⟩]
   simp -implicitDefEqProofs only [am,ak,aht,aG,ahv,if_false,ub s h,tp0,tc0,adH,dG,eG,hs',bG,decide_false,iz,h2',decide_true,ahD,aN]
  ·have h2':¬((jo s).2:Int)=(s.size:Int):=by omega
   rw [if_neg (fun g=>h2 g.2)]
   simp -implicitDefEqProofs only [am,ak,aht,aG,ahv,if_false,ub s h,tp0,tc0,adH,dG,eG,hs',bG,decide_false,iz,h2',ah3,if_true,aN]
   rfl
 ·have hs':(300:Int)<(s.size:Int):=by omega
  rw [if_neg (fun g=>hs g.1)]
  simp -implicitDefEqProofs only [am,ak,aht,aG,ub s h,tp0,tc0,adH,dG,eG,hs',bG,vW,decide_true,if_true,aN]
  rfl
end Go.Proofs.YtjafgdefcggjcaaGreatDoor

namespace Go.Proofs.YtjafgdefcggjcaaGreatDoor
open Go Go.V Go.RowKit Go.Shelf
def jT:List Nt→Int→ByteArray
 | [],_=>⟨#[]⟩
 | x::l,c=>lnT x (ckN c x)++jT l (ckN c x)
theorem Ny {x:Nt} {c:Int} (hx:lR x=true) (hc:0≤c∧c≤9972):(lnT x c).size≤44:=by
 obtain⟨h1,h2,h3⟩:=pJ.1 hx
 have s1:=cq 9 (n:=x.1) (by omega) (by omega)
 have s2:=cq 9 (n:=x.2.1) (by omega) (by omega)
 have s3:=cq 9 (n:=x.2.2) (by omega) (by omega)
 have s4:=cq 9 (n:=c) (by omega) (by omega)
 simp only [lnT,ahz,sz1]
 omega
theorem iE {T e B b:Nat} {bs:List Value} {w w':World} (h:ahV T e B b bs w) (hB:Below w.heap.size w w'):ahV T e B b bs w':=by
 have key:∀p,ail T e B b p bs w→ail T e B b p bs w':=by
  rintro p h
  have hlt:=h.lt
  obtain⟨h1,v,h2,⟨h3,h4⟩,h5⟩:=h
  refine⟨h1,v,(hB.block b hlt).trans h2,⟨h3,?_⟩,h5⟩
  rcases h4 with h4 | ⟨g,cap,cur,fz,g1,g2,g3,g4⟩
  ·exact .inl h4
  ·exact .inr ⟨g,cap,cur,fz,g1,g2,(hB.block g (ahF.1 g3).1).trans g3,g4⟩
 exact h.elim (fun h=>.inl (key _ h)) (fun h=>.inr (key _ h))
theorem mg {P:Program} {G:List (Nat × (Obj→Prop))} {f:FuncId} {S:FS} (he:∀args w,(callFunc f args).run P w = .ok (.enter f args) w) (hm:au G P f S) {ds:List D} {y:Value} (f':List D→Option Out) (hf':S.f=f') (hd:f' ds=some (.ret [.v y] [])) (hrm:S.rm=[.dat 0]) {args:Array Value} {w:World} {F:Nat→Prop}
  (hgl:gOk G w F) (ha:fG w F (fun _=>none) 0 S.pm ds args.toList) (hF:∀b,F b→b<w.heap.size):Calls P f args w fun e w'=>e = .returned y∧Below w.heap.size w w':=by
 refine(lD he hm (hf' ▸ hd) hgl ha (fun b hb=>⟨hF b hb,rfl⟩) (fun b i h=>by cases h)).mono ?_
 rintro e w' ⟨v,rfl,F',R,vs,rfl,hpost⟩
 have hl:=hpost.len
 rw [hrm] at hl
 obtain⟨u,rfl⟩:=List.length_eq_one_iff.1 hl
 have h0:=hpost.res 0
 rw [hrm] at h0
 simp only [aC,nth,List.getD_cons_zero] at h0
 rcases h0 with h0 | h0
 ·cases h0
 exact⟨by rw [nT,(cb.1 h0).1],⟨hpost.os,hpost.tape,hpost.output,hpost.size,fun b hb=>hpost.keep b hb rfl⟩⟩
abbrev ntV (x:Nt):Value:=.agg #[.int .i64 x.1,.int .i64 x.2.1,.int .i64 x.2.2]
theorem adS {w:World} {F:Nat→Prop} (x:Nt):bP w F (nt x) (ntV x):=by
 refine⟨[.int .i64 x.1,.int .i64 x.2.1,.int .i64 x.2.2],rfl,?_⟩
 simp only [RepC]
 refine⟨?_,rfl⟩
 refine aw.2 ⟨[.int .i64 x.1],[.int .i64 x.2.1,.int .i64 x.2.2],rfl,by simp only [RepC];exact⟨trivial,rfl⟩,?_⟩
 refine aw.2 ⟨[.int .i64 x.2.1],[.int .i64 x.2.2],rfl,by simp only [RepC];exact⟨trivial,rfl⟩,?_⟩
 exact aw.2 ⟨[.int .i64 x.2.2],[],rfl,by simp only [RepC];exact⟨trivial,rfl⟩,aV.2 rfl⟩
set_option maxRecDepth 100000 in
theorem Yl {w:World} {F:Nat→Prop} (hF:∀b,F b→b<w.heap.size) (hgl:gOk gl0 w F) {c:Int} {x:Nt} (hc:0≤c∧c≤9972) (hx:lR x=true) :
  Calls Tryz.prog 89 #[.int .i64 c,ntV x] w fun e w'=>e = .returned (.int .i64 (ckN c x))∧Below w.heap.size w w' :=
 mg (ahB Tryz.func89 (by kernel_rfl) rfl) FO ko rfl (HF hc hx) rfl hgl (show eD w F _ (.dat 0) (I c) (.int .i64 c)∧eD w F _ (.dat 0) (nt x) (ntV x)∧True from⟨.inr (cb.2 ⟨rfl,rfl⟩),.inr (adS x),trivial⟩) hF
set_option maxRecDepth 100000 in
theorem QH {w:World} {F:Nat→Prop} (hF:∀b,F b→b<w.heap.size) (hgl:gOk gl1 w F) {c:Int} {x:Nt} (hc:0≤c∧c≤9972) (hx:lR x=true) :
  Calls Tryz.prog 88 #[ntV x,.int .i64 c] w fun e w'=>e = .returned (.string (lnT x c))∧Below w.heap.size w w' :=
 mg (ahB Tryz.func88 (by kernel_rfl) rfl) xv iP rfl (xC hx hc) rfl hgl (show eD w F _ (.dat 0) (nt x) (ntV x)∧eD w F _ (.dat 0) (I c) (.int .i64 c)∧True from⟨.inr (adS x),.inr (cb.2 ⟨rfl,rfl⟩),trivial⟩) hF
theorem Fc (B b:Nat) (bs:List Value) (s:ByteArray) (w:World) (h:ahV 67 5 B b bs w) (hlen:bs.length+s.size≤140737488355328) (hBw:B≤w.heap.size) :
  Calls Tryz.prog 43 #[.pointer (some ⟨b,0,none⟩),.string s] w fun e w'=>e = .returned (.tuple #[.int .i64 s.size,.nilIface])∧(ail 67 5 B b (.pointer (some ⟨b,0,none⟩)) (bs++Lib.strCells s) w'∧Below B w w'∧Lib.OthersKept 5 (some b) w w') :=
 Any.Builder_WriteString_k (ρ:=Tryz.lays156_ren) {Tryz.lays156 with} Tryz.Builder_Extra_156 B b bs s w h hlen hBw
theorem yJ (B b:Nat) (l:List UInt8) (w:World) (h:ahV 67 5 B b (ah7 l) w) (hBw:B≤w.heap.size) :
  Calls Tryz.prog 44 #[.pointer (some ⟨b,0,none⟩)] w fun e w'=>e = .returned (.string ⟨l.toArray⟩)∧(ahV 67 5 B b (ah7 l) w'∧Below B w w'∧Lib.OthersKept 5 (some b) w w') :=
 Any.Builder_String_any_k (ρ:=Tryz.lays156_ren) {Tryz.lays156 with} Tryz.Builder_Extra_156 B b l w h hBw
def TJ (x:Nt):List Value:=[.int .i64 x.1,.int .i64 x.2.1,.int .i64 x.2.2]
theorem ZS {w:World} {F:Nat→Prop}:∀(l:List Nt) (us:List Value),bZ w F (l.map nt) us→us=l.flatMap TJ
 | [],us,h=>aV.1 h
 | x::l,us,h=>by
  obtain⟨v1,v2,rfl,h1,h2⟩:=aw.1 h
  rw [ZS l v2 h2]
  simp only [RepC] at h1
  obtain⟨u1,r1,rfl,g1,h1⟩:=aw.1 h1.1
  obtain⟨u2,r2,rfl,g2,h1⟩:=aw.1 h1
  obtain⟨u3,r3,rfl,g3,h1⟩:=aw.1 h1
  simp only [RepC] at g1 g2 g3
  rw [g1.1,g2.1,g3.1,aV.1 h1]
  rfl
theorem Si {w:World} {b:Nat}:∀(l:List Nt) (o:Nat),cH w b o (l.flatMap TJ)→∀(i:Nat) (x:Nt),l[i]?=some x→cH w b (o+i*3) (TJ x)
 | [],_,_,i,x,hx=>by simp at hx
 | y::l,o,h,0,x,hx=>by
  simp only [ahM,ahN] at hx
  subst hx
  intro j u hu
  have:=h j u (by rw [aiq,air (ah9.1 hu).1];exact hu)
  simpa using this
 | y::l,o,h,i+1,x,hx=>by
  have:=Si l (o+3) (by
   have:=h.drop 3
   exact this) i x (by simpa using hx)
  rw [show o+(i+1)*3=o+3+i*3 by omega]
  exact this
set_option maxHeartbeats 4000000 in
set_option maxRecDepth 1000000 in
theorem IE (l:List Nt) (hg:∀x∈l,lR x=true) (hl:l.length≤1048576) (A:Option Addr) (c:Nat) (_hc:l.length≤c) (w:World) (F:Nat→Prop) (hF:∀b,F b→b<w.heap.size) (hgl:gOk gl1 w F)
  (hA:l≠[]→∃b o,A=some ⟨b,o,none⟩∧F b∧∀(i:Nat) (x:Nt),l[i]?=some x→cH w b (o+i*3) (TJ x)) :
  Calls Tryz.prog 233 #[.slice A l.length c] w fun e w'=>e = .returned (.string (jT l 7))∧Below w.heap.size w w':=by
 go_enter Tryz.func233,Tryz.ntmps233
 go_wp2
 go_loopw [4,9] (fun v4 v9 wr=>∃(i:Nat) (cc:Int) (acc:List UInt8),v4 = .int .i64 cc∧v9 = .int .i64 i∧i≤l.length∧(0≤cc∧cc≤9972)∧ahV 67 5 w.heap.size w.heap.size (ah7 acc) wr∧Below w.heap.size w wr∧acc++ac (jT (l.drop i) cc)=ac (jT l 7)∧acc.length≤44*i) (fun v4 v9 wr=>l.length - (match v9 with | .int _ n=>n.toNat | _=>0))
 case atStart =>
  exact⟨0,7,[],rfl,rfl,ahW _,by decide,aiL (aiG 67 5 w),(aiB _ w).alloc (ahx _) _,rfl,ahx _⟩
 case round =>
  obtain⟨i,cc,acc,rfl,rfl,hi,hcc,hI,hbw,hacc,hal⟩:=hrel
  by_cases hp:i<l.length
  ·have hpi:(i:Int)<(l.length:Int):=by omega
   obtain⟨b,o,rfl,hb,hcell⟩:=hA (fun h=>by rw [h] at hp;exact absurd hp (aiS _))
   have hcl:=hcell i l[i] (ahL hp)
   have hbw0:wr.heap[b]?=w.heap[b]?:=hbw.block b (hF b hb)
   have c0:wr.cell? ⟨b,o+i*3,none⟩=some (.int .i64 l[i].1):=(ahY hbw0).trans (hcl 0 _ rfl)
   have c1:wr.cell? ⟨b,o+i*3+1,none⟩=some (.int .i64 l[i].2.1):=(ahY hbw0).trans (hcl 1 _ rfl)
   have c2:wr.cell? ⟨b,o+i*3+2,none⟩=some (.int .i64 l[i].2.2):=(ahY hbw0).trans (hcl 2 _ rfl)
   have hx:lR l[i]=true:=hg _ (ahT hp)
   have hI0:=hI.alloc (.cells #[.int .i64 l[i].1,.int .i64 l[i].2.1,.int .i64 l[i].2.2] 121)
   have hb0:Below w.heap.size w (wr.alloc (.cells #[.int .i64 l[i].1,.int .i64 l[i].2.1,.int .i64 l[i].2.2] 121)):=hbw.alloc hbw.size _
   have hk0:(wr.alloc (.cells #[.int .i64 l[i].1,.int .i64 l[i].2.1,.int .i64 l[i].2.2] 121)).heap[wr.heap.size]?=some (.cells #[.int .i64 l[i].1,.int .i64 l[i].2.1,.int .i64 l[i].2.2] 121):=ais
   have hck:=qX cc l[i]
   have hcall1:=Yl (F:=F) (fun b hb=>ain (hF b hb) hb0.size) (gT (fun _ h=>h) (fun b hb=>hb0.block b (hF b hb)) (fun p hp=>hgl p (Jt p hp))) hcc hx
   go_wp2_with (go_at_call 89;refine hcall1.mono ?_)
   rintro e W1 ⟨rfl,b1⟩
   have hI1:=iE hI0 b1
   have hb1:=hb0.trans (b1.mono hb0.size)
   generalize hW0:wr.alloc (.cells #[.int .i64 l[i].1,.int .i64 l[i].2.1,.int .i64 l[i].2.2] 121)=W0 at *
   have hk1:W1.heap[wr.heap.size]?=some (.cells #[.int .i64 l[i].1,.int .i64 l[i].2.1,.int .i64 l[i].2.2] 121):=(b1.block _ (ahF.1 hk0).1).trans hk0
   have d0:W1.cell? ⟨wr.heap.size,0,none⟩=some (.int .i64 l[i].1):=by rw [ahE hk1];rfl
   have d1:W1.cell? ⟨wr.heap.size,1,none⟩=some (.int .i64 l[i].2.1):=by rw [ahE hk1];rfl
   have d2:W1.cell? ⟨wr.heap.size,2,none⟩=some (.int .i64 l[i].2.2):=by rw [ahE hk1];rfl
   have hcall2:=QH (F:=F) (fun b hb=>ain (hF b hb) hb1.size) (gT (fun _ h=>h) (fun b hb=>hb1.block b (hF b hb)) hgl) hck hx
   go_wp2_with (go_at_call 88;refine hcall2.mono ?_)
   rintro e W2 ⟨rfl,b2⟩
   have hI2:=iE hI1 b2
   have hb2:=hb1.trans (b2.mono hb1.size)
   have hcall3:=Fc w.heap.size w.heap.size _ (lnT l[i] (ckN cc l[i])) _ hI2 (by rw [aiC];have:=Ny hx hck;omega) hb2.size
   go_wp2_with (go_at_call 43;refine hcall3.mono ?_)
   rintro e W3 ⟨rfl,hI3,b3,_⟩
   go_wp2
   have hdr:ac (jT (l.drop i) cc)=ac (lnT l[i] (ckN cc l[i]))++ac (jT (l.drop (i+1)) (ckN cc l[i])):=by
    rw [ah8 hp]
    simp only [jT,bk]
   have hsz:(ac (lnT l[i] (ckN cc l[i]))).length≤44:=Ny hx hck
   refine⟨⟨i+1,ckN cc l[i],acc++ac (lnT l[i] (ckN cc l[i])),rfl,congrArg (ahS .i64) (by omega),by omega,hck,?_,hb2.trans b3,?_,?_⟩,?_⟩
   ·rw [aiD]
    exact Or.inr hI3
   ·rw [←hacc,hdr,ahQ]
   ·rw [ahX]
    omega
   ·show l.length - ((i:Int)+1).toNat<l.length - (i:Int).toNat
    omega
  ·have hpi:¬(i:Int)<(l.length:Int):=by omega
   have hcall4:=yJ w.heap.size w.heap.size acc _ hI hbw.size
   go_wp2_with (go_at_call 44;refine hcall4.mono ?_)
   intro e W1 he h1 b1 k1
   subst he
   go_wp2
   go_ret
   rw [aia (by omega)] at hacc
   refine⟨?_,hbw.trans b1⟩
   have:acc=ac (jT l 7):=by rw [←hacc];simp [jT,ac]
   rw [this,mC]
   rfl
def afZ:D→Option Nt
 | .agg [.v (.int .i64 a),.v (.int .i64 b),.v (.int .i64 c)]=>some (a,b,c)
 | _=>none
theorem aaV {d:D} {x:Nt} (h:afZ d=some x):d=nt x:=by
 unfold afZ at h
 split at h
 ·cases h;rfl
 ·cases h
def SA:List D→Option (List Nt)
 | []=>some []
 | d::l=>(afZ d).bind fun x=>(SA l).map (x::·)
theorem Oy:∀(ds:List D) (l:List Nt),SA ds=some l→ds=l.map nt
 | [],l,h=>by cases h;rfl
 | d::ds,l,h=>by
  simp only [SA,ahA,ahK] at h
  obtain⟨x,h1,m,h2,rfl⟩:=h
  rw [aaV h1,Oy ds m h2]
  rfl
theorem Ss:∀(l:List Nt),SA (l.map nt)=some l
 | []=>rfl
 | x::l=>by
  simp only [ahJ,SA,Ss l]
  rfl
def rK:List D→Option Out
 | [.arr _ ds]=>(SA ds).bind fun l=>if (∀x∈l,lR x=true)∧l.length≤1048576 then some (.ret [T (jT l 7)] []) else none
 | _=>none
@[reducible] def sa:FS:={pm:=[.dat 2],rm:=[.dat 0],f:=rK}
set_option maxRecDepth 100000 in
theorem EC:au gl1 Tryz.prog 233 sa:=by
 have he:∀args w,(callFunc 233 args).run Tryz.prog w = .ok (.enter 233 args) w:=ahB Tryz.func233 (by kernel_rfl) rfl
 refine bT he fun ds rs us hd args w F ow hg ha hF _=>?_
 obtain⟨d,y,rfl,h2,h3⟩:=mX ha
 replace hd:rK [d]=some (.ret rs us):=hd
 unfold rK at hd
 split at hd
 case h_2=>cases hd
 rename_i z ds e
 cases e
 obtain⟨l,hl,hd⟩:=ahA.1 hd
 split at hd
 case isFalse=>cases hd
 rename_i hz
 cases hd
 obtain rfl:=Oy _ _ hl
 rcases h3 with h3 | h3
 ·cases h3
 simp only [bP,RepC] at h3
 obtain⟨A,c,us,hy,hc,hr,_,hA⟩:=h3
 simp only [aix,and_true] at hy
 subst hy
 rw [ZS l us hr] at hA
 rw [FK h2]
 rw [ahw] at hc ⊢
 refine(IE l hz.1 hz.2 A c hc w F (fun b hb=>(hF b hb).1) hg (fun hne=>?_)).mono ?_
 ·obtain⟨b,o,rfl,h5,h6⟩:=hA (by simpa using hne)
  exact⟨b,o,rfl,h5,Si l o h6⟩
 ·rintro e w' ⟨rfl,hB⟩
  refine⟨_,rfl,F,_,[_],rfl,eQ hB hF rfl rfl [_] [_] rfl rfl fun j d hj=>?_⟩
  match j,hj with
  | 0,hj =>
   simp only [ahM,ahN] at hj
   subst hj
   exact⟨_,rfl,cb.2 ⟨rfl,rfl⟩⟩
end Go.Proofs.YtjafgdefcggjcaaGreatDoor

namespace Go.Proofs.YtjafgdefcggjcaaGreatDoor
open Go Go.Proofs Go.V Go.RowKit Go.Sort
def inI (x:Int):Prop:=-9223372036854775808≤x∧x≤9223372036854775807
instance (x:Int):Decidable (inI x):=by unfold inI;infer_instance
def ET:List D→Option (List Int)
 | []=>some []
 | .v (.int .i64 a)::l=>if inI a then(ET l).map (a::·) else none
 | _=>none
theorem XN:∀(ds:List D) (l:List Int),ET ds=some l→ds=l.map (fun n=>I n)∧∀x∈l,inI x:=by
 intro ds
 induction ds with
 | nil=>intro l h;cases h;simp
 | cons d ds ih =>
  intro l h
  unfold ET at h
  split at h
  ·rename_i e;cases e
  ·rename_i a m e
   cases e
   split at h
   ·rename_i ha
    obtain⟨m',h2,rfl⟩:=ahK.1 h
    obtain⟨g1,g2⟩:=ih m' h2
    rw [g1]
    refine⟨rfl,fun x hx=>?_⟩
    rcases ahR.1 hx with rfl | hx
    ·exact ha
    ·exact g2 x hx
   ·cases h
  ·cases h
theorem MS:∀(l:List Int),(∀x∈l,inI x)→ET (l.map fun n=>I n)=some l
 | [],_=>rfl
 | x::l,h=>by
  simp only [ahJ,ET]
  rw [if_pos (h x (by simp)),MS l fun y hy=>h y (by simp [hy])]
  rfl
theorem VG {w:World} {F:Nat→Prop}:∀(l:List Int) (us:List Value),bZ w F (l.map fun n=>I n) us→us=l.map fun n=>.int .i64 n
 | [],us,h=>aV.1 h
 | x::l,us,h=>by
  obtain⟨v1,v2,rfl,h1,h2⟩:=aw.1 h
  simp only [RepC] at h1
  rw [VG l v2 h2,h1.1]
  rfl
theorem nP {w:World} {F:Nat→Prop}:∀(l:List Int),bZ w F (l.map I) (l.map (ahS .i64))
 | []=>aV.2 rfl
 | x::l=>aw.2 ⟨[.int .i64 x],l.map (ahS .i64),rfl,by simp only [RepC];exact⟨trivial,rfl⟩,nP l⟩
def QM (l:List Int):List Int:=l.mergeSort fun x y=>decide (x≤y)
theorem XU (l:List Int):(QM l).length=l.length:=List.length_mergeSort l
theorem abl {w:World} {g off n:Nat} {os:Array Obj} {dk:Array Int} {cur:Array Value} {t:Nat} (hg:w.heap[g]?=some (.cells cur t (0,0))) (hs:off+dk.size≤cur.size) :
  ∃cur',(grow (putRow (ahS .i64) (Go.Sort.ahead w n) g off dk) os).heap[g]?=some (.cells cur' t (0,0))∧cur'.size=cur.size∧∀(i:Nat) (u:Value),(dk.toList.map (ahS .i64))[i]?=some u→cur'[off+i]?=some u:=by
 have hb:g<w.heap.size:=(ahF.1 hg).1
 refine⟨ait (ahS .i64) off dk cur,?_,by simp [ait],fun i u hu=>?_⟩
 ·rw [heap_grow_old _ _ (by rw [size_putRow];exact hb)]
  unfold putRow mapBlock
  show(w.heap.modify g _)[g]?=_
  rw [Array.getElem?_modify,if_pos rfl,hg]
  rfl
 ·simp only [aiM,ahK] at hu
  obtain⟨x,hx,rfl⟩:=hu
  rw [Array.getElem?_toList] at hx
  obtain⟨hi,hx⟩:=ahF.1 hx
  have hic:off+i<cur.size:=by omega
  unfold ait
  rw [Array.getElem?_mapIdx,Array.getElem?_eq_getElem hic]
  simp [hi,hx]
theorem aaJ {w:World} {g off n:Nat} {os:Array Obj} {dk:Array Int} {k:Nat} (hk:k<w.heap.size) (hne:k≠g):(grow (putRow (ahS .i64) (Go.Sort.ahead w n) g off dk) os).heap[k]?=w.heap[k]?:=by
 rw [heap_grow_old _ _ (by rw [size_putRow];exact hk)]
 unfold putRow mapBlock
 show(w.heap.modify g _)[k]?=_
 rw [Array.getElem?_modify,if_neg (fun e=>hne e.symm)]
def ID:List D→Option Out
 | [.arr z ds]=>if z=1 then(ET ds).bind fun l=>if l.length≤1048576 then some (.ret [] [ja (QM l)]) else none else none
 | _=>none
@[reducible] def KU:FS:={pm:=[.own 1 0 true],rm:=[],f:=ID}
set_option maxRecDepth 100000 in
theorem Xa:au gl0 Tryz.prog 235 KU:=by
 have he:∀args w,(callFunc 235 args).run Tryz.prog w = .ok (.enter 235 args) w:=ahB Tryz.func235 (by kernel_rfl) rfl
 refine bT he fun ds rs us hd args w F ow hg ha hF hO=>?_
 obtain⟨d,y,rfl,h2,h3⟩:=mX ha
 replace hd:ID [d]=some (.ret rs us):=hd
 unfold ID at hd
 split at hd
 case h_2=>cases hd
 rename_i z ds e
 cases e
 split at hd
 case isFalse=>cases hd
 rename_i hz1
 subst hz1
 obtain⟨l,hl,hd'⟩:=ahA.1 hd
 clear hd
 split at hd'
 case isFalse=>cases hd'
 rename_i hz
 cases hd'
 obtain⟨rfl,hin⟩:=XN _ _ hl
 rcases h3 with h3 | h3
 ·cases h3
 replace h3:lj w (FB F 0 0) (fun g=>ow g=some 0) 1 (.arr 1 (l.map fun n=>I n)) y:=h3
 obtain⟨l',e,hw,h3⟩:=h3
 cases e
 rw [FK h2]
 have hfl:∀x∈l.map (fun n=>I n),x.width=1:=fun x hx=>by
  obtain⟨s,_,rfl⟩:=aiJ.1 hx
  rfl
 have hfl2:∀x∈(QM l).map (fun n=>I n),x.width=1:=fun x hx=>by
  obtain⟨s,_,rfl⟩:=aiJ.1 hx
  rfl
 rcases h3 with ⟨rfl,hnil⟩ | ⟨g,o,c,us',cs,e,rfl,h4,h5,h6,h7,h8,h9⟩
 ·have hl0:l=[]:=by simpa using hnil
  subst hl0
  refine(Any.sort_Ints_none Tryz.lays191 none 0 w).mono ?_
  rintro e w' ⟨rfl,rfl⟩
  refine⟨_,rfl,F,fun _=>none,[],rfl,⟨rfl,rfl,rfl,ahx _,fun _ _ _=>rfl,fun _ h=>h,fun b hb=>⟨.inl hb,(hF b hb).1,rfl⟩,fun b j h=>(by cases h),rfl,rfl,fun j=>.inl rfl,?_⟩⟩
  exact⟨by simp,.inr ⟨[],by simp [QM],fun x hx=>(by cases hx),.inl ⟨rfl,rfl⟩⟩,trivial⟩
 ·have hgl:g<w.heap.size:=(ahF.1 h5).1
  have hus:=VG l us' h7
  subst hus
  rw [ahw] at h4
  have hH:Holds (ahS .i64) w g o l.toArray:=fun j hj=>by
   have hj':j<l.length:=by simpa using hj
   refine⟨?_,Lib.frozen_of_heap h5 _⟩
   rw [ahE h5]
   refine(h8 j (.int .i64 l[j]) (by simp [hj'])).trans ?_
   simp [hj']
  have hc:=Any.sort_Ints Tryz.lays191 g o c l w hH hgl (by omega)
  rw [ahw]
  refine Calls.mono hc ?_
  rintro e w' ⟨rfl,n,os,rfl⟩
  have hlen:=XU l
  obtain⟨cur',c1,c2,c3⟩:=abl (off:=o) (n:=n) (os:=os) (dk:=(QM l).toArray) h5 (by simp;omega)
  refine⟨_,rfl,F,fun _=>none,[],rfl,⟨rfl,rfl,rfl,by rw [size_grow,size_putRow];show w.heap.size≤w.heap.size+_;omega,fun b hb hob=>aaJ hb (fun e=>by rw [e,h9] at hob;cases hob),fun _ h=>h,fun b hb=>⟨.inl hb,?_,rfl⟩,fun b j h=>(by cases h),rfl,rfl,fun j=>.inl rfl,?_⟩⟩
  ·have:=(hF b hb).1
   rw [size_grow,size_putRow]
   show b<w.heap.size+_
   omega
  ·refine⟨by simp,.inr ⟨(QM l).map (fun n=>I n),rfl,hfl2,.inr ⟨g,o,c,(QM l).map (ahS .i64),cur',e,by rw [ahw,hlen],by rw [ahw,hlen];exact h4,c1,by omega,nP _,fun i u hu=>c3 i u (by simpa using hu),trivial⟩⟩,trivial⟩
end Go.Proofs.YtjafgdefcggjcaaGreatDoor

namespace Go.Proofs.YtjafgdefcggjcaaGreatDoor
open Go Go.V Go.RowKit Go.Maps
def DOf:List (ByteArray × ByteArray)→DataW Unit
 | []=>.map []
 | x::E=>(DOf E).put (.string x.1.data.toList) (.lit (.string x.2.data.toList))
def fb:List (ByteArray × ByteArray)→ByteArray→Option ByteArray
 | [],_=>none
 | x::E,k=>if k=x.1 then some x.2 else fb E k
theorem Ym {a b:ByteArray} (h:a.data.toList=b.data.toList):a=b:=by
 cases a with | mk a=>cases b with | mk b =>
  cases a with | mk a=>cases b with | mk b =>
   simp at h
   rw [h]
theorem Zj:∀E,IsMap (DOf E)
 | []=>⟨_,rfl⟩
 | x::E=>by
  obtain⟨es,he⟩:=Zj E
  simp only [DOf,he]
  exact⟨_,rfl⟩
theorem adm (k:ByteArray):∀E,(DOf E).atKey (.string k.data.toList) (.lit (.string [])) = .lit (.string ((fb E k).getD ⟨#[]⟩).data.toList)∧Maps.has (DOf E) (.string k.data.toList)=(fb E k).isSome
 | []=>⟨by simp [DOf,fb,DataW.atKey],by simp [DOf,fb,Maps.has]⟩
 | x::E=>by
  by_cases h:k=x.1
  ·subst h
   have hk:WideAt.IsKeyLit (.string x.1.data.toList):=trivial
   refine⟨?_,?_⟩
   ·simp only [DOf,fb,if_true,aib]
    rw [atKey_put_same (Zj E) hk]
   ·simp only [DOf,fb,if_true,aim]
    exact has_put_same (Zj E) hk _
  ·have hne:(Lit.string k.data.toList) ≠ .string x.1.data.toList:=fun e=>h (Ym (by injection e))
   obtain⟨h1,h2⟩:=adm k E
   refine⟨?_,?_⟩
   ·simp only [DOf,fb,h,if_false]
    rw [atKey_put_other hne,h1]
   ·simp only [DOf,fb,h,if_false]
    rw [has_put_other hne,h2]
theorem aan:Keyed Tryz.prog 9:=string_keyed Tryz.underlying9
theorem gO {w:World} {b n:Nat} {E:List (ByteArray × ByteArray)} (h:w.ownsMap Tryz.prog 9 (plainElem Tryz.prog 9) b n (DOf E)) (hn:n≤100) (kk vv:ByteArray) (hk:kk.size≤100) (hv:vv.size≤100) :
  ∃w',(Instr.mapUpdate 172 (.map (some b)) (.string kk) (.string vv)).run Tryz.prog w = .ok () w'∧w'.ownsMap Tryz.prog 9 (plainElem Tryz.prog 9) b (n+1) (DOf ((kk,vv)::E))∧w.grownBy w' (some b) :=
 h.update aan Tryz.underlying172 (by unfold maxLen;omega) (WideMaps.keyOf_string_mk Tryz.underlying9 (by unfold maxLen;omega)) (plainElem_string Tryz.underlying9 (by unfold maxLen;omega))
theorem abW (w:World):(zeroValue 9).run Tryz.prog w = .ok (.string ⟨#[]⟩) w:=by kernel_rfl
def shE:List (ByteArray × ByteArray):=[(⟨#[115,99,104,101,109,101]⟩,⟨#[]⟩),(⟨#[102,111,108,100]⟩,⟨#[78]⟩),(⟨#[108,101,97,115,116]⟩,⟨#[78]⟩),(⟨#[109,101,116,97,108]⟩,⟨#[78,78]⟩),(⟨#[110,111,116,101]⟩,⟨#[78,78,78]⟩),(⟨#[100,114,105,102,116]⟩,⟨#[]⟩),(⟨#[109,101,100,105,97,110]⟩,⟨#[]⟩),(⟨#[111,102,102]⟩,⟨#[78]⟩),(⟨#[109,105,115,115,105,110,103]⟩,⟨#[78]⟩),(⟨#[99,117,116]⟩,⟨#[78,78]⟩),(⟨#[114,117,108,101]⟩,⟨#[78]⟩),(⟨#[115,116,111,99,107]⟩,⟨#[84]⟩),(⟨#[115,104,97,114,101,115]⟩,⟨#[]⟩),(⟨#[116,97,107,101]⟩,⟨#[78]⟩),(⟨#[106,111,105,110]⟩,⟨#[84]⟩),(⟨#[109,101,108,116]⟩,⟨#[84]⟩)]
set_option maxHeartbeats 4000000 in
set_option maxRecDepth 1000000 in
theorem UX (word:ByteArray) (hs:word.size≤1048576) (w:World) :
  Calls Tryz.prog 115 #[.string word] w fun e w'=>e = .returned (.tuple #[.string ((fb shE word).getD ⟨#[]⟩),.bool (fb shE word).isSome])∧Below w.heap.size w w':=by
 have hmm:=@run_makeMap Tryz.prog
 have o0:=World.ownsMap_made w Tryz.prog 9 (plainElem (H:=Unit) Tryz.prog 9)
 have b0:=(aiB w.heap.size w).alloc (ahx _) (.map #[] 0)
 replace o0:(w.alloc (.map #[] 0)).ownsMap Tryz.prog 9 (plainElem Tryz.prog 9) w.heap.size 0 (DOf []):=o0
 obtain⟨W1,r1,o1,g1⟩:=gO o0 (by omega) ⟨#[109,101,108,116]⟩ ⟨#[84]⟩ (by decide) (by decide)
 have b1:=b0.grown g1 b0.size (fun j hj=>by cases hj;exact ahx _)
 obtain⟨W2,r2,o2,g2⟩:=gO o1 (by omega) ⟨#[106,111,105,110]⟩ ⟨#[84]⟩ (by decide) (by decide)
 have b2:=b1.grown g2 b1.size (fun j hj=>by cases hj;exact ahx _)
 obtain⟨W3,r3,o3,g3⟩:=gO o2 (by omega) ⟨#[116,97,107,101]⟩ ⟨#[78]⟩ (by decide) (by decide)
 have b3:=b2.grown g3 b2.size (fun j hj=>by cases hj;exact ahx _)
 obtain⟨W4,r4,o4,g4⟩:=gO o3 (by omega) ⟨#[115,104,97,114,101,115]⟩ ⟨#[]⟩ (by decide) (by decide)
 have b4:=b3.grown g4 b3.size (fun j hj=>by cases hj;exact ahx _)
 obtain⟨W5,r5,o5,g5⟩:=gO o4 (by omega) ⟨#[115,116,111,99,107]⟩ ⟨#[84]⟩ (by decide) (by decide)
 have b5:=b4.grown g5 b4.size (fun j hj=>by cases hj;exact ahx _)
 obtain⟨W6,r6,o6,g6⟩:=gO o5 (by omega) ⟨#[114,117,108,101]⟩ ⟨#[78]⟩ (by decide) (by decide)
 have b6:=b5.grown g6 b5.size (fun j hj=>by cases hj;exact ahx _)
 obtain⟨W7,r7,o7,g7⟩:=gO o6 (by omega) ⟨#[99,117,116]⟩ ⟨#[78,78]⟩ (by decide) (by decide)
 have b7:=b6.grown g7 b6.size (fun j hj=>by cases hj;exact ahx _)
 obtain⟨W8,r8,o8,g8⟩:=gO o7 (by omega) ⟨#[109,105,115,115,105,110,103]⟩ ⟨#[78]⟩ (by decide) (by decide)
 have b8:=b7.grown g8 b7.size (fun j hj=>by cases hj;exact ahx _)
 obtain⟨W9,r9,o9,g9⟩:=gO o8 (by omega) ⟨#[111,102,102]⟩ ⟨#[78]⟩ (by decide) (by decide)
 have b9:=b8.grown g9 b8.size (fun j hj=>by cases hj;exact ahx _)
 obtain⟨W10,r10,o10,g10⟩:=gO o9 (by omega) ⟨#[109,101,100,105,97,110]⟩ ⟨#[]⟩ (by decide) (by decide)
 have b10:=b9.grown g10 b9.size (fun j hj=>by cases hj;exact ahx _)
 obtain⟨W11,r11,o11,g11⟩:=gO o10 (by omega) ⟨#[100,114,105,102,116]⟩ ⟨#[]⟩ (by decide) (by decide)
 have b11:=b10.grown g11 b10.size (fun j hj=>by cases hj;exact ahx _)
 obtain⟨W12,r12,o12,g12⟩:=gO o11 (by omega) ⟨#[110,111,116,101]⟩ ⟨#[78,78,78]⟩ (by decide) (by decide)
 have b12:=b11.grown g12 b11.size (fun j hj=>by cases hj;exact ahx _)
 obtain⟨W13,r13,o13,g13⟩:=gO o12 (by omega) ⟨#[109,101,116,97,108]⟩ ⟨#[78,78]⟩ (by decide) (by decide)
 have b13:=b12.grown g13 b12.size (fun j hj=>by cases hj;exact ahx _)
 obtain⟨W14,r14,o14,g14⟩:=gO o13 (by omega) ⟨#[108,101,97,115,116]⟩ ⟨#[78]⟩ (by decide) (by decide)
 have b14:=b13.grown g14 b13.size (fun j hj=>by cases hj;exact ahx _)
 obtain⟨W15,r15,o15,g15⟩:=gO o14 (by omega) ⟨#[102,111,108,100]⟩ ⟨#[78]⟩ (by decide) (by decide)
 have b15:=b14.grown g15 b14.size (fun j hj=>by cases hj;exact ahx _)
 obtain⟨W16,r16,o16,g16⟩:=gO o15 (by omega) ⟨#[115,99,104,101,109,101]⟩ ⟨#[]⟩ (by decide) (by decide)
 have b16:=b15.grown g16 b15.size (fun j hj=>by cases hj;exact ahx _)
 obtain⟨v,ps,rl,hv⟩:=o16.look_ok aan Tryz.underlying172 (abW W16) (plainElem_string Tryz.underlying9 (by unfold maxLen;decide)) (WideMaps.keyOf_string_mk Tryz.underlying9 (s:=word) (by unfold maxLen;omega))
 obtain⟨s,rfl,hs2,_⟩:=plainElem_string_inv Tryz.underlying9 hv
 obtain⟨a1,a2⟩:=adm word shE
 have hE:DOf shE=DOf [(⟨#[115,99,104,101,109,101]⟩,⟨#[]⟩),(⟨#[102,111,108,100]⟩,⟨#[78]⟩),(⟨#[108,101,97,115,116]⟩,⟨#[78]⟩),(⟨#[109,101,116,97,108]⟩,⟨#[78,78]⟩),(⟨#[110,111,116,101]⟩,⟨#[78,78,78]⟩),(⟨#[100,114,105,102,116]⟩,⟨#[]⟩),(⟨#[109,101,100,105,97,110]⟩,⟨#[]⟩),(⟨#[111,102,102]⟩,⟨#[78]⟩),(⟨#[109,105,115,115,105,110,103]⟩,⟨#[78]⟩),(⟨#[99,117,116]⟩,⟨#[78,78]⟩),(⟨#[114,117,108,101]⟩,⟨#[78]⟩),(⟨#[115,116,111,99,107]⟩,⟨#[84]⟩),(⟨#[115,104,97,114,101,115]⟩,⟨#[]⟩),(⟨#[116,97,107,101]⟩,⟨#[78]⟩),(⟨#[106,111,105,110]⟩,⟨#[84]⟩),(⟨#[109,101,108,116]⟩,⟨#[84]⟩)]:=rfl
 rw [←hE] at hs2 rl
 rw [show(⟨#[]⟩:ByteArray).data.toList=[] from rfl] at hs2
 rw [a1] at hs2
 rw [a2] at rl
 have hse:((fb shE word).getD ⟨#[]⟩)=s:=by
  injection hs2 with h1 h2
  injection h1 with h1
  injection h1 with h1
  exact Ym h1
 rw [hse]
 generalize (fb shE word).isSome=q at rl
 clear hs2 hv a1 a2 hse hE
 go_enter Tryz.func115,Tryz.ntmps115
 go_wp2
 go_ret2
 exact⟨rfl,b16⟩
def zQ (d:D):Option ByteArray:=match d with
 | .v x=>(match x with
  | .string s=>some s
  | _=>none)
 | _=>none
theorem ES {d:D} {s:ByteArray} (h:zQ d=some s):d=T s:=by
 unfold zQ at h
 split at h
 ·split at h
  ·cases h;rfl
  ·cases h
 ·cases h
def Oh (ds:List D):Option Out:=match ds with
 | [d]=>(zQ d).bind fun s=>if s.size≤1048576 then some (.ret [T ((fb shE s).getD ⟨#[]⟩),B (fb shE s).isSome] []) else none
 | _=>none
@[reducible] def ME:FS:={pm:=[.dat 0],rm:=[.dat 0,.dat 0],f:=Oh}
set_option maxRecDepth 100000 in
theorem Nd:au gl0 Tryz.prog 115 ME:=by
 have he:∀args w,(callFunc 115 args).run Tryz.prog w = .ok (.enter 115 args) w:=ahB Tryz.func115 (by kernel_rfl) rfl
 refine bT he fun ds rs us hd args w F ow hg ha hF _=>?_
 obtain⟨d,y,rfl,h2,h3⟩:=mX ha
 replace hd:Oh [d]=some (.ret rs us):=hd
 obtain⟨s,hs,hd'⟩:=ahA.1 hd
 clear hd
 obtain rfl:=ES hs
 split at hd'
 case isFalse=>cases hd'
 rename_i hz
 cases hd'
 obtain⟨rfl,_⟩:=El h3
 rw [FK h2]
 refine(UX s hz w).mono ?_
 rintro e w' ⟨rfl,hB⟩
 refine⟨_,rfl,F,_,[_,_],rfl,eQ hB hF rfl rfl [_,_] [_,_] rfl rfl fun j d hj=>?_⟩
 match j,hj with
 | 0,hj =>
  simp only [ahM,ahN] at hj
  subst hj
  exact⟨_,rfl,cb.2 ⟨rfl,rfl⟩⟩
 | 1,hj =>
  simp only [List.getElem?_cons_succ,ahM,ahN] at hj
  subst hj
  exact⟨_,rfl,cb.2 ⟨rfl,rfl⟩⟩
end Go.Proofs.YtjafgdefcggjcaaGreatDoor

namespace Go.Proofs.YtjafgdefcggjcaaGreatDoor
open Go Go.V
theorem AZ {n:Int} (h:0<n):ac (aJ (-n))=45::ac (aJ n):=by
 rw [iv n (by omega)]
 unfold aJ Lib.itoa
 rw [if_pos (by omega),cN]
 congr 2
 omega
theorem ac2 {n:Int} (h0:0<n) (h1:n<1000000000000000000):ahZ (ac (aJ (-n))) = .ok (-n):=by
 have hp:=SC n.toNat (by omega)
 rw [AZ h0,iv n (by omega)]
 unfold ahZ
 simp only
 have e45:(45:UInt8).toNat=45:=rfl
 rw [if_pos (by rw [e45];omega)]
 unfold Lib.parseMag
 rw [if_neg (kz _),hp]
 simp only [e45]
 rw [if_neg (by simp),if_neg (by omega),if_pos trivial]
 congr 1
 omega
def zt (w:ByteArray):Option Int:=match ahZ (ac w) with
 | .ok v=>if (-999999≤v∧v≤999999)∧aJ v=w then some v else none
 | _=>none
def Mc (w:ByteArray):Option Int :=
 if 1<w.size∧(ac w).head?=some 45 then(if 0<bR (w.extract 1 w.size) then some (-bR (w.extract 1 w.size)) else none)
 else if 0≤bR w then some (bR w) else none
theorem PD (w:ByteArray):bR w<1000000:=by
 unfold bR Dd
 split
 ·rename_i h
  have:=TO (ac w).length (ac w) rfl (List.all_eq_true.1 h.2.2)
  have:10 ^ (ac w).length≤10 ^ 6:=Nat.pow_le_pow_right (by decide) h.1.2
  omega
 ·omega
theorem acS {n:Int} (h:0≤n):(ac (aJ n)).head?≠some 45:=by
 obtain⟨h1,h2⟩:=ju h
 intro e
 have hm:(45:UInt8)∈ac (aJ n):=List.mem_of_head? e
 have:=h2 45 hm
 revert this
 decide
theorem aao {w:ByteArray} {a:UInt8} {l:List UInt8} (h:ac w=a::l):ac (w.extract 1 w.size)=l:=by
 rw [eI,cQ,h]
 simp
theorem adw {v:Int} (h : -999999≤v∧v≤999999):zt (aJ v)=some v:=by
 unfold zt
 by_cases h0:0≤v
 ·rw [SO h0 (by omega)]
  simp only [h,and_self,if_true]
 ·have:=ac2 (n:=-v) (by omega) (by omega)
  rw [aiO] at this
  rw [this]
  simp only [h,and_self,if_true]
theorem ac6 {v:Int} (h : -999999≤v∧v≤999999):Mc (aJ v)=some v:=by
 unfold Mc
 by_cases h0:0≤v
 ·rw [if_neg (fun g=>acS h0 g.2),nU h0 (by omega),if_pos h0]
 ·have e:=AZ (n:=-v) (by omega)
  rw [aiO] at e
  have hx:(aJ v).extract 1 (aJ v).size=aJ (-v):=bK (aao e)
  have hs:1<(aJ v).size:=by
   rw [cQ,e,ahP]
   have:=aik.2 (ju (n:=-v) (by omega)).1
   omega
  rw [if_pos ⟨hs,by rw [e];rfl⟩,hx,nU (by omega) (by omega),if_pos (by omega),aiO]
theorem Sd {w:ByteArray} {v:Int} (h:zt w=some v):(-999999≤v∧v≤999999)∧aJ v=w:=by
 unfold zt at h
 split at h
 ·split at h
  ·rename_i hc
   cases h
   exact hc
  ·cases h
 ·cases h
theorem abz {w:ByteArray} {v:Int} (h:Mc w=some v):(-999999≤v∧v≤999999)∧aJ v=w:=by
 unfold Mc at h
 split at h
 ·rename_i hc
  split at h
  case isFalse=>cases h
  rename_i hp
  cases h
  have hlt:=PD (w.extract 1 w.size)
  refine⟨by omega,bK ?_⟩
  rw [AZ hp,←sK (w:=w.extract 1 w.size) rfl (by omega)]
  cases hw:ac w with
  | nil=>rw [hw] at hc;cases hc.2
  | cons a l =>
   rw [hw] at hc
   have ha:=aiv hc.2
   rw [aao hw]
   subst ha
   rfl
 ·split at h
  case isFalse=>cases h
  rename_i hp
  cases h
  have hlt:=PD w
  exact⟨by omega,(sK rfl hp).symm⟩
theorem aej (w:ByteArray):Mc w=zt w:=by
 cases h:zt w with
 | some v =>
  obtain⟨h1,rfl⟩:=Sd h
  exact ac6 h1
 | none =>
  cases h':Mc w with
  | none=>rfl
  | some v =>
   obtain⟨h1,rfl⟩:=abz h'
   rw [adw h1] at h
   cases h
def cu:List ByteArray→Option (List Int)
 | []=>some []
 | w::l=>(zt w).bind fun v=>(cu l).map (v::·)
theorem lY:∀(l:List ByteArray) (r:List Int),cu l=some r→r.length=l.length∧∀v∈r,-999999≤v∧v≤999999
 | [],r,h=>by cases h;exact⟨rfl,by simp⟩
 | w::l,r,h=>by
  simp only [cu,ahA,ahK] at h
  obtain⟨v,h1,m,h2,rfl⟩:=h
  obtain⟨g1,g2⟩:=lY l m h2
  refine⟨by simp [g1],fun x hx=>?_⟩
  rcases ahR.1 hx with rfl | hx
  ·exact(Sd h1).1
  ·exact g2 x hx
abbrev kF:ByteArray:=⟨⟨[109,101,108,116]⟩⟩
abbrev jY:ByteArray:=⟨⟨[106,111,105,110]⟩⟩
abbrev dC:ByteArray:=⟨⟨[116,97,107,101]⟩⟩
abbrev bN:ByteArray:=⟨⟨[115,104,97,114,101,115]⟩⟩
abbrev fg:ByteArray:=⟨⟨[115,116,111,99,107]⟩⟩
abbrev dv:ByteArray:=⟨⟨[114,117,108,101]⟩⟩
abbrev gE:ByteArray:=⟨⟨[99,117,116]⟩⟩
abbrev bw:ByteArray:=⟨⟨[109,105,115,115,105,110,103]⟩⟩
abbrev kh:ByteArray:=⟨⟨[111,102,102]⟩⟩
abbrev bM:ByteArray:=⟨⟨[109,101,100,105,97,110]⟩⟩
abbrev cv:ByteArray:=⟨⟨[100,114,105,102,116]⟩⟩
abbrev eu:ByteArray:=⟨⟨[110,111,116,101]⟩⟩
abbrev cr:ByteArray:=⟨⟨[109,101,116,97,108]⟩⟩
abbrev cj:ByteArray:=⟨⟨[108,101,97,115,116]⟩⟩
abbrev dP:ByteArray:=⟨⟨[102,111,108,100]⟩⟩
abbrev bH:ByteArray:=⟨⟨[115,99,104,101,109,101]⟩⟩
def shN (w:ByteArray):Int :=
 if w=bN∨w=bM∨w=cv∨w=bH then 0
 else if w=kF∨w=jY∨w=fg then -1
 else if w=dC∨w=dv∨w=bw∨w=kh∨w=cj∨w=dP then 1
 else if w=gE∨w=cr then 2
 else if w=eu then 3 else -2
def rdL (t:ByteArray):Option (ByteArray × ByteArray × List Int) :=
 match aB 32 t with
 | []=>none
 | w::ws=>if shN w = -2 then none else if shN w = -1 then(if ws=[] then none else some (w,t.extract (w.size+1) t.size,[]))
  else match cu ws with
   | some r=>if (r.length:Int)=shN w then some (w,⟨⟨[]⟩⟩,r) else none
   | none=>none
end Go.Proofs.YtjafgdefcggjcaaGreatDoor

namespace Go.Proofs.YtjafgdefcggjcaaGreatDoor
open Go Go.V Go.RowKit Go.Shelf
theorem sr {P:Program} {G:List (Nat × (Obj→Prop))} {f:FuncId} {S:FS} (he:∀args w,(callFunc f args).run P w = .ok (.enter f args) w) (hm:au G P f S) {ds rs us:List D} (f':List D→Option Out) (hf':S.f=f') (hd:f' ds=some (.ret rs us)) {args:Array Value} {w:World} {F:Nat→Prop}
  (hgl:gOk G w F) (ha:fG w F (fun _=>none) 0 S.pm ds args.toList) (hF:∀b,F b→b<w.heap.size):Calls P f args w fun e w'=>Below w.heap.size w w'∧∃F' R vs,e = .returned (nT vs)∧CallPost S args rs us w F (fun _=>none) F' R vs w':=by
 refine(lD he hm (hf' ▸ hd) hgl ha (fun b hb=>⟨hF b hb,rfl⟩) (fun b i h=>by cases h)).mono ?_
 rintro e w' ⟨v,rfl,F',R,vs,rfl,hpost⟩
 exact⟨⟨hpost.os,hpost.tape,hpost.output,hpost.size,fun b hb=>hpost.keep b hb rfl⟩,F',R,vs,rfl,hpost⟩
theorem Tf {α:Type}:∀(ys:List α) (j:Nat),j<ys.length→aC (ys.map fun _=>Kd.dat 0) j = .dat 0
 | _::_,0,_=>rfl
 | _::ys,j+1,h=>Tf ys j (by simpa using h)
theorem afq:∀(ys:List Value) (j:Nat) (h:j<ys.length),nth (ys.map D.v) j = .v ys[j]
 | _::_,0,_=>rfl
 | _::ys,j+1,h=>afq ys j (by simpa using h)
theorem pl {P:Program} {G:List (Nat × (Obj→Prop))} {f:FuncId} {S:FS} (he:∀args w,(callFunc f args).run P w = .ok (.enter f args) w) (hm:au G P f S) {ds:List D} (ys:List Value) (f':List D→Option Out) (hf':S.f=f') (hd:f' ds=some (.ret (ys.map D.v) [])) (hrm:S.rm=ys.map fun _=>.dat 0) {args:Array Value} {w:World} {F:Nat→Prop}
  (hgl:gOk G w F) (ha:fG w F (fun _=>none) 0 S.pm ds args.toList) (hF:∀b,F b→b<w.heap.size):Calls P f args w fun e w'=>e = .returned (nT ys)∧Below w.heap.size w w':=by
 refine(sr he hm f' hf' hd hgl ha hF).mono ?_
 rintro e w' ⟨hB,F',R,vs,rfl,hpost⟩
 refine⟨?_,hB⟩
 have hl:=hpost.len
 rw [hrm,ahw] at hl
 have:vs=ys:=by
  refine List.ext_getElem hl fun j h1 h2=>?_
  have h0:=hpost.res j
  rw [hrm,Tf _ _ h2,afq _ _ h2] at h0
  rcases h0 with h0 | h0
  ·cases h0
  rw [ah6,ahL h1,aib] at h0
  exact(cb.1 h0).1
 rw [this]
theorem ac4 (s:ByteArray) (hs:s.size≤1048576):Oh [T s]=some (.ret ([.string ((fb shE s).getD ⟨#[]⟩),.bool (fb shE s).isSome].map D.v) []):=by
 have e:Oh [T s]=(zQ (T s)).bind fun s=>if s.size≤1048576 then some (.ret [T ((fb shE s).getD ⟨#[]⟩),B (fb shE s).isSome] []) else none:=rfl
 rw [e,show zQ (T s)=some s from rfl,aht,if_pos hs]
 rfl
theorem abF (w:ByteArray) (h:w.size≤1048576):Ty [T w,T ⟨#[32]⟩]=some (.ret ([.string ⟨(aid (ac w) [32]).1.toArray⟩,.string ⟨(aid (ac w) [32]).2.1.toArray⟩,.bool (aid (ac w) [32]).2.2].map D.v) []):=by
 simp -implicitDefEqProofs only [Ty]
 rw [if_pos (by omega)]
 rfl
section
variable {w:World} {F:Nat→Prop} (hF:∀b,F b→b<w.heap.size)
include hF
set_option maxRecDepth 100000 in
theorem Am (hgl:gOk gl0 w F) (a b c:Int):Calls Tryz.prog 52 #[.int .i64 a,.int .i64 b,.int .i64 c] w fun e w'=>e = .returned (.bool (decide (b≤a∧a≤c)))∧Below w.heap.size w w' :=
 pl (ahB Tryz.func52 (by kernel_rfl) rfl) dp [_] bO rfl (bz a b c) rfl hgl
  (show eD w F _ (.dat 0) (I a) (.int .i64 a)∧eD w F _ (.dat 0) (I b) (.int .i64 b)∧eD w F _ (.dat 0) (I c) (.int .i64 c)∧True from⟨.inr (cb.2 ⟨rfl,rfl⟩),.inr (cb.2 ⟨rfl,rfl⟩),.inr (cb.2 ⟨rfl,rfl⟩),trivial⟩) hF
set_option maxRecDepth 100000 in
theorem Zf (hgl:gOk gl0 w F) (s:ByteArray) (hs:s.size≤1048576):Calls Tryz.prog 115 #[.string s] w fun e w'=>e = .returned (.tuple #[.string ((fb shE s).getD ⟨#[]⟩),.bool (fb shE s).isSome])∧Below w.heap.size w w' :=
 pl (ahB Tryz.func115 (by kernel_rfl) rfl) Nd [_,_] Oh rfl (ac4 s hs) rfl hgl
  (show eD w F _ (.dat 0) (T s) (.string s)∧True from⟨.inr (cb.2 ⟨rfl,rfl⟩),trivial⟩) hF
set_option maxRecDepth 100000 in
theorem acC (hgl:gOk gl0 w F) (s:ByteArray) (hs:s.size≤1048576):Calls Tryz.prog 85 #[.string s,.string ⟨#[32]⟩] w fun e w' =>
  e = .returned (.tuple #[.string ⟨(aid (ac s) [32]).1.toArray⟩,.string ⟨(aid (ac s) [32]).2.1.toArray⟩,.bool (aid (ac s) [32]).2.2])∧Below w.heap.size w w' :=
 pl (ahB Tryz.func85 (by kernel_rfl) rfl) CL (ds:=[T s,T ⟨#[32]⟩]) [_,_,_] Ty rfl (abF s hs) rfl hgl
  (show eD w F _ (.dat 0) (T s) (.string s)∧eD w F _ (.dat 0) (T ⟨#[32]⟩) (.string ⟨#[32]⟩)∧True from⟨.inr (cb.2 ⟨rfl,rfl⟩),.inr (cb.2 ⟨rfl,rfl⟩),trivial⟩) hF
set_option maxRecDepth 100000 in
theorem JK (hgl:gOk gl2 w F) (s:ByteArray) (hs:s.size≤1048576):Calls Tryz.prog 116 #[.string s] w fun e w'=>Below w.heap.size w w' ∧
  ((∃v,ahZ (ac s) = .ok v∧e = .returned (.tuple #[.int .i64 v,.nilIface]))∨((∀v,ahZ (ac s) ≠ .ok v)∧∃n t x,e = .returned (.tuple #[.int .i64 n,.iface t x]))):=by
 have he:=aco s (by omega)
 have ha:fG w F (fun _=>none) 0 rH.pm [T s] (#[aii s]:Array Value).toList:=show eD w F _ (.dat 0) (T s) (.string s)∧True from⟨.inr (cb.2 ⟨rfl,rfl⟩),trivial⟩
 have hen:=ahB Tryz.func116 (by kernel_rfl) rfl
 have bad:∀n:Int,FE [T s]=some (.ret [I n,.ifc] [])→(∀v,ahZ (ac s) ≠ .ok v)→Calls Tryz.prog 116 #[.string s] w fun e w'=>Below w.heap.size w w' ∧
  ((∃v,ahZ (ac s) = .ok v∧e = .returned (.tuple #[.int .i64 v,.nilIface]))∨((∀v,ahZ (ac s) ≠ .ok v)∧∃n t x,e = .returned (.tuple #[.int .i64 n,.iface t x]))):=by
  intro n hn hno
  refine(sr hen rI FE rfl hn hgl ha hF).mono ?_
  rintro e w' ⟨hB,F',R,vs,rfl,hpost⟩
  refine⟨hB,.inr ⟨hno,?_⟩⟩
  have hl:=hpost.len
  match vs,hl with
  | [y0,y1],hl =>
   have r0:=(hpost.res 0).resolve_left (by intro h;cases h)
   have r1:=(hpost.res 1).resolve_left (by intro h;cases h)
   replace r0:bP w' _ (I n) y0:=r0
   replace r1:bP w' _ .ifc y1:=r1
   obtain⟨rfl,-⟩:=cb.1 r0
   simp only [bP,RepC] at r1
   obtain⟨t,x,h1⟩:=r1
   simp only [aix,and_true] at h1
   subst h1
   exact⟨_,_,_,rfl⟩
 cases hq:ahZ (ac s) with
 | ok v =>
  rw [hq] at he
  refine(pl hen rI (ds:=[T s]) [.int .i64 v,.nilIface] FE rfl he rfl hgl ha hF).mono ?_
  rintro e w' ⟨rfl,hB⟩
  exact⟨hB,.inl ⟨v,rfl,rfl⟩⟩
 | range =>
  rw [hq] at he
  have:=bad _ he (fun v=>by rw [hq];intro h;cases h)
  rw [hq] at this
  exact this
 | _ =>
  rw [hq] at he
  have:=bad _ he (fun v=>by rw [hq];intro h;cases h)
  rw [hq] at this
  exact this
set_option maxRecDepth 100000 in
theorem Ep (hgl:gOk gl0 w F) (s:ByteArray) (hs:s.size≤1048576):Calls Tryz.prog 70 #[.string s,.string ⟨#[32]⟩] w fun e w'=>Below w.heap.size w w' ∧
  ∃g o c cs t,e = .returned (.slice (some ⟨g,o,none⟩) (aB 32 s).length c)∧w.heap.size≤g∧w'.heap[g]?=some (.cells cs t (0,0))∧∀(i:Nat) (x:ByteArray),(aB 32 s)[i]?=some x→cs[o+i]?=some (.string x):=by
 have he:=aad (c:=32) (s:=s) (by omega)
 refine(sr (ahB Tryz.func70 (by kernel_rfl) rfl) xJ (ds:=[T s,T ⟨#[32]⟩]) (args:=#[.string s,.string ⟨#[32]⟩]) yu rfl he hgl
  (show eD w F _ (.dat 0) (T s) (.string s)∧eD w F _ (.dat 0) (T ⟨#[32]⟩) (.string ⟨#[32]⟩)∧True from⟨.inr (cb.2 ⟨rfl,rfl⟩),.inr (cb.2 ⟨rfl,rfl⟩),trivial⟩) hF).mono ?_
 rintro e w' ⟨hB,F',R,vs,rfl,hpost⟩
 refine⟨hB,?_⟩
 have hl:=hpost.len
 match vs,hl with
 | [y0],hl =>
  have r0:=(hpost.res 0).resolve_left (by intro h;cases h)
  replace r0:lj w' _ _ 1 (.arr 1 ((aB 32 s).map T)) y0:=r0
  obtain⟨l,h1,h2,h3⟩:=r0
  cases h1
  rcases h3 with ⟨-,h3⟩ | ⟨g,o,c,us,cs,t,h3,h4,h5,h6,h7,h8,h9⟩
  ·have hne:aB 32 s≠[]:=by
    unfold aB
    simp [em]
   exact absurd (List.map_eq_nil_iff.1 h3) hne
  ·rw [ahw] at h3
   have hus:∀(l:List ByteArray) (us:List Value),bZ w' (FB F' w.heap.size 0) (l.map T) us→us=l.map aii:=by
    intro l
    induction l with
    | nil=>intro us h;exact aV.1 h
    | cons x l ih =>
     intro us h
     obtain⟨v1,v2,rfl,q1,q2⟩:=aw.1 h
     simp only [RepC] at q1
     rw [ih v2 q2,q1.1]
     rfl
   rw [hus _ _ h7] at h8
   exact⟨g,o,c,cs,t,by rw [h3];rfl,h9.2,h5,fun i x hx=>h8 i _ (by rw [aiM,hx];rfl)⟩
end
end Go.Proofs.YtjafgdefcggjcaaGreatDoor

namespace Go.Proofs.YtjafgdefcggjcaaGreatDoor
open Go Go.V Go.RowKit Go.Shelf
set_option maxRecDepth 100000 in
theorem Bl {w:World} {F:Nat→Prop} (hF:∀b,F b→b<w.heap.size) (hgl:gOk gl1 w F) {n:Int} (h0 : -9223372036854775808≤n) (h1:n≤9223372036854775807) :
  Calls Tryz.prog 117 #[.int .i64 n] w fun e w'=>e = .returned (.string (aJ n))∧Below w.heap.size w w' :=
 mg (ahB Tryz.func117 (by kernel_rfl) rfl) sg Kz rfl (MK h0 h1) rfl hgl (show eD w F _ (.dat 0) (I n) (.int .i64 n)∧True from⟨.inr (cb.2 ⟨rfl,rfl⟩),trivial⟩) hF
def UC (x:Slp):List Value:=[.int .i64 x.1,.int .i64 x.2]
theorem Zz {w:World} {F:Nat→Prop}:∀(l:List Slp) (us:List Value),bZ w F (l.map slp) us→us=l.flatMap UC
 | [],us,h=>aV.1 h
 | x::l,us,h=>by
  obtain⟨v1,v2,rfl,h1,h2⟩:=aw.1 h
  rw [Zz l v2 h2]
  simp only [RepC] at h1
  obtain⟨u1,r1,rfl,g1,h1⟩:=aw.1 h1.1
  obtain⟨u2,r2,rfl,g2,h1⟩:=aw.1 h1
  simp only [RepC] at g1 g2
  rw [g1.1,g2.1,aV.1 h1]
  rfl
theorem RY {w:World} {b:Nat}:∀(l:List Slp) (o:Nat),cH w b o (l.flatMap UC)→∀(i:Nat) (x:Slp),l[i]?=some x→cH w b (o+i*2) (UC x)
 | [],_,_,i,x,hx=>by simp at hx
 | y::l,o,h,0,x,hx=>by
  simp only [ahM,ahN] at hx
  subst hx
  intro j u hu
  have:=h j u (by rw [aiq,air (ah9.1 hu).1];exact hu)
  simpa using this
 | y::l,o,h,i+1,x,hx=>by
  have:=RY l (o+2) (by
   have:=h.drop 2
   exact this) i x (by simpa using hx)
  rw [show o+(i+1)*2=o+2+i*2 by omega]
  exact this
set_option maxHeartbeats 4000000 in
set_option maxRecDepth 1000000 in
theorem MV (l:List Slp) (hg:∀x∈l,(1≤x.1∧x.1≤200)∧0≤x.2∧x.2≤20) (hl:l.length≤1048576) (A:Option Addr) (c:Nat) (_hc:l.length≤c) (w:World) (F:Nat→Prop) (hF:∀b,F b→b<w.heap.size) (hgl:gOk gl1 w F)
    (hA:l≠[]→∃b o,A=some ⟨b,o,none⟩∧F b∧∀(i:Nat) (x:Slp),l[i]?=some x→cH w b (o+i*2) (UC x)) :
    Calls Tryz.prog 166 #[.slice A l.length c] w fun e w'=>e = .returned (.string (stT l))∧Below w.heap.size w w':=by
  have hIt:∀n:Int,0≤n→n≤200→∀W,Below w.heap.size w W→Calls Tryz.prog 117 #[.int .i64 n] W fun e w'=>e = .returned (.string (aJ n))∧Below W.heap.size W w':=fun n h0 h1 W hW =>
    Bl (F:=F) (fun b hb=>ain (hF b hb) hW.size) (gT (fun _ h=>h) (fun b hb=>hW.block b (hF b hb)) hgl) (by omega) (by omega)
  go_enter Tryz.func166,Tryz.ntmps166
  go_wp2
  go_loopw [8] (fun v8 wr=>∃(i:Nat) (acc:List UInt8),v8 = .int .i64 i∧i≤l.length∧ahV 67 5 w.heap.size w.heap.size (ah7 acc) wr∧Below w.heap.size w wr∧acc++ac (stT (l.drop i))=ac (stT l)∧acc.length≤8*i) (fun v8 wr=>l.length - (match v8 with | .int _ n=>n.toNat | _=>0))
  case atStart =>
    exact⟨0,[],rfl,ahW _,aiL (aiG 67 5 w),(aiB _ w).alloc (ahx _) _,rfl,ahx _⟩
  case round =>
    obtain⟨i,acc,rfl,hi,hI,hbw,hacc,hal⟩:=hrel
    by_cases hp:i<l.length
    · have hpi:(i:Int)<(l.length:Int):=by omega
      obtain⟨b,o,rfl,hb,hcell⟩:=hA (fun h=>by rw [h] at hp;exact absurd hp (aiS _))
      have hcl:=hcell i l[i] (ahL hp)
      have hbw0:wr.heap[b]?=w.heap[b]?:=hbw.block b (hF b hb)
      have c0:wr.cell? ⟨b,o+i*2,none⟩=some (.int .i64 l[i].1):=(ahY hbw0).trans (hcl 0 _ rfl)
      have c1:wr.cell? ⟨b,o+i*2+1,none⟩=some (.int .i64 l[i].2):=(ahY hbw0).trans (hcl 1 _ rfl)
      have hx:=hg _ (ahT hp)
      have hItC:=hIt l[i].2 (by omega) (by omega)
      have hItL:=hIt l[i].1 (by omega) (by omega)
      obtain⟨z1,z2,z3⟩:=HU hx
      have s1:(aJ l[i].2++⟨⟨[120]⟩⟩:ByteArray).size=(aJ l[i].2).size+1:=by rw [ahz,Uu]
      have s2:(aJ l[i].2++⟨⟨[120]⟩⟩++aJ l[i].1:ByteArray).size=(aJ l[i].2).size+1+(aJ l[i].1).size:=by rw [ahz,s1]
      generalize hO0:(Obj.cells #[.int .i64 l[i].1,.int .i64 l[i].2] 75)=O0 at *
      have hIs:=iE (hI.alloc O0) ((aiB _ _).drew)
      have hBl:=(hbw.alloc hbw.size O0).drew
      have hk:(wr.alloc O0).drew.heap[wr.heap.size]?=some O0:=ais
      have d0:(wr.alloc O0).drew.cell? ⟨wr.heap.size,0,none⟩=some (.int .i64 l[i].1):=by rw [←hO0] at hk ⊢;rw [ahE hk];rfl
      have d1:(wr.alloc O0).drew.cell? ⟨wr.heap.size,1,none⟩=some (.int .i64 l[i].2):=by rw [←hO0] at hk ⊢;rw [ahE hk];rfl
      have hlt:w.heap.size<wr.heap.size:=hI.elim (fun h=>h.lt) (fun h=>h.lt)
      have hne:∀c fz,O0 ≠ .cells c 5 fz:=fun c fz h=>by
        rw [←hO0] at h
        injection h with _ h _
        exact absurd h (by decide)
      have hWr:∀W,ahV 67 5 w.heap.size w.heap.size (ah7 acc) W→w.heap.size≤W.heap.size→W.heap[wr.heap.size]?=some O0 →
          Calls Tryz.prog 43 #[.pointer (some ⟨w.heap.size,0,none⟩),.string (aJ l[i].2++⟨#[120]⟩++aJ l[i].1++⟨#[32]⟩)] W fun e w'=>e = .returned (.tuple #[.int .i64 (slT l[i]).size,.nilIface]) ∧
            ail 67 5 w.heap.size w.heap.size (.pointer (some ⟨w.heap.size,0,none⟩)) (ah7 acc++Lib.strCells (slT l[i])) w'∧Below w.heap.size W w'∧w'.heap[wr.heap.size]?=some O0:=by
        intro W hW1 hW2 hW3
        refine(Fc w.heap.size w.heap.size _ (slT l[i]) W hW1 (by rw [aiC];omega) hW2).mono ?_
        rintro e w' ⟨q1,q2,q3,q4⟩
        refine⟨q1,q2,q3,q4 _ _ hW3 (fun h=>?_) hne⟩
        have:=aiv h
        omega
      go_upto_region 5 with fail
      go_region_held (fun w'=>w'.cell? ⟨wr.heap.size,0,none⟩=some (.int .i64 l[i].1)∧w'.cell? ⟨wr.heap.size,1,none⟩=some (.int .i64 l[i].2)) (first | exact⟨d0,d1⟩ | go_keep)
        (first
          | (go_at_call 117;first
              | (refine(hItC _ hBl).mono ?_;rintro e W1 ⟨rfl,b1⟩
                 have hk:=(b1.block _ (ahF.1 hk).1).trans hk
                 have hIs:=iE hIs b1
                 have hBl:=hBl.trans (b1.mono hBl.size)
                 have d0:W1.cell? ⟨wr.heap.size,0,none⟩=some (.int .i64 l[i].1):=by rw [←hO0] at hk;rw [ahE hk];rfl
                 have d1:W1.cell? ⟨wr.heap.size,1,none⟩=some (.int .i64 l[i].2):=by rw [←hO0] at hk;rw [ahE hk];rfl)
              | (refine(hItL _ hBl).mono ?_;rintro e W1 ⟨rfl,b1⟩
                 have hk:=(b1.block _ (ahF.1 hk).1).trans hk
                 have hIs:=iE hIs b1
                 have hBl:=hBl.trans (b1.mono hBl.size)
                 have d0:W1.cell? ⟨wr.heap.size,0,none⟩=some (.int .i64 l[i].1):=by rw [←hO0] at hk;rw [ahE hk];rfl
                 have d1:W1.cell? ⟨wr.heap.size,1,none⟩=some (.int .i64 l[i].2):=by rw [←hO0] at hk;rw [ahE hk];rfl))
          | (go_at_call 43
             refine(hWr _ hIs hBl.size hk).mono ?_
             rintro e W3 ⟨rfl,hI3,b3,hk⟩
             have d0:W3.cell? ⟨wr.heap.size,0,none⟩=some (.int .i64 l[i].1):=by rw [←hO0] at hk;rw [ahE hk];rfl
             have d1:W3.cell? ⟨wr.heap.size,1,none⟩=some (.int .i64 l[i].2):=by rw [←hO0] at hk;rw [ahE hk];rfl))
      all_goals
        go_wp2
        have hdr:ac (stT (l.drop i))=ac (slT l[i])++ac (stT (l.drop (i+1))):=by
          rw [ah8 hp]
          simp only [stT,bk]
        have hsz:(ac (slT l[i])).length≤8:=z3
        refine⟨⟨i+1,acc++ac (slT l[i]),congrArg (ahS .i64) (by omega),by omega,?_,hBl.trans b3,?_,?_⟩,?_⟩
        · rw [aiD]
          exact Or.inr hI3
        · rw [←hacc,hdr,ahQ]
        · rw [ahX]
          omega
        · show l.length - ((i:Int)+1).toNat<l.length - (i:Int).toNat
          omega
    · have hpi:¬(i:Int)<(l.length:Int):=by omega
      have hcall4:=yJ w.heap.size w.heap.size acc _ hI hbw.size
      go_wp2_with (go_at_call 44;refine hcall4.mono ?_)
      intro e W1 he h1 b1 k1
      subst he
      go_wp2
      go_ret
      rw [aia (by omega)] at hacc
      refine⟨?_,hbw.trans b1⟩
      have:acc=ac (stT l):=by rw [←hacc];simp [stT,ac]
      rw [this,mC]
      rfl
def ads:D→Option Slp
 | .agg [.v (.int .i64 a),.v (.int .i64 b)]=>some (a,b)
 | _=>none
theorem YF {d:D} {x:Slp} (h:ads d=some x):d=slp x:=by
 unfold ads at h
 split at h
 ·cases h;rfl
 ·cases h
def Tg:List D→Option (List Slp)
 | []=>some []
 | d::l=>(ads d).bind fun x=>(Tg l).map (x::·)
theorem Pv:∀(ds:List D) (l:List Slp),Tg ds=some l→ds=l.map slp
 | [],l,h=>by cases h;rfl
 | d::ds,l,h=>by
  simp only [Tg,ahA,ahK] at h
  obtain⟨x,h1,m,h2,rfl⟩:=h
  rw [YF h1,Pv ds m h2]
  rfl
theorem Tb:∀(l:List Slp),Tg (l.map slp)=some l
 | []=>rfl
 | x::l=>by
  simp only [ahJ,Tg,Tb l]
  rfl
def Eu:List D→Option Out
 | [.arr _ ds]=>(Tg ds).bind fun l=>if (∀x∈l,(1≤x.1∧x.1≤200)∧0≤x.2∧x.2≤20)∧l.length≤1048576 then some (.ret [T (stT l)] []) else none
 | _=>none
theorem Mx {l:List Slp} (h:ct l=true):Eu [sls l]=some (.ret [T (stT l)] []):=by
 have h8:=ef h
 simp only [Eu,Tb,aht]
 rw [if_pos ⟨eZ h,by omega⟩]
@[reducible] def og:FS:={pm:=[.dat 2],rm:=[.dat 0],f:=Eu}
set_option maxRecDepth 100000 in
theorem vp:au gl1 Tryz.prog 166 og:=by
 have he:∀args w,(callFunc 166 args).run Tryz.prog w = .ok (.enter 166 args) w:=ahB Tryz.func166 (by kernel_rfl) rfl
 refine bT he fun ds rs us hd args w F ow hg ha hF _=>?_
 obtain⟨d,y,rfl,h2,h3⟩:=mX ha
 replace hd:Eu [d]=some (.ret rs us):=hd
 unfold Eu at hd
 split at hd
 case h_2=>cases hd
 rename_i z ds e
 cases e
 obtain⟨l,hl,hd⟩:=ahA.1 hd
 split at hd
 case isFalse=>cases hd
 rename_i hz
 cases hd
 obtain rfl:=Pv _ _ hl
 rcases h3 with h3 | h3
 ·cases h3
 simp only [bP,RepC] at h3
 obtain⟨A,c,us,hy,hc,hr,_,hA⟩:=h3
 simp only [aix,and_true] at hy
 subst hy
 rw [Zz l us hr] at hA
 rw [FK h2]
 rw [ahw] at hc ⊢
 refine(MV l hz.1 hz.2 A c hc w F (fun b hb=>(hF b hb).1) hg (fun hne=>?_)).mono ?_
 ·obtain⟨b,o,rfl,h5,h6⟩:=hA (by simpa using hne)
  exact⟨b,o,rfl,h5,RY l o h6⟩
 ·rintro e w' ⟨rfl,hB⟩
  refine⟨_,rfl,F,_,[_],rfl,eQ hB hF rfl rfl [_] [_] rfl rfl fun j d hj=>?_⟩
  match j,hj with
  | 0,hj =>
   simp only [ahM,ahN] at hj
   subst hj
   exact⟨_,rfl,cb.2 ⟨rfl,rfl⟩⟩
end Go.Proofs.YtjafgdefcggjcaaGreatDoor

end
