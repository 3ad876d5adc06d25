/-
  A part of the proof: contracts and plain forms of functions beneath the statement, made small by a program (names shortened, what is not needed left out).
-/
import Derived.Test.YtjafgdefcggjcaaGreatDoorRows
import Derived.Test.YtjafgdefcggjcaaGreatDoorTie
import Derived.Test.YtjafgdefcggjcaaGreatDoorCards
import Derived.Test.YtjafgdefcggjcaaGreatDoorM9
import Derived.Maps.AppendAt
open Int renaming reduceLT → aht, reduceLE → ahu, reduceEq → ahv, natCast_add → ah8
open List renaming range → ahw, all_eq_true → ahA, getElem_mem → ahB, eq_nil_of_length_eq_zero → ahE, take_succ_eq_append_getElem → ahF, getElem?_eq_getElem → ahH, length_eq_one_iff → ahM, take_length → ahO, length_map → ahP, length_cons → ahQ, getD_eq_getElem?_getD → ahR, length_append → ahU, foldl_append → ah4, append_assoc → ah5, length_singleton → ah7, length_range → aid, drop_eq_getElem_cons → aie, take_of_length_le → aih, mem_range → aij, mem_cons → aik, length_pos_iff → aim, mem_singleton → aiq, mem_map → air, length_drop → ait, not_mem_nil → aiu, range_succ → aiv, nil_append → aiw, map_append → aix, replicate → aiz
open Go.IntKind renaming i64 → ahx
open Bool renaming and_eq_true → ahy, false_eq_true → ahT, true_and → ahY, false_and → ah3
open Go.Value renaming int → ahz, string → ahX, slice → aii, ownBlock → aiA
open Nat renaming le_refl → ahC, le_trans → ahD, le_of_eq → ahG, zero_le → ahN, pow_le_pow_right → ahS, mul_le_mul → ahW, mul_comm → ah1, lt_of_lt_of_le → ah2, mul_le_mul_right → ah9, zero_add → aia, succ_mul → aig, add_sub_cancel → aip
open ByteArray renaming size_append → ahI
open Option renaming isSome_none → ahJ, bind_some → ahK, isSome_some → ah0, getD_some → ah6, isSome_iff_exists → aif
open Go.Lib renaming cell_of_heap → ahL, frozen_of_heap → aic
open Option.some renaming injEq → ahV
open Array renaming getElem?_eq_some_iff → ahZ
open Go.Proofs renaming enters_of → aib
open Go.World renaming setCell → ail, ownsRow_nil → ais
open Go.ByteArray renaming toList_eq → ain
open Go.BinOp renaming add → aio
open Go.RowKit.Below renaming refl → aiy
set_option linter.unusedSimpArgs false
set_option linter.unusedVariables false
noncomputable section
namespace Go.Proofs.YtjafgdefcggjcaaGreatDoor
open Go Go.V
theorem wX (n:Int):iI [I n]=some (.ret [B (decide (1≤n∧n≤400))] []):=by
 rw [LX]
 have:=bn n 1 400
 simp -implicitDefEqProofs only [ay,aht,ahu,ahv,this]
theorem qk (n:Int):fa [I n]=some (.ret [B (decide (1≤n∧n≤400))] []):=by
 rw [BI]
 have:=bz n 1 400
 simp -implicitDefEqProofs only [ay,aht,ahu,ahv,this]
def rlA (l:List Slp) (n:Int):Bool:=ct l&&decide (1≤n∧n≤400)
def rlB (l:List Slp) (n:Int):Bool:=rlA l n&&(cS l n.toNat).isSome
def rlV (l:List Slp) (n:Int):List Int:=if rlB l n=true then ctl l l.length n.toNat else []
theorem qI {l:List Slp} {n:Int}:rlA l n=true↔ct l=true∧1≤n∧n≤400:=by
 unfold rlA
 simp only [ahy,decide_eq_true_eq]
theorem Qq (l:List Slp) (n:Int) (h:l.length≤1048576):oW [sls l,I n]=some (.ret [ai (rlV l n),B (rlB l n)] []):=by
 rw [Qa]
 have hg:=eL l h
 have hl:=wX n
 by_cases hA:rlA l n=true
 ·obtain⟨h1,h2,h3⟩:=qI.1 hA
  have hr:=PP l n.toNat (ef h1) (by omega) (eZ h1)
  rw [show((n.toNat:Nat):Int)=n by omega] at hr
  have hB:rlB l n=(cS l n.toNat).isSome:=by unfold rlB;rw [hA,ahY]
  have hV:rlV l n=ruL l n.toNat:=by unfold rlV ruL;rw [hB]
  rw [hB,hV]
  simp -implicitDefEqProofs only [ay,aht,ahu,ahv,hg,h1,hl,h2,h3,hr,t0A,kU,t1V]
 ·have hB:rlB l n=false:=by unfold rlB;simp [hA]
  have hV:rlV l n=[]:=by unfold rlV;rw [hB];rfl
  rw [hB,hV]
  by_cases h1:ct l=true
  ·have h2:¬(1≤n∧n≤400):=fun e=>hA (qI.2 ⟨h1,e⟩)
   simp -implicitDefEqProofs only [ay,aht,ahu,ahv,hg,h1,hl,h2]
   rfl
  ·have h1':ct l=false:=by simpa using h1
   simp -implicitDefEqProofs only [ay,aht,ahu,ahv,hg,h1',hl]
   rfl
theorem QP (l:List Slp) (n:Int) (h:l.length≤1048576):oG [sls l,I n]=some (.ret [ai (rlV l n),B (rlB l n)] []):=by
 rw [Rv]
 have hg:=dm l h
 have hl:=qk n
 by_cases hA:rlA l n=true
 ·obtain⟨h1,h2,h3⟩:=qI.1 hA
  have hr:=PT l n.toNat (ef h1) (by omega) (eZ h1)
  rw [show((n.toNat:Nat):Int)=n by omega] at hr
  have hB:rlB l n=(cS l n.toNat).isSome:=by unfold rlB;rw [hA,ahY]
  unfold rlV
  rw [hB]
  unfold ruO at hr
  cases hq:(cS l n.toNat).isSome
  ·rw [hq] at hr
   have hn:aba BinOp.eql (.v (.slice none 0 0))=some (B true):=rfl
   simp -implicitDefEqProofs only [ay,aht,ahu,ahv,hg,h1,hl,h2,h3,hr,hn]
   rfl
  ·rw [hq] at hr
   have hpos:0<(ctl l l.length n.toNat).length:=by
    rw [qM]
    rcases Nat.eq_zero_or_pos l.length with e | e
    ·rw [ahE e] at hq
     have h0:cS [] n.toNat=none:=if_neg (by omega)
     rw [h0] at hq
     cases hq
    ·exact e
   have hn:aba BinOp.eql (ai (ctl l l.length n.toNat))=some (B false):=by
    obtain⟨a,t,e⟩:=List.exists_cons_of_length_pos hpos
    rw [e]
    rfl
   simp -implicitDefEqProofs only [ay,aht,ahu,ahv,hg,h1,hl,h2,h3,hr,hn]
 ·have hB:rlB l n=false:=by unfold rlB;simp [hA]
  have hV:rlV l n=[]:=by unfold rlV;rw [hB];rfl
  rw [hB,hV]
  by_cases h1:ct l=true
  ·have h2:¬(1≤n∧n≤400):=fun e=>hA (qI.2 ⟨h1,e⟩)
   simp -implicitDefEqProofs only [ay,aht,ahu,ahv,hg,h1,hl,h2]
   rfl
  ·have h1':ct l=false:=by simpa using h1
   simp -implicitDefEqProofs only [ay,aht,ahu,ahv,hg,h1',hl]
   rfl
def JG (P:Nat→Bool):Nat→Nat→Option Nat
 | _,0=>none
 | k,u+1=>if P k=true then some k else JG P (k+1) u
def sE (l:List Slp) (n:Int):Option Nat:=if rlA l n=true then JG (fun k=>(cS l k).isSome) n.toNat (401 - n.toNat) else none
def zP (l:List Slp) (n:Int):Int:=match sE l n with
 | some k=>(k:Int) - n
 | none=>0
theorem ZE (P:Nat→Bool):∀(u k m:Nat),JG P k u=some m→k≤m∧m<k+u
 | 0,_,_,h=>by cases h
 | u+1,k,m,h=>by
  unfold JG at h
  split at h
  ·cases h;omega
  ·have:=ZE P u (k+1) m h
   omega
theorem Gm (l:List Slp) (n:Int) (h:l.length≤1048576):jw [sls l,I n]=some (.ret [I (zP l n),B (sE l n).isSome] []):=by
 rw [Gj]
 have hg:=eL l h
 have hl:=wX n
 by_cases hA:rlA l n=true
 ·obtain⟨h1,h2,h3⟩:=qI.1 hA
  have hr:=xF l 400 (ef h1) (by omega) (eZ h1)
  have hrow:=AF (l:=nQ 400 l (l.length+1)) (i:=l.length) (by rw [pj];omega)
  rw [Af (by omega),ahO] at hrow
  have hr':gb [sls l,D.v (ahz ahx 400)]=some (.ret [fj (nQ 400 l (l.length+1))] []):=hr
  have hO:sE l n=JG (fun k=>(cS l k).isSome) n.toNat (401 - n.toNat):=by unfold sE;rw [if_pos hA]
  have hb:=An (l:=l) (fun x hx=>(eZ h1 x hx).2.2) l.length (ahC _)
  rw [ahO] at hb
  have hl8:=ef h1
  simp -implicitDefEqProofs only [ay,aht,ahu,ahv,hg,h1,hl,h2,h3,hr',hrow]
  refine cG (fun r=>r=_) (fun(k:Nat)=>[I n,ai (yk 400 (cS l)),I (k:Int)]) (fun k=>n≤k∧k≤401∧sE l n=JG (fun k=>(cS l k).isSome) k (401 - k)) (fun k=>401 - k)
   (fun o=>(∃m,sE l n=some m∧o = .ret [I ((m:Int) - n),B true] [])∨(sE l n=none∧o = .ext 0 [])) (fun k hk=>?_) n.toNat ⟨by omega,by omega,hO⟩ (by rw [show((n.toNat:Nat):Int)=n by omega]) ?_
  ·obtain⟨g1,g2,g3⟩:=hk
   by_cases hp:k<401
   ·have hp':(k:Int)≤400:=by omega
    have her:=gH (l:=yk 400 (cS l)) (i:=k) (by rw [vj];omega)
    rw [uC (by omega)] at her
    have hw:ahx.wrap ((k:Int)+1)=((k+1:Nat):Int):=by rw [ah (by omega) (by omega)];omega
    have hw2:ahx.wrap ((k:Int) - n)=(k:Int) - n:=ah (by omega) (by omega)
    rw [show 401 - k=(401 - (k+1))+1 by omega] at g3
    cases hv:cS l k with
    | none =>
     rw [hv] at her
     have he:¬gD none<1048576:=by simp [gD]
     left
     refine⟨k+1,?_,⟨by omega,by omega,?_⟩,by omega⟩
     ·simp -implicitDefEqProofs only [ay,aht,ahu,ahv,hp',her,he,hw]
     ·rw [g3]
      simp only [JG,hv,ahJ,ahT,if_false]
    | some v =>
     rw [hv] at her
     have hv2:=hb k v hv
     have he:gD (some v)<1048576:=by
      simp only [gD]
      omega
     right
     refine⟨_,?_,rfl,.inl ⟨k,?_,rfl⟩⟩
     ·simp -implicitDefEqProofs only [ay,aht,ahu,ahv,hp',her,he,hw2]
     ·rw [g3]
      simp only [JG,hv,ah0,if_true]
   ·have hp':¬(k:Int)≤400:=by omega
    obtain rfl:k=401:=by omega
    right
    refine⟨_,?_,rfl,.inr ⟨g3,rfl⟩⟩
    simp -implicitDefEqProofs only [ay,aht,ahu,ahv,hp']
  ·rintro o (⟨m,hm,rfl⟩ | ⟨hm,rfl⟩)
   ·unfold zP
    rw [hm]
    simp -implicitDefEqProofs only [ay,aht,ahu,ahv,sk,ah0]
   ·unfold zP
    rw [hm]
    simp -implicitDefEqProofs only [ay,aht,ahu,ahv,ahJ]
 ·have hO:sE l n=none:=by unfold sE;rw [if_neg hA]
  unfold zP
  rw [hO]
  by_cases h1:ct l=true
  ·have h2:¬(1≤n∧n≤400):=fun e=>hA (qI.2 ⟨h1,e⟩)
   simp -implicitDefEqProofs only [ay,aht,ahu,ahv,hg,h1,hl,h2,ahJ]
  ·have h1':ct l=false:=by simpa using h1
   simp -implicitDefEqProofs only [ay,aht,ahu,ahv,hg,h1',hl,ahJ]
theorem LJ (l:List Slp) (h1:ct l=true):lA [sls l]=some (.ret [ai (yf 400 (cS l))] []):=by
 rw [Mb]
 have hl8:=ef h1
 have e1:=uB l (by omega)
 have e2:=DN l 400 hl8 (by omega) (eZ h1)
 have e2':iU [ai (l.map (·.1)),ai (l.map (·.2)),D.v (ahz ahx 400)]=_:=e2
 have hrow:=AF (l:=px 400 l (l.length+1)) (i:=l.length) (by rw [pz];omega)
 rw [Ad (by omega),ahO] at hrow
 simp -implicitDefEqProofs only [ay,aht,ahu,ahv,e1,t0A,kU,t1A,e2',hrow]
theorem FJ (l:List Slp) (n:Int) (h:l.length≤1048576):jv [sls l,I n]=some (.ret [I (zP l n),B (sE l n).isSome] []):=by
 rw [Gu]
 have hg:=dm l h
 have hl:=qk n
 by_cases hA:rlA l n=true
 ·obtain⟨h1,h2,h3⟩:=qI.1 hA
  have hr:=LJ l h1
  have hO:sE l n=JG (fun k=>(cS l k).isSome) n.toNat (401 - n.toNat):=by unfold sE;rw [if_pos hA]
  simp -implicitDefEqProofs only [ay,aht,ahu,ahv,hg,h1,hl,h2,h3,hr]
  refine cG (fun r=>r=_) (fun(k:Nat)=>[I n,ai (yf 400 (cS l)),I (k:Int)]) (fun k=>n≤k∧k≤401∧sE l n=JG (fun k=>(cS l k).isSome) k (401 - k)) (fun k=>401 - k)
   (fun o=>(∃m,sE l n=some m∧o = .ret [I ((m:Int) - n),B true] [])∨(sE l n=none∧o = .ext 0 [])) (fun k hk=>?_) n.toNat ⟨by omega,by omega,hO⟩ (by rw [show((n.toNat:Nat):Int)=n by omega]) ?_
  ·obtain⟨g1,g2,g3⟩:=hk
   by_cases hp:k<401
   ·have hp':(k:Int)≤400:=by omega
    have her:=gH (l:=yf 400 (cS l)) (i:=k) (by rw [ve];omega)
    rw [Ap (by omega)] at her
    have hw:ahx.wrap ((k:Int)+1)=((k+1:Nat):Int):=by rw [ah (by omega) (by omega)];omega
    have hw2:ahx.wrap ((k:Int) - n)=(k:Int) - n:=ah (by omega) (by omega)
    rw [show 401 - k=(401 - (k+1))+1 by omega] at g3
    cases hv:cS l k with
    | none =>
     rw [hv] at her
     have he:¬0≤iA none:=by decide
     left
     refine⟨k+1,?_,⟨by omega,by omega,?_⟩,by omega⟩
     ·simp -implicitDefEqProofs only [ay,aht,ahu,ahv,hp',her,he,hw]
     ·rw [g3]
      simp only [JG,hv,ahJ,ahT,if_false]
    | some v =>
     rw [hv] at her
     have he:0≤iA (some v):=by
      rw [EJ]
      omega
     right
     refine⟨_,?_,rfl,.inl ⟨k,?_,rfl⟩⟩
     ·simp -implicitDefEqProofs only [ay,aht,ahu,ahv,hp',her,he,hw2]
     ·rw [g3]
      simp only [JG,hv,ah0,if_true]
   ·have hp':¬(k:Int)≤400:=by omega
    obtain rfl:k=401:=by omega
    right
    refine⟨_,?_,rfl,.inr ⟨g3,rfl⟩⟩
    simp -implicitDefEqProofs only [ay,aht,ahu,ahv,hp']
  ·rintro o (⟨m,hm,rfl⟩ | ⟨hm,rfl⟩)
   ·unfold zP
    rw [hm]
    simp -implicitDefEqProofs only [ay,aht,ahu,ahv,sk,ah0]
   ·unfold zP
    rw [hm]
    simp -implicitDefEqProofs only [ay,aht,ahu,ahv,ahJ]
 ·have hO:sE l n=none:=by unfold sE;rw [if_neg hA]
  unfold zP
  rw [hO]
  by_cases h1:ct l=true
  ·have h2:¬(1≤n∧n≤400):=fun e=>hA (qI.2 ⟨h1,e⟩)
   simp -implicitDefEqProofs only [ay,aht,ahu,ahv,hg,h1,hl,h2,ahJ]
  ·have h1':ct l=false:=by simpa using h1
   simp -implicitDefEqProofs only [ay,aht,ahu,ahv,hg,h1',hl,ahJ]
end Go.Proofs.YtjafgdefcggjcaaGreatDoor

namespace Go.Proofs.YtjafgdefcggjcaaGreatDoor
open Go Go.V
def ij (c:Cn) (w:ByteArray) (r:List Int):ByteArray × Cn :=
 if w=dC then(if tkB c.m (r.getD 0 0)=true then(mtT (tkR c.m (r.getD 0 0)),{c with m:=tkR c.m (r.getD 0 0)}) else(noT,c))
 else if w=bN then(if shB c.m=true then bX 32 (shR c.m) else noT,c)
 else if w=dv then(if rlB c.s (r.getD 0 0)=true then(bX 32 (rlV c.s (r.getD 0 0)),{c with s:=rsS c.s (rlV c.s (r.getD 0 0))}) else(noT,c))
 else if w=gE then(if cuB c.s (r.getD 0 0) (r.getD 1 0)=true then(stT (cuR c.s (r.getD 0 0) (r.getD 1 0)),{c with s:=cuR c.s (r.getD 0 0) (r.getD 1 0)}) else(noT,c))
 else(if (sE c.s (r.getD 0 0)).isSome=true then aJ (zP c.s (r.getD 0 0)) else noT,c)
theorem Ax {m:Me} {g:Int} (hm:ck m=true):ck (tkR m g)=true:=by
 unfold tkR
 split
 ·rename_i h
  have h':=h
  unfold tkB asB at h'
  simp only [ahy,decide_eq_true_eq] at h'
  obtain⟨⟨-,h0,h1⟩,h2⟩:=h'
  have hp:=GV hm h0 h1
  simp only [ck,in6,ahy,decide_eq_true_eq] at hm ⊢
  unfold reM
  dsimp only
  omega
 ·decide
theorem Pl {l:List Slp} {i n:Int}:ct (cuR l i n)=true:=by
 unfold cuR
 split
 ·rename_i h
  unfold cuB at h
  simp only [ahy] at h
  exact h.2
 ·rfl
theorem AX {l:List Slp} {n:Int} (hg:ct l=true):(rlV l n).length≤8∧∀x∈rlV l n,0≤x∧x≤20:=by
 have h8:=ef hg
 unfold rlV
 split
 ·rename_i h
  unfold rlB at h
  simp only [ahy] at h
  obtain⟨v,hv⟩:=aif.1 h.2
  have hb:=acs (l:=l) (i:=l.length) (n:=n.toNat) (v:=v) (ahC _) (by rw [ahO];exact hv)
  refine⟨by rw [qM];exact h8,fun x hx=>?_⟩
  obtain⟨j,hj,rfl⟩:=List.getElem_of_mem hx
  have hj':j<l.length:=by rw [qM] at hj;exact hj
  have:=hb j hj'
  rw [ahR,ahH hj,ah6] at this
  have hok:=eZ hg l[j] (ahB hj')
  have hC:=UV hj' hok.2.1
  omega
 ·simp
theorem Zb {l:List Slp} {n:Int}:0≤zP l n∧zP l n≤400:=by
 unfold zP sE
 by_cases h:rlA l n=true
 ·rw [if_pos h]
  obtain⟨-,h1,h2⟩:=qI.1 h
  cases hq:JG (fun k=>(cS l k).isSome) n.toNat (401 - n.toNat) with
  | none=>simp
  | some k =>
   have:=ZE _ _ _ _ hq
   dsimp only
   omega
 ·rw [if_neg h]
  simp
theorem Ie {l:List Int} (h:l.length=2):∃a b,l=[a,b]:=by
 match l,h with
 | [a,b],_=>exact⟨a,b,rfl⟩
theorem Je {l:List Int} (h:l.length=3):∃a b c,l=[a,b,c]:=by
 match l,h with
 | [a,b,c],_=>exact⟨a,b,c,rfl⟩
theorem tQ {l:List Int} (h:∀x∈l,-1000000000000000000<x∧x<1000000000000000000):aeQ l:=fun x hx=>by
 have:=h x hx
 omega
theorem nu (c:Cn) (x y:Value) (n:Int) (w:ByteArray) (r:List Int) (hm:ck c.m=true) (hs:ct c.s=true)
  (hw:(w=dC∧r.length=1)∨(w=bN∧r.length=0)∨(w=dv∧r.length=1)∨(w=gE∧r.length=2)∨(w=bw∧r.length=1)) :
  cy [cnD c x y n,T w,ai r]=some (.ret [T (ij c w r).1] [cnD (ij c w r).2 x y n]):=by
 rw [yF]
 have h8:=ef hs
 rcases hw with ⟨rfl,hr⟩ | ⟨rfl,hr⟩ | ⟨rfl,hr⟩ | ⟨rfl,hr⟩ | ⟨rfl,hr⟩
 ·obtain⟨a,rfl⟩:=ahM.1 hr
  have hel:ao 1 (ai [a]) (D.v (ahz ahx 0))=some [I a]:=rfl
  have e1:=LL c.m a
  have e2:=DU (Ax (g:=a) hm)
  have hmc:ij c dC [a]=if tkB c.m a=true then(mtT (tkR c.m a),{c with m:=tkR c.m a}) else(noT,c):=rfl
  rw [hmc]
  cases hq:tkB c.m a<;>rw [hq] at e1<;>simp -implicitDefEqProofs only [ay,aht,ahu,ahv,yN,hel,e1,e2,t0G,t1G,t2V,rV,ro,aaj,bJ,bV,bg,aR,VT,nq,mG]
 ·obtain rfl:=ahE hr
  have e1:=Ld c.m
  have hb:∀z∈shR c.m,0≤z∧z≤1000:=by
   unfold shR
   split
   ·rename_i h
    exact(Vj h).2.2
   ·simp
  have hl3:(shR c.m).length≤3:=by
   unfold shR
   split<;>simp [shL]
  have e2:=tS (shR c.m) (by omega) (tQ fun z hz=>by have:=hb z hz;omega) (fun z hz=>by have:=hb z hz;omega)
  have hmc:ij c bN []=(if shB c.m=true then bX 32 (shR c.m) else noT,c):=rfl
  rw [hmc]
  cases hq:shB c.m<;>rw [hq] at e1<;>simp -implicitDefEqProofs only [ay,aht,ahu,ahv,tY,ly,e1,e2,t0A,kU,t1V,aaj,bJ,bV,bg,aR,nq,mG]
 ·obtain⟨a,rfl⟩:=ahM.1 hr
  have hel:ao 1 (ai [a]) (D.v (ahz ahx 0))=some [I a]:=rfl
  have e1:=Qq c.s a (by omega)
  have hmc:ij c dv [a]=if rlB c.s a=true then(bX 32 (rlV c.s a),{c with s:=rsS c.s (rlV c.s a)}) else(noT,c):=rfl
  obtain⟨hv1,hv2⟩:=AX (n:=a) hs
  have e2:=tS (rlV c.s a) (by omega) (tQ fun z hz=>by have:=hv2 z hz;omega) (fun z hz=>by have:=hv2 z hz;omega)
  rw [hmc]
  cases hq:rlB c.s a
  ·rw [hq] at e1
   simp -implicitDefEqProofs only [ay,aht,ahu,ahv,tE,ur,tf,hel,e1,t0A,t1V,ZP,bJ,bV,bg,aR]
  ·rw [hq] at e1
   have hlen:(rlV c.s a).length=c.s.length:=by unfold rlV;rw [if_pos hq,qM]
   have e3:=RC c.s (rlV c.s a) (by omega) hlen
   simp -implicitDefEqProofs only [ay,aht,ahu,ahv,tE,ur,tf,hel,e1,e2,e3,t0A,t1V,ZP,acg,bJ,bV,bg,aR]
 ·obtain⟨a,b,rfl⟩:=Ie hr
  have hel:ao 1 (ai [a,b]) (D.v (ahz ahx 0))=some [I a]:=rfl
  have hel1:ao 1 (ai [a,b]) (D.v (ahz ahx 1))=some [I b]:=rfl
  have e1:=OU c.s a b (by omega)
  have hck:=Pl (l:=c.s) (i:=a) (n:=b)
  have h8':=ef hck
  have e2:=PS (cuR c.s a b) (by omega) (eZ hck)
  have hmc:ij c gE [a,b]=if cuB c.s a b=true then(stT (cuR c.s a b),{c with s:=cuR c.s a b}) else(noT,c):=rfl
  rw [hmc]
  cases hq:cuB c.s a b<;>rw [hq] at e1<;>simp -implicitDefEqProofs only [ay,aht,ahu,ahv,EG,Fr,EZ,Ka,hel,hel1,e1,e2,t0A,t1V,ZP,acg,bJ,bV,bg,aR,nq,mG]
 ·obtain⟨a,rfl⟩:=ahM.1 hr
  have hel:ao 1 (ai [a]) (D.v (ahz ahx 0))=some [I a]:=rfl
  have e1:=Gm c.s a (by omega)
  have hmb:=Zb (l:=c.s) (n:=a)
  have e2:=nz (n:=zP c.s a) (by omega) (by omega)
  have hmc:ij c bw [a]=(if (sE c.s a).isSome=true then aJ (zP c.s a) else noT,c):=rfl
  rw [hmc]
  cases hq:(sE c.s a).isSome<;>rw [hq] at e1<;>simp -implicitDefEqProofs only [ay,aht,ahu,ahv,sx,nO,rO,uu,hel,e1,e2,t0V,t1V,ZP,bJ,bV,bg,aR,nq,mG]
end Go.Proofs.YtjafgdefcggjcaaGreatDoor

namespace Go.Proofs.YtjafgdefcggjcaaGreatDoor
open Go Go.V
theorem ND {l:List Fo} {i:Nat} (h:i<l.length):ao 2 (fos l) (I (i:Int))=some [I l[i].1,B l[i].2]:=by simp [h,D.cells]
theorem tk2 (a b:D):an true 2 [a,b]=some (.agg [a,b]):=rfl
theorem xA (x:Fo):aL (D.agg [I x.1,B x.2])=some (fo x):=rfl
theorem pQ (a b:D) (x:Fo):stD 2 (D.agg [a,b]) (D.ref 0 0) (fo x)=some (fo x):=rfl
theorem gm (x:Fo) (k:Nat):aa (fo x) (D.ref 0 k)=some (D.ref 0 k):=rfl
theorem vh (x:Fo):(atD (fo x) (D.ref 0 0)).bind (an false 1)=some (I x.1):=rfl
theorem aaa (x:Fo):(atD (fo x) (D.ref 0 1)).bind (an false 1)=some (B x.2):=rfl
theorem DR (l:List Fo) (h:l.length≤1000000):kP [fos l]=some (.ret [B (pX l)] []):=by
 rw [Qp]
 simp -implicitDefEqProofs only [ay,aht,ahu,ahv]
 refine aD _ (pA l (fun i=>[fos l,fos l,I l.length,I i]) (fun _ x=>decide (1≤x.1∧x.1≤2)) (.ret [B false] []) (.ext 0 [fos l]) (fun i hi=>?_) ?_ rfl rfl rfl) ?_
 ·have hil:(i:Int)<l.length:=by omega
  have e1:=ND hi
  have e2:=bn l[i].1 1 2
  by_cases hc:1≤l[i].1∧l[i].1≤2
  ·simp -implicitDefEqProofs only [ay,aht,ahu,ahv,hil,e1,tk2,xA,pQ,gm,vh,e2,hc,wI (show i≤1000000 by omega)]
  ·simp -implicitDefEqProofs only [ay,aht,ahu,ahv,hil,e1,tk2,xA,pQ,gm,vh,e2,hc,wI (show i≤1000000 by omega)]
 ·have:¬(l.length:Int)<l.length:=by omega
  simp -implicitDefEqProofs only [ay,aht,ahu,ahv,this]
 ·rw [vH]
  unfold pX
  have h4:decide ((l.length:Int)≤4)=decide (l.length≤4):=by
   by_cases h:l.length≤4
   ·rw [decide_eq_true h,decide_eq_true (by omega)]
   ·rw [decide_eq_false h,decide_eq_false (by omega)]
  cases hq:l.all fun x=>decide (1≤x.1∧x.1≤2)
  ·simp -implicitDefEqProofs only [ay,aht,ahu,ahv,sk,ah3]
  ·simp -implicitDefEqProofs only [ay,aht,ahu,ahv,h4,ahY]
def szS (s:Nat × Nat) (f:Fo):Nat × Nat:=if f.1=1 then(s.1*2,s.2) else(s.1,s.2*2)
theorem Mw {l:List Fo} {i:Nat} (h:i<l.length):szF (l.take (i+1))=szS (szF (l.take i)) l[i]:=by
 unfold szF
 rw [ahF h,ah4]
 rfl
theorem Zy {l:List Fo} (h4:l.length≤4):∀i,i≤l.length→(szF (l.take i)).1≤2 ^ i∧(szF (l.take i)).2≤2 ^ i
 | 0,_=>by simp [szF]
 | i+1,hi=>by
  have ih:=Zy h4 i (by omega)
  rw [Mw (by omega),Nat.pow_succ]
  unfold szS
  split<;>dsimp only<;>omega
theorem CJ (l:List Fo) (h4:l.length≤4):kQ [fos l]=some (.ret [I ((szF l).1:Int),I ((szF l).2:Int)] []):=by
 rw [Rf]
 simp -implicitDefEqProofs only [ay,aht,ahu,ahv]
 refine aD (.ext 0 [I ((szF l).1:Int),I ((szF l).2:Int)]) (aQ l.length (fun i=>[I ((szF (l.take i)).1:Int),I ((szF (l.take i)).2:Int),fos l,I l.length,I (i:Int)]) _ (fun i hi=>?_) ?_ rfl rfl) ?_
 ·have hil:(i:Int)<l.length:=by omega
  have e1:=ND hi
  have hb:=Zy h4 i (by omega)
  have hp:2 ^ i≤2 ^ 4:=ahS (by decide) (by omega)
  rw [Mw hi]
  generalize szF (l.take i)=s at hb
  unfold szS
  have w1:ahx.wrap ((s.1:Int)*2)=((s.1*2:Nat):Int):=by rw [ah (by omega) (by omega)];omega
  have w2:ahx.wrap ((s.2:Int)*2)=((s.2*2:Nat):Int):=by rw [ah (by omega) (by omega)];omega
  by_cases hc:l[i].1=1
  ·have hcd:=decide_eq_true hc
   rw [if_pos hc]
   simp -implicitDefEqProofs only [ay,aht,ahu,ahv,hil,e1,tk2,xA,pQ,gm,vh,hcd,wI (show i≤1000000 by omega),w1,w2]
  ·have hcd:=decide_eq_false hc
   rw [if_neg hc]
   simp -implicitDefEqProofs only [ay,aht,ahu,ahv,hil,e1,tk2,xA,pQ,gm,vh,hcd,wI (show i≤1000000 by omega),w1,w2]
 ·rw [ahO]
  have:¬(l.length:Int)<l.length:=by omega
  simp -implicitDefEqProofs only [ay,aht,ahu,ahv,this]
 ·simp -implicitDefEqProofs only [ay,aht,ahu,ahv]
theorem Bk (p:List Int):(qp p).length=p.length:=by simp [qp]
theorem Yy {p:List Int} {j:Nat} (h:j<p.length):(qp p).take (j+1)=(qp p).take j++[-(p[p.length - 1 - j]'(by omega))]:=by
 rw [ahF (by rw [Bk];exact h)]
 congr 2
 unfold qp
 rw [List.getElem_map,List.getElem_reverse]
theorem Ds (p:List Int) (h:p.length≤1000) (hb:∀x∈p,-1000000≤x∧x≤1000000):kT [ai p]=some (.ret [ai (qp p)] []):=by
 rw [QC]
 have w0:ahx.wrap ((p.length:Int) - 1)=(p.length:Int) - 1:=ah (by omega) (by omega)
 simp -implicitDefEqProofs only [ay,aht,ahu,ahv,w0]
 refine aD (.ext 0 [ai (qp p)]) (aQ p.length (fun j=>[ai p,ai ((qp p).take j),I ((p.length:Int) - 1 - (j:Int))]) _ (fun j hj=>?_) ?_ rfl ?_) ?_
 ·have hge:(0:Int)≤(p.length:Int) - 1 - (j:Int):=by omega
  have hix:(p.length:Int) - 1 - (j:Int)=((p.length - 1 - j:Nat):Int):=by omega
  have e1:=pd (l:=p) (i:=p.length - 1 - j) (by omega)
  rw [←hix] at e1
  have hx:=hb _ (ahB (show p.length - 1 - j<p.length by omega))
  have ht:=Yy hj
  generalize p[p.length - 1 - j]=v at *
  have hu:un UnOp.neg (I v)=some (I (-v)):=by rw [Uw,ah (by omega) (by omega)]
  have hm:aH 1 [I (-v)]=some (.arr 1 [I (-v)]):=rfl
  have hck:cK (.arr 1 [I (-v)])=some (.arr 1 [I (-v)]):=kn [-v]
  have ha:bA 1 8 (ai ((qp p).take j)) (.arr 1 [I (-v)])=some (ai ((qp p).take j++[-v])):=ed (m:=[-v]) (by simp;omega)
  rw [←ht] at ha
  have w1:ahx.wrap ((p.length:Int) - 1 - (j:Int) - 1)=(p.length:Int) - 1 - ((j+1:Nat):Int):=by rw [ah (by omega) (by omega)];omega
  simp -implicitDefEqProofs only [ay,aht,ahu,ahv,hge,e1,hu,hm,hck,ha,w1]
 ·have hge:¬(0:Int)≤(p.length:Int) - 1 - (p.length:Int):=by omega
  rw [aih (by rw [Bk];exact ahC _)]
  simp -implicitDefEqProofs only [ay,aht,ahu,ahv,hge]
 ·rw [show((0:Nat):Int)=0 from rfl,Int.sub_zero]
  rfl
 ·simp -implicitDefEqProofs only [ay,aht,ahu,ahv]
theorem He (a b:List Int) (o:Bool) (ha:a.length≤1000) (hb:b.length≤1000):mK [ai a,ai b,B o]=some (.ret [ai (aaI a b o)] []):=by
 rw [TZ]
 have o1:=mY a (by omega)
 have o2:=mY b (by omega)
 have c1:=kn a
 have c2:=kn b
 have a1:=ed (l:=a) (m:=b) (by omega)
 have a2:=ed (l:=b) (m:=a) (by omega)
 unfold aaI
 cases o<;>simp -implicitDefEqProofs only [ay,aht,ahu,ahv,o1,o2,c1,c2,a1,a2]
theorem UT {n:Int} (h : -1000000≤n∧n≤1000000):iH [I n]=some (.ret [I (Ei n)] []):=by
 rw [Ts]
 have hu:un UnOp.neg (I n)=some (I (-n)):=by rw [Uw,ah (by omega) (by omega)]
 have e1:=Rj n (-n)
 simp -implicitDefEqProofs only [ay,aht,ahu,ahv,hu,e1]
 rfl
end Go.Proofs.YtjafgdefcggjcaaGreatDoor

namespace Go.Proofs.YtjafgdefcggjcaaGreatDoor
open Go Go.V
def okG (l:List Fo):Bool:=(ahw (l.length+1)).all fun n=>(jZ l n).2.2.all fun p=>p.all fun x=>decide (-100≤x∧x≤100)
set_option maxRecDepth 100000 in
theorem Zd:um.all okG=true:=by decide +kernel
structure PlOk (l:List Fo) (n:Nat):Prop where
 c:(jZ l n).1≤16
 r:(jZ l n).2.1≤16
 len:(jZ l n).2.2.length=(jZ l n).1*(jZ l n).2.1
 p:∀p∈(jZ l n).2.2,p.length=2 ^ n
 b:∀p∈(jZ l n).2.2,∀x∈p,-100≤x∧x≤100
theorem TE:∀(l:List Fo),l.length≤4→(szF l).1≤16∧(szF l).2≤16:=fun l h4=>by
 have:=Zy h4 l.length (ahC _)
 rw [ahO] at this
 have hp:2 ^ l.length≤2 ^ 4:=ahS (by decide) h4
 omega
theorem ahe {l:List Fo} (hl:l∈um) (h4:l.length≤4) {n:Nat} (hn:n<l.length):PlOk l n:=by
 have h1:=ahA.1 JU l hl
 have h2:=ahA.1 Zd l hl
 unfold okF at h1
 simp only [ahy,decide_eq_true_eq] at h1
 have h3:=ahA.1 h1.2 n (aij.2 hn)
 simp only [ahy,decide_eq_true_eq] at h3
 obtain⟨-,⟨⟨g1,g2⟩,g3⟩,g4⟩:=h3
 have hs:=TE (l.drop n) (by rw [ait];omega)
 refine⟨by omega,by omega,g3,fun p hp=>?_,fun p hp=>?_⟩
 ·have:=ahA.1 g4 p hp
  simpa using this
 ·have:=ahA.1 (ahA.1 h2 n (aij.2 (by omega))) p hp
  intro x hx
  have:=ahA.1 this x hx
  simpa using this
theorem Zk {l:List Fo} {n:Nat} (h:n<l.length):jZ l (n+1)=SL (jZ l n) l[n]:=by
 unfold jZ
 rw [ahF h,ah4]
 rfl
def mB {α:Type} (F:Nat→Nat→α) (w j:Nat):List α:=(ahw j).flatMap fun r=>(ahw w).map (F r)
theorem EL {α:Type} (F:Nat→Nat→α) (w j:Nat):mB F w (j+1)=mB F w j++(ahw w).map (F j):=by simp [mB,aiv]
theorem JT {α:Type} (F:Nat→Nat→α) (w:Nat):∀j,(mB F w j).length=j*w
 | 0=>by simp [mB]
 | j+1=>by rw [EL,ahU,JT F w j,ahP,aid,aig]
theorem ir {α:Type} (g:Nat→α) (k:Nat):(ahw (k+1)).map g=(ahw k).map g++[g k]:=by simp [aiv]
theorem Xo {a b:Nat} (ha:a≤16) (hb:b≤16):ahx.wrap ((a:Int)*(b:Int))=((a*b:Nat):Int):=by
 have h:a*b≤16*16:=ahW ha hb
 rw [←Int.natCast_mul,ah (by omega) (by omega)]
theorem Vy {a b:Nat} (h:a+b≤1000000):ahx.wrap ((a:Int)+(b:Int))=((a+b:Nat):Int):=by rw [ah (by omega) (by omega)];omega
theorem aag {a b:Nat} (h:b≤a) (ha:a≤1000000):ahx.wrap ((a:Int) - (b:Int))=((a - b:Nat):Int):=by rw [ah (by omega) (by omega)];omega
theorem rD {a:Nat} (ha:a≤1000000):bin BinOp.quo false [] (I (a:Int)) (D.v (ahz ahx 2))=some (I ((a / 2:Nat):Int)):=by
 rw [lC,if_neg (by decide),Int.tdiv_eq_ediv_of_nonneg (by omega),ah (by omega) (by omega)]
 congr 3
theorem XK {a:Nat} (h:1≤a) (ha:a≤1000000):ahx.wrap ((a:Int) - 1)=((a - 1:Nat):Int):=by rw [ah (by omega) (by omega)];omega
theorem uz {ps:List (List Int)} {i:Nat} (h:i<ps.length):ps.getD i []=ps[i]:=by simp [h]
abbrev hF (c:Nat) (ps:List (List Int)) (o:Bool) (j k:Nat):List Int:=aaI (ps.getD (j*c+k) []) (qp (ps.getD (j*c+c - 1 - k) [])) o
abbrev vF (c r:Nat) (ps:List (List Int)) (o:Bool) (j k:Nat):List Int:=aaI (ps.getD (j*c+k) []) (qp (ps.getD ((r - 1 - j)*c+k) [])) o
theorem afh {s:Nat × Nat × List (List Int)} {f:Fo} (h:f.1=1):SL s f=(s.1 / 2,s.2.1,mB (hF s.1 s.2.2 f.2) (s.1 / 2) s.2.1):=by
 unfold SL
 rw [if_pos h]
 rfl
theorem aek {s:Nat × Nat × List (List Int)} {f:Fo} (h:¬f.1=1):SL s f=(s.1,s.2.1 / 2,mB (vF s.1 s.2.1 s.2.2 f.2) s.1 (s.2.1 / 2)):=by
 unfold SL
 rw [if_neg h]
 rfl
theorem Qh (l:List Fo) (hl:l∈um) (h4:l.length≤4) (hfin:cZ l≠[]∧0<(jZ l l.length).2.2.length):lu [fos l]=some (.ret [ai (cZ l)] []):=by
 rw [RF]
 have hz:=TE l h4
 have e1:=CJ l h4
 simp -implicitDefEqProofs only [ay,aht,ahu,ahv,e1,t0V,t1V]
 have hp0:jZ l 0=((szF l).1,(szF l).2,(ahw ((szF l).1*(szF l).2)).map fun i=>[((i:Nat):Int)+1]):=rfl
 have hcr:(szF l).1*(szF l).2≤16*16:=ahW hz.1 hz.2
 have hmul:=Xo hz.1 hz.2
 refine aD (.ext 0 [fos l,I ((szF l).1:Int),I ((szF l).2:Int),fj (jZ l 0).2.2]) (aQ ((szF l).1*(szF l).2) (fun i=>[fos l,I ((szF l).1:Int),I ((szF l).2:Int),fj ((ahw i).map fun i=>[((i:Nat):Int)+1]),I (i:Int)]) _ (fun i hi=>?_) ?_ rfl rfl) ?_
 ·have hil:(i:Int)<(((szF l).1*(szF l).2:Nat):Int):=by omega
  have hm:aH 1 [I (((i+1:Nat)):Int)]=some (ai [((i+1:Nat):Int)]):=rfl
  have ht:=wK [((i+1:Nat):Int)]
  have ha:=HB (l:=(ahw i).map fun i=>[((i:Nat):Int)+1]) (m:=[[((i+1:Nat):Int)]]) (by simp;omega)
  have hsn:=ir (fun i=>[((i:Nat):Int)+1]) i
  rw [show([((i+1:Nat):Int)]:List Int)=[(i:Int)+1] from by rw [ah8];rfl,←hsn] at ha
  rw [show([((i+1:Nat):Int)]:List Int)=[(i:Int)+1] from by rw [ah8];rfl] at ht hm
  simp -implicitDefEqProofs only [ay,aht,ahu,ahv,hmul,hil,wI (show i≤1000000 by omega),hm,ht,ha]
 ·have hil:¬(((szF l).1*(szF l).2:Nat):Int)<(((szF l).1*(szF l).2:Nat):Int):=by omega
  simp -implicitDefEqProofs only [ay,aht,ahu,ahv,hmul,hil]
  rw [hp0]
 simp -implicitDefEqProofs only [ay,aht,ahu,ahv]
 refine aD (.ext 2 [fj (jZ l l.length).2.2]) (aQ l.length (fun i=>[I ((jZ l i).1:Int),I ((jZ l i).2.1:Int),fj (jZ l i).2.2,fos l,I l.length,I (i:Int)]) _ (fun i hi=>?_) ?_ rfl ?_) ?_
 ·have hil:(i:Int)<l.length:=by omega
  have hk:=ahe hl h4 hi
  have e1:=ND hi
  rw [Zk hi]
  obtain⟨k1,k2,k3,k4,k5⟩:=hk
  generalize jZ l i=s at k1 k2 k3 k4 k5
  obtain⟨c,r,ps⟩:=s
  dsimp only at k1 k2 k3 k4 k5 ⊢
  have hpl:∀q,q<ps.length→((ps.getD q []).length≤1000∧∀x∈ps.getD q [],-1000000≤x∧x≤1000000):=by
   intro q hq
   rw [uz hq]
   have hm:=ahB hq
   have hp2:2 ^ i≤2 ^ 4:=ahS (by decide) (by omega)
   refine⟨by rw [k4 _ hm];omega,fun x hx=>?_⟩
   have:=k5 _ hm x hx
   omega
  have hps:ps.length≤256:=by
   have:c*r≤16*16:=ahW k1 k2
   omega
  by_cases hc:l[i].1=1
  ·have hcd:=decide_eq_true hc
   rw [afh hc]
   simp -implicitDefEqProofs only [ay,aht,ahu,ahv,hil,e1,tk2,xA,pQ,gm,vh,hcd]
   refine aD (.ext 4 [I (c:Int),I (r:Int),fj ps,fj (mB (hF c ps l[i].2) (c / 2) r),fos l,I l.length,I (i:Int)])
    (aQ r (fun j=>[I (c:Int),I (r:Int),fj ps,fo l[i],fj (mB (hF c ps l[i].2) (c / 2) j),I (j:Int),fos l,I l.length,I (i:Int)]) _ (fun j hj=>?_) ?_ rfl rfl) ?_
   ·have hjr:(j:Int)<r:=by omega
    simp -implicitDefEqProofs only [ay,aht,ahu,ahv,hjr]
    refine aD (.ext 6 [I (c:Int),I (r:Int),fj ps,fo l[i],fj (mB (hF c ps l[i].2) (c / 2) (j+1)),I (j:Int),fos l,I l.length,I (i:Int)])
     (aQ (c / 2) (fun k=>[I (c:Int),I (r:Int),fj ps,fo l[i],fj (mB (hF c ps l[i].2) (c / 2) j++(ahw k).map (hF c ps l[i].2 j)),I (j:Int),I (k:Int),fos l,I l.length,I (i:Int)]) _ (fun k hk=>?_) ?_ rfl ?_) ?_
    ·have hkc:(k:Int)<((c / 2:Nat):Int):=by omega
     have hjc:j*c+c≤ps.length:=by
      rw [k3,←aig,ah1 c r]
      exact ah9 _ hj
     have h1:j*c+k<ps.length:=by omega
     have h2:j*c+c - 1 - k<ps.length:=by omega
     have m1:=Xo (a:=j) (b:=c) (by omega) k1
     have a1:=Vy (a:=j*c) (b:=k) (by omega)
     have a2:=Vy (a:=j*c) (b:=c) (by omega)
     have a3:=XK (a:=j*c+c) (by omega) (by omega)
     have a4:=aag (a:=j*c+c - 1) (b:=k) (by omega) (by omega)
     have r1:=wx h1
     have r2:=wx h2
     have t1:=EY h1
     have t2:=EY h2
     obtain⟨q1,q2⟩:=hpl _ h1
     obtain⟨q3,q4⟩:=hpl _ h2
     rw [←uz h1] at t1
     rw [←uz h2] at t2
     have e2:=Ds _ q3 q4
     have e3:=He (ps.getD (j*c+k) []) (qp (ps.getD (j*c+c - 1 - k) [])) l[i].2 q1 (by rw [Bk];exact q3)
     have hsn:=ir (hF c ps l[i].2 j) k
     have hrl:(mB (hF c ps l[i].2) (c / 2) j).length≤256:=by
      rw [JT]
      exact ahW (show j≤16 by omega) (show c / 2≤16 by omega)
     have ha:=HB (l:=mB (hF c ps l[i].2) (c / 2) j++(ahw k).map (hF c ps l[i].2 j)) (m:=[hF c ps l[i].2 j k]) (by simp only [ahU,ahP,aid,ah7];omega)
     rw [ah5,←hsn] at ha
     have ht:=wK (hF c ps l[i].2 j k)
     simp -implicitDefEqProofs only [ay,aht,ahu,ahv,rD (show c≤1000000 by omega),hkc,m1,a1,a2,a3,a4,r1,r2,t1,t2,e2,e3,gm,aaa,ht,ha,wI (show k≤1000000 by omega)]
    ·have hkc:¬((c / 2:Nat):Int)<((c / 2:Nat):Int):=by omega
     rw [←EL]
     simp -implicitDefEqProofs only [ay,aht,ahu,ahv,rD (show c≤1000000 by omega),hkc]
    ·simp
    ·simp -implicitDefEqProofs only [ay,aht,ahu,ahv,wI (show j≤1000000 by omega)]
   ·have hjr:¬(r:Int)<r:=by omega
    simp -implicitDefEqProofs only [ay,aht,ahu,ahv,hjr]
   ·simp -implicitDefEqProofs only [ay,aht,ahu,ahv,rD (show c≤1000000 by omega),wI (show i≤1000000 by omega)]
  ·have hcd:=decide_eq_false hc
   rw [aek hc]
   simp -implicitDefEqProofs only [ay,aht,ahu,ahv,hil,e1,tk2,xA,pQ,gm,vh,hcd]
   refine aD (.ext 8 [I (c:Int),I (r:Int),fj ps,fj (mB (vF c r ps l[i].2) c (r / 2)),fos l,I l.length,I (i:Int)])
    (aQ (r / 2) (fun j=>[I (c:Int),I (r:Int),fj ps,fo l[i],fj (mB (vF c r ps l[i].2) c j),I (j:Int),fos l,I l.length,I (i:Int)]) _ (fun j hj=>?_) ?_ rfl rfl) ?_
   ·have hjr:(j:Int)<((r / 2:Nat):Int):=by omega
    simp -implicitDefEqProofs only [ay,aht,ahu,ahv,rD (show r≤1000000 by omega),hjr]
    refine aD (.ext 10 [I (c:Int),I (r:Int),fj ps,fo l[i],fj (mB (vF c r ps l[i].2) c (j+1)),I (j:Int),fos l,I l.length,I (i:Int)])
     (aQ c (fun k=>[I (c:Int),I (r:Int),fj ps,fo l[i],fj (mB (vF c r ps l[i].2) c j++(ahw k).map (vF c r ps l[i].2 j)),I (j:Int),I (k:Int),fos l,I l.length,I (i:Int)]) _ (fun k hk=>?_) ?_ rfl ?_) ?_
    ·have hkc:(k:Int)<(c:Int):=by omega
     have hjc:j*c+c≤ps.length:=by
      rw [k3,←aig,ah1 c r]
      exact ah9 _ (by omega)
     have hjc2:(r - 1 - j)*c+c≤ps.length:=by
      rw [k3,←aig,ah1 c r]
      exact ah9 _ (by omega)
     have h1:j*c+k<ps.length:=by omega
     have h2:(r - 1 - j)*c+k<ps.length:=by omega
     have m1:=Xo (a:=j) (b:=c) (by omega) k1
     have m2:=Xo (a:=r - 1 - j) (b:=c) (by omega) k1
     have a1:=Vy (a:=j*c) (b:=k) (by omega)
     have a2:=Vy (a:=(r - 1 - j)*c) (b:=k) (by omega)
     have a3:=XK (a:=r) (by omega) (by omega)
     have a4:=aag (a:=r - 1) (b:=j) (by omega) (by omega)
     have r1:=wx h1
     have r2:=wx h2
     have t1:=EY h1
     have t2:=EY h2
     obtain⟨q1,q2⟩:=hpl _ h1
     obtain⟨q3,q4⟩:=hpl _ h2
     rw [←uz h1] at t1
     rw [←uz h2] at t2
     have e2:=Ds _ q3 q4
     have e3:=He (ps.getD (j*c+k) []) (qp (ps.getD ((r - 1 - j)*c+k) [])) l[i].2 q1 (by rw [Bk];exact q3)
     have hsn:=ir (vF c r ps l[i].2 j) k
     have hrl:(mB (vF c r ps l[i].2) c j).length≤256:=by
      rw [JT]
      exact ahW (show j≤16 by omega) (show c≤16 by omega)
     have ha:=HB (l:=mB (vF c r ps l[i].2) c j++(ahw k).map (vF c r ps l[i].2 j)) (m:=[vF c r ps l[i].2 j k]) (by simp only [ahU,ahP,aid,ah7];omega)
     rw [ah5,←hsn] at ha
     have ht:=wK (vF c r ps l[i].2 j k)
     simp -implicitDefEqProofs only [ay,aht,ahu,ahv,hkc,m1,m2,a1,a2,a3,a4,r1,r2,t1,t2,e2,e3,gm,aaa,ht,ha,wI (show k≤1000000 by omega)]
    ·have hkc:¬(c:Int)<(c:Int):=by omega
     rw [←EL]
     simp -implicitDefEqProofs only [ay,aht,ahu,ahv,hkc]
    ·simp
    ·simp -implicitDefEqProofs only [ay,aht,ahu,ahv,wI (show j≤1000000 by omega)]
   ·have hjr:¬((r / 2:Nat):Int)<((r / 2:Nat):Int):=by omega
    simp -implicitDefEqProofs only [ay,aht,ahu,ahv,rD (show r≤1000000 by omega),hjr]
   ·simp -implicitDefEqProofs only [ay,aht,ahu,ahv,rD (show r≤1000000 by omega),wI (show i≤1000000 by omega)]
 ·have:¬(l.length:Int)<l.length:=by omega
  simp -implicitDefEqProofs only [ay,aht,ahu,ahv,this]
 ·rw [hp0]
  rfl
 ·have hlt:=hfin.2
  have r1:eH 1 (fj (jZ l l.length).2.2) (D.v (ahz ahx 0))=some (.ref 0 0):=wx (i:=0) hlt
  have t1:=EY (i:=0) hlt
  rw [←uz hlt] at t1
  simp -implicitDefEqProofs only [ay,aht,ahu,ahv,r1,t1]
  rfl
end Go.Proofs.YtjafgdefcggjcaaGreatDoor

namespace Go.Proofs.YtjafgdefcggjcaaGreatDoor
open Go Go.V
def ZY (a:List Int × List Int) (p:Int × Nat):List Int × List Int :=
 (a.1.set (Ei p.1 - 1).toNat (if p.1<0 then 2*(p.2:Int)+2 else 2*(p.2:Int)+1),a.2.set (Ei p.1 - 1).toNat (if p.1<0 then 2*(p.2:Int)+1 else 2*(p.2:Int)+2))
def na (p:List Int) (n:Nat):List Int × List Int:=(p.take n).zipIdx.foldl ZY (aiz p.length 0,aiz p.length 0)
theorem Ox (l:List Fo) (n:Nat):At l n=na (cZ l) n:=rfl
theorem KB {p:List Int} {n:Nat} (h:n<p.length):na p (n+1)=ZY (na p n) (p[n],n):=by
 unfold na
 rw [ahF h,List.zipIdx_append,ah4,List.length_take,Nat.min_eq_left (by omega)]
 simp
theorem vX (p:List Int):∀n,n≤p.length→(na p n).1.length=p.length∧(na p n).2.length=p.length
 | 0,_=>by simp [na]
 | n+1,h=>by
  have ih:=vX p n (by omega)
  rw [KB (by omega)]
  simp only [ZY,List.length_set]
  exact ih
theorem NK (l:List Fo) (p:List Int) (he:lu [fos l]=some (.ret [ai p] [])) (hp:p.length≤1000) (hr:∀x∈p,(0≤Ei x - 1∧Ei x - 1<(p.length:Int)) ∧ -1000000≤x∧x≤1000000) :
  jH [fos l]=some (.ret [ai (na p p.length).1,ai (na p p.length).2] []):=by
 rw [Ps]
 have hm:=AE (n:=p.length) (by omega)
 simp -implicitDefEqProofs only [ay,aht,ahu,ahv,he,hm]
 refine aD (.ext 0 [ai (na p p.length).1,ai (na p p.length).2]) (aQ p.length (fun i=>[ai (na p i).1,ai (na p i).2,ai p,I p.length,I (i:Int)]) _ (fun i hi=>?_) ?_ rfl rfl) ?_
 ·have hil:(i:Int)<p.length:=by omega
  have e1:=pd hi
  obtain⟨⟨h1,h2⟩,h3⟩:=hr _ (ahB hi)
  obtain⟨l1,l2⟩:=vX p i (by omega)
  rw [KB hi]
  unfold ZY
  dsimp only
  generalize na p i=s at l1 l2
  obtain⟨a,b⟩:=s
  dsimp only at l1 l2 ⊢
  have ea:=UT h3
  generalize p[i]=x at *
  have w1:ahx.wrap (2*(i:Int))=2*(i:Int):=ah (by omega) (by omega)
  have w2:ahx.wrap (2*(i:Int)+1)=2*(i:Int)+1:=ah (by omega) (by omega)
  have w3:ahx.wrap (2*(i:Int)+2)=2*(i:Int)+2:=ah (by omega) (by omega)
  have w4:ahx.wrap (Ei x - 1)=((Ei x - 1).toNat:Int):=by rw [ah (by omega) (by omega)];omega
  have hk:(Ei x - 1).toNat<p.length:=by omega
  generalize (Ei x - 1).toNat=k at *
  have r1:=pC (l:=a) (i:=k) (by omega)
  have r2:=pC (l:=b) (i:=k) (by omega)
  have s1:=oT a k (2*(i:Int)+1) (by omega)
  have s2:=oT a k (2*(i:Int)+2) (by omega)
  have s3:=oT b k (2*(i:Int)+1) (by omega)
  have s4:=oT b k (2*(i:Int)+2) (by omega)
  by_cases hx:x<0
  ·simp -implicitDefEqProofs only [ay,aht,ahu,ahv,hil,e1,w1,w2,w3,hx,ea,w4,r1,r2,s1,s2,s3,s4,wI (show i≤1000000 by omega)]
  ·simp -implicitDefEqProofs only [ay,aht,ahu,ahv,hil,e1,w1,w2,w3,hx,ea,w4,r1,r2,s1,s2,s3,s4,wI (show i≤1000000 by omega)]
 ·have:¬(p.length:Int)<p.length:=by omega
  simp -implicitDefEqProofs only [ay,aht,ahu,ahv,this]
 ·simp -implicitDefEqProofs only [ay,aht,ahu,ahv]
def qw (cols:Nat) (l:List Int):Nat→ByteArray
 | 0=>⟨⟨[]⟩⟩
 | i+1=>qw cols l i++aJ (l.getD i 0)++KJ cols i
theorem NH (cols:Nat) (l:List Int):∀i,i≤l.length→ac (qw cols l i)++ac (qj cols i (l.drop i))=ac (qj cols 0 l)
 | 0,_=>by simp [qw,rc]
 | i+1,h=>by
  have ih:=NH cols l i (by omega)
  rw [←ih,aie (show i<l.length by omega)]
  have hg:l.getD i 0=l[i]:=by simp [show i<l.length by omega]
  simp only [qw,qj,hg,bk,ah5]
theorem RW (cols:Nat) (l:List Int):qw cols l l.length=qj cols 0 l:=by
 have:=NH cols l l.length (ahC _)
 rw [List.drop_length] at this
 apply bK
 rw [←this]
 simp [qj,rc]
theorem abD (cols i:Nat):(KJ cols i).size=1:=by
 unfold KJ
 split<;>rfl
theorem EM (cols:Nat) (l:List Int) (h:∀n∈l,0≤n∧n≤1000):∀i,i≤l.length→(qw cols l i).size≤5*i
 | 0,_=>ahC 0
 | i+1,hi=>by
  have ih:=EM cols l h i (by omega)
  have hg:l.getD i 0=l[i]:=by simp [show i<l.length by omega]
  have hx:=h _ (ahB (show i<l.length by omega))
  have hz:=cq 3 (n:=l[i]) hx.1 (by omega)
  have h1:=abD cols i
  simp only [qw,hg,ahI]
  omega
theorem HA (l:List Fo) (hg:pX l=true) (c:Nat) (p q:List Int) (hc:(szF l).1=c) (hc0:0<c) (hc1:c≤1000) (he:jH [fos l]=some (.ret [ai p,ai q] [])) (hp:p.length≤1000) (hr:∀x∈p,0≤x∧x≤1000) :
  gh [fos l]=some (.ret [T (qj c 0 p),B true] []):=by
 rw [Fs]
 have h4:l.length≤4:=by
  unfold pX at hg
  simp only [ahy,decide_eq_true_eq] at hg
  exact hg.2
 have e1:=DR l (by omega)
 rw [hg] at e1
 have e2:=CJ l h4
 rw [hc] at e2
 simp -implicitDefEqProofs only [ay,aht,ahu,ahv,e1,e2,t0V,t1V,he,t0A,kU,t1A]
 refine aD (.ext 0 [T (qj c 0 p)]) (aQ p.length (fun i=>[I (c:Int),T (qw c p i),ai p,I p.length,I (i:Int)]) _ (fun i hi=>?_) ?_ rfl rfl) ?_
 ·have hil:(i:Int)<p.length:=by omega
  have e1:=pd hi
  have hx:=hr _ (ahB hi)
  have e2:=cE (n:=p[i]) (by omega) (by omega)
  have hz:=EM c p hr i (by omega)
  have hz2:=cq 3 (n:=p[i]) hx.1 (by omega)
  have hgd:p.getD i 0=p[i]:=by simp [hi]
  have a1:bin aio false [] (T (qw c p i)) (T (aJ p[i]))=some (T (qw c p i++aJ p[i])):=by rw [fH,if_pos (by omega)]
  have hrem:bin BinOp.rem false [] (I (i:Int)) (I (c:Int))=some (I ((i % c:Nat):Int)):=by
   rw [aak,if_neg (by omega),Int.tmod_eq_emod_of_nonneg (by omega)]
   congr 3
  have w1:=XK (a:=c) (by omega) (by omega)
  by_cases hq:i % c=c - 1
  ·have hq':((i % c:Nat):Int)=((c - 1:Nat):Int):=by rw [hq]
   have a2:bin aio false [] (T (qw c p i++aJ p[i])) (D.v (ahX {data:={toList:=[47]}}))=some (T (qw c p (i+1))):=by
    rw [show(D.v (ahX {data:={toList:=[47]}}))=T ⟨⟨[47]⟩⟩ from rfl,fH,if_pos (by rw [ahI,Uu];omega)]
    simp only [qw,hgd,KJ,hq,if_true]
   simp -implicitDefEqProofs only [ay,aht,ahu,ahv,hil,e1,e2,a1,hrem,w1,hq',a2,wI (show i≤1000000 by omega)]
  ·have hq':¬((i % c:Nat):Int)=((c - 1:Nat):Int):=by omega
   have a2:bin aio false [] (T (qw c p i++aJ p[i])) (D.v (ahX {data:={toList:=[44]}}))=some (T (qw c p (i+1))):=by
    rw [show(D.v (ahX {data:={toList:=[44]}}))=T ⟨⟨[44]⟩⟩ from rfl,fH,if_pos (by rw [ahI,Uu];omega)]
    simp only [qw,hgd,KJ,hq,if_false]
   simp -implicitDefEqProofs only [ay,aht,ahu,ahv,hil,e1,e2,a1,hrem,w1,hq',a2,wI (show i≤1000000 by omega)]
 ·have:¬(p.length:Int)<p.length:=by omega
  rw [RW]
  simp -implicitDefEqProofs only [ay,aht,ahu,ahv,this]
 ·simp -implicitDefEqProofs only [ay,aht,ahu,ahv]
end Go.Proofs.YtjafgdefcggjcaaGreatDoor

namespace Go.Proofs.YtjafgdefcggjcaaGreatDoor
open Go Go.V
theorem xD (l:List Fo) (h:l.length≤1000000):dr [fos l]=some (.ret [B (pX l)] []):=by
 rw [LW]
 simp -implicitDefEqProofs only [ay,aht,ahu,ahv]
 refine aD _ (pA l (fun i=>[fos l,fos l,I l.length,I i]) (fun _ x=>decide (1≤x.1∧x.1≤2)) (.ret [B false] []) (.ext 0 [fos l]) (fun i hi=>?_) ?_ rfl rfl rfl) ?_
 ·have hil:(i:Int)<l.length:=by omega
  have e1:=ND hi
  by_cases h1:l[i].1=1
  ·have h1d:=decide_eq_true h1
   have hc:(1≤l[i].1∧l[i].1≤2)=True:=eq_true (by omega)
   simp -implicitDefEqProofs only [ay,aht,ahu,ahv,hil,e1,tk2,xA,pQ,gm,vh,h1d,decide_not,hc,wI (show i≤1000000 by omega)]
  ·have h1d:=decide_eq_false h1
   by_cases h2:l[i].1=2
   ·have h2d:=decide_eq_true h2
    have hc:(1≤l[i].1∧l[i].1≤2)=True:=eq_true (by omega)
    simp -implicitDefEqProofs only [ay,aht,ahu,ahv,hil,e1,tk2,xA,pQ,gm,vh,h1d,h2d,decide_not,hc,wI (show i≤1000000 by omega)]
   ·have h2d:=decide_eq_false h2
    have hc:(1≤l[i].1∧l[i].1≤2)=False:=eq_false (by omega)
    simp -implicitDefEqProofs only [ay,aht,ahu,ahv,hil,e1,tk2,xA,pQ,gm,vh,h1d,h2d,decide_not,hc,wI (show i≤1000000 by omega)]
 ·have:¬(l.length:Int)<l.length:=by omega
  simp -implicitDefEqProofs only [ay,aht,ahu,ahv,this]
 ·rw [vH]
  unfold pX
  have h4:decide ((l.length:Int)≤4)=decide (l.length≤4):=by
   by_cases h:l.length≤4
   ·rw [decide_eq_true h,decide_eq_true (by omega)]
   ·rw [decide_eq_false h,decide_eq_false (by omega)]
  cases hq:l.all fun x=>decide (1≤x.1∧x.1≤2)
  ·simp -implicitDefEqProofs only [ay,aht,ahu,ahv,sk,ah3]
  ·simp -implicitDefEqProofs only [ay,aht,ahu,ahv,h4,ahY]
theorem vK (l:List Fo) (h4:l.length≤4):ex [fos l]=some (.ret [I ((szF l).1:Int),I ((szF l).2:Int)] []):=by
 rw [Jj]
 simp -implicitDefEqProofs only [ay,aht,ahu,ahv]
 refine aD (.ext 0 [I ((szF l).1:Int),I ((szF l).2:Int)]) (aQ l.length (fun i=>[I ((szF (l.take i)).1:Int),I ((szF (l.take i)).2:Int),fos l,I l.length,I (i:Int)]) _ (fun i hi=>?_) ?_ rfl rfl) ?_
 ·have hil:(i:Int)<l.length:=by omega
  have e1:=ND hi
  have hb:=Zy h4 i (by omega)
  have hp:2 ^ i≤2 ^ 4:=ahS (by decide) (by omega)
  rw [Mw hi]
  generalize szF (l.take i)=s at hb
  unfold szS
  have w1:ahx.wrap ((s.1:Int)*2)=((s.1*2:Nat):Int):=by rw [ah (by omega) (by omega)];omega
  have w2:ahx.wrap ((s.2:Int)*2)=((s.2*2:Nat):Int):=by rw [ah (by omega) (by omega)];omega
  by_cases hc:l[i].1=1
  ·have hcd:=decide_eq_true hc
   rw [if_pos hc]
   simp -implicitDefEqProofs only [ay,aht,ahu,ahv,hil,e1,tk2,xA,pQ,gm,vh,hcd,wI (show i≤1000000 by omega),w1,w2]
  ·have hcd:=decide_eq_false hc
   rw [if_neg hc]
   simp -implicitDefEqProofs only [ay,aht,ahu,ahv,hil,e1,tk2,xA,pQ,gm,vh,hcd,wI (show i≤1000000 by omega),w1,w2]
 ·rw [ahO]
  have:¬(l.length:Int)<l.length:=by omega
  simp -implicitDefEqProofs only [ay,aht,ahu,ahv,this]
 ·simp -implicitDefEqProofs only [ay,aht,ahu,ahv]
theorem Mm (l:List Fo):cK (fos l)=some (fos l):=pw fun _=>rfl
theorem tj {l m:List Fo} (h:l.length+m.length≤1000000):bA 2 16 (fos l) (fos m)=some (fos (l++m)):=by
 rw [gn,if_pos (by simp only [ahP];omega)]
 simp
theorem TM (a:Int) (b:Bool):dw [(0,1),(1,1)] [D.v (ahz ahx 0),D.v (Value.bool false)] [I a,B b]=some (D.agg [I a,B b]):=rfl
def vn (o:List Lf):List Lf:=o.reverse.map fun x=>(x.1,!x.2)
theorem Jh (o:List Lf):(vn o).length=o.length:=by simp [vn]
theorem Yq {p:List Lf} {j:Nat} (h:j<p.length):(vn p).take (j+1)=(vn p).take j++[((p[p.length - 1 - j]'(by omega)).1,!(p[p.length - 1 - j]'(by omega)).2)]:=by
 rw [ahF (by rw [Jh];exact h)]
 congr 2
 unfold vn
 rw [List.getElem_map,List.getElem_reverse]
theorem NX (p o:List Lf) (b:Bool) (hp:p.length≤1000) (ho:o.length≤1000):rh [fos p,fos o,B b]=some (.ret [fos (lg p o b)] []):=by
 rw [Zx]
 have w0:ahx.wrap ((o.length:Int) - 1)=(o.length:Int) - 1:=ah (by omega) (by omega)
 simp -implicitDefEqProofs only [ay,aht,ahu,ahv,w0]
 refine aD (.ext 0 [fos p,B b,fos (vn o)]) (aQ o.length (fun j=>[fos p,fos o,B b,fos ((vn o).take j),I ((o.length:Int) - 1 - (j:Int))]) _ (fun j hj=>?_) ?_ rfl ?_) ?_
 ·have hge:(0:Int)≤(o.length:Int) - 1 - (j:Int):=by omega
  have hix:(o.length:Int) - 1 - (j:Int)=((o.length - 1 - j:Nat):Int):=by omega
  have e1:=ND (l:=o) (i:=o.length - 1 - j) (by omega)
  rw [←hix] at e1
  have ht:=Yq hj
  generalize o[o.length - 1 - j]=v at *
  have hm:aH 2 [D.agg [I v.1,B !v.2]]=some (fos [(v.1,!v.2)]):=rfl
  have hck:=Mm [(v.1,!v.2)]
  have ha:=tj (l:=(vn o).take j) (m:=[(v.1,!v.2)]) (by simp;omega)
  rw [←ht] at ha
  have w1:ahx.wrap ((o.length:Int) - 1 - (j:Int) - 1)=(o.length:Int) - 1 - ((j+1:Nat):Int):=by rw [ah (by omega) (by omega)];omega
  simp -implicitDefEqProofs only [ay,aht,ahu,ahv,hge,e1,TM,hm,hck,ha,w1]
 ·have hge:¬(0:Int)≤(o.length:Int) - 1 - (o.length:Int):=by omega
  rw [aih (by rw [Jh];exact ahC _)]
  simp -implicitDefEqProofs only [ay,aht,ahu,ahv,hge]
 ·rw [show((0:Nat):Int)=0 from rfl,Int.sub_zero]
  rfl
 ·have c1:=Mm p
  have hl:=Jh o
  have a1:=tj (l:=vn o) (m:=p) (by omega)
  have a2:=tj (l:=[]) (m:=p) (by simp;omega)
  rw [aiw] at a2
  have a2':bA 2 16 (D.arr 2 []) (fos p)=some (fos p):=a2
  have a3:=tj (l:=p) (m:=vn o) (by omega)
  have hlv:aa (fos (vn o)) (D.ref 0 0)=some (D.ref 0 0):=rfl
  have hlv2:aa (D.ref 0 0) (fos (vn o))=some (fos (vn o)):=rfl
  unfold lg
  cases b<;>simp -implicitDefEqProofs only [ay,aht,ahu,ahv,c1,a1,a2',a3,hlv,hlv2]
  ·rfl
  ·rfl
abbrev yi (r:List (List Lf)):D:=.arr 1 (r.map fun p=>fos p)
abbrev jE (ps:Pls):D:=.arr 1 (ps.map fun r=>yi r)
theorem Oz {r:List (List Lf)} {i:Nat} (h:i<r.length):ao 1 (yi r) (I (i:Int))=some [fos r[i]]:=by simp [h]
theorem Tw {r:Pls} {i:Nat} (h:i<r.length):ao 1 (jE r) (I (i:Int))=some [yi r[i]]:=by simp [h]
theorem Vt (p:List Lf):aH 1 [fos p]=some (yi [p]):=by simp [aH,lW]
theorem Tr (r:List (List Lf)):aH 1 [yi r]=some (jE [r]):=by simp [aH,lW]
theorem Tx {l m:List (List Lf)} (h:l.length+m.length≤1000000):bA 1 24 (yi l) (yi m)=some (yi (l++m)):=by
 rw [gn,if_pos (by simp;omega),←aix]
theorem TX {l m:Pls} (h:l.length+m.length≤1000000):bA 1 24 (jE l) (jE m)=some (jE (l++m)):=by
 rw [gn,if_pos (by simp;omega),←aix]
theorem acV {ps:Pls} {y x:Nat} (hy:y<ps.length) (hx:x<ps[y].length):atF ps y x=ps[y][x]:=by
 unfold atF
 simp [hy,hx]
structure RectF (ps:Pls) (rows cols m:Nat):Prop where
 r:ps.length=rows
 c:∀row∈ps,row.length=cols
 p:∀row∈ps,∀p∈row,p.length=m
theorem ade (x:Fo):fJ 2 (fo x)=some (fo x):=rfl
theorem Lq (ps:Pls) (f:Fo) (rows cols m:Nat) (h:RectF ps rows cols m) (hr:rows≤1000) (hr0:0<rows) (hc:cols≤1000) (hm:m≤1000):lz [jE ps,fo f]=some (.ret [jE (VJ ps f)] []):=by
 rw [LH]
 obtain⟨h1,h2,h3⟩:=h
 have hp0:0<ps.length:=by omega
 have e0:ao 1 (jE ps) (D.v (ahz ahx 0))=some [yi ps[0]]:=Tw (i:=0) hp0
 have hc0:=h2 _ (ahB hp0)
 have hlen:∀y (hy:y<ps.length) x (hx:x<ps[y].length),ps[y][x].length≤1000:=fun y hy x hx=>by
  rw [h3 _ (ahB hy) _ (ahB hx)]
  exact hm
 by_cases hf:f.1=2
 ·have hfd:=decide_eq_true hf
  unfold VJ
  rw [if_pos hf]
  simp -implicitDefEqProofs only [ay,aht,ahu,ahv,ade,e0,gm,vh,hfd]
  refine aD (.ext 0 [jE ((ahw (ps.length / 2)).map fun y=>(ahw (ps.getD y []).length).map fun x=>lg (atF ps y x) (atF ps (ps.length - 1 - y) x) f.2)])
   (aQ (ps.length / 2) (fun j=>[jE ps,fo f,I (ps.length:Int),jE ((ahw j).map fun y=>(ahw (ps.getD y []).length).map fun x=>lg (atF ps y x) (atF ps (ps.length - 1 - y) x) f.2),I (j:Int)]) _ (fun j hj=>?_) ?_ rfl rfl) ?_
  ·have hjl:(j:Int)<((ps.length / 2:Nat):Int):=by omega
   have hjp:j<ps.length:=by omega
   have e1:=Tw hjp
   have hcj:=h2 _ (ahB hjp)
   have hgj:ps.getD j []=ps[j]:=by simp [hjp]
   simp -implicitDefEqProofs only [ay,aht,ahu,ahv,rD (show ps.length≤1000000 by omega),hjl,e1]
   refine aD (.ext 2 [jE ps,fo f,I (ps.length:Int),jE ((ahw j).map fun y=>(ahw (ps.getD y []).length).map fun x=>lg (atF ps y x) (atF ps (ps.length - 1 - y) x) f.2),I (j:Int),yi ((ahw (ps.getD j []).length).map fun x=>lg (atF ps j x) (atF ps (ps.length - 1 - j) x) f.2)])
    (aQ ps[j].length (fun k=>[jE ps,fo f,I (ps.length:Int),jE ((ahw j).map fun y=>(ahw (ps.getD y []).length).map fun x=>lg (atF ps y x) (atF ps (ps.length - 1 - y) x) f.2),I (j:Int),yi ((ahw k).map fun x=>lg (atF ps j x) (atF ps (ps.length - 1 - j) x) f.2),I (ps[j].length:Int),I (k:Int)]) _ (fun k hk=>?_) ?_ rfl rfl) ?_
   ·have hkl:(k:Int)<(ps[j].length:Int):=by omega
    have e2:=Oz (r:=ps[j]) hk
    have hop:ps.length - 1 - j<ps.length:=by omega
    have hco:=h2 _ (ahB hop)
    have e3:=Tw hop
    have hko:k<(ps[ps.length - 1 - j]).length:=by omega
    have e4:=Oz (r:=ps[ps.length - 1 - j]) hko
    have a3:=XK (a:=ps.length) (by omega) (by omega)
    have a4:=aag (a:=ps.length - 1) (b:=j) (by omega) (by omega)
    have e5:=NX ps[j][k] (ps[ps.length - 1 - j][k]) f.2 (hlen _ hjp _ hk) (hlen _ hop _ hko)
    have hsn:=ir (fun x=>lg (atF ps j x) (atF ps (ps.length - 1 - j) x) f.2) k
    rw [acV hjp hk,acV hop hko] at hsn
    have ht:=Vt (lg ps[j][k] (ps[ps.length - 1 - j][k]) f.2)
    have ha:=Tx (l:=(ahw k).map fun x=>lg (atF ps j x) (atF ps (ps.length - 1 - j) x) f.2) (m:=[lg ps[j][k] (ps[ps.length - 1 - j][k]) f.2]) (by simp;omega)
    rw [←hsn] at ha
    simp -implicitDefEqProofs only [ay,aht,ahu,ahv,hkl,e1,e2,e3,e4,a3,a4,gm,aaa,e5,ht,ha,wI (show k≤1000000 by omega)]
   ·have hkl:¬(ps[j].length:Int)<(ps[j].length:Int):=by omega
    rw [hgj]
    simp -implicitDefEqProofs only [ay,aht,ahu,ahv,hkl]
   ·have hsn:=ir (fun y=>(ahw (ps.getD y []).length).map fun x=>lg (atF ps y x) (atF ps (ps.length - 1 - y) x) f.2) j
    have ht:=Tr ((ahw (ps.getD j []).length).map fun x=>lg (atF ps j x) (atF ps (ps.length - 1 - j) x) f.2)
    have ha:=TX (l:=(ahw j).map fun y=>(ahw (ps.getD y []).length).map fun x=>lg (atF ps y x) (atF ps (ps.length - 1 - y) x) f.2) (m:=[(ahw (ps.getD j []).length).map fun x=>lg (atF ps j x) (atF ps (ps.length - 1 - j) x) f.2]) (by simp;omega)
    rw [←hsn] at ha
    simp -implicitDefEqProofs only [ay,aht,ahu,ahv,ht,ha,wI (show j≤1000000 by omega)]
  ·have hjl:¬((ps.length / 2:Nat):Int)<((ps.length / 2:Nat):Int):=by omega
   simp -implicitDefEqProofs only [ay,aht,ahu,ahv,rD (show ps.length≤1000000 by omega),hjl]
  ·simp -implicitDefEqProofs only [ay,aht,ahu,ahv]
 ·have hfd:=decide_eq_false hf
  unfold VJ
  rw [if_neg hf]
  have hg0:ps.getD 0 []=ps[0]:=by simp [hp0]
  rw [hg0,hc0]
  simp -implicitDefEqProofs only [ay,aht,ahu,ahv,ade,e0,gm,vh,hfd]
  rw [hc0]
  refine aD (.ext 4 [jE ((ahw ps.length).map fun y=>(ahw (cols / 2)).map fun x=>lg (atF ps y x) (atF ps y (cols - 1 - x)) f.2)])
   (aQ ps.length (fun j=>[fo f,I (cols:Int),jE ((ahw j).map fun y=>(ahw (cols / 2)).map fun x=>lg (atF ps y x) (atF ps y (cols - 1 - x)) f.2),jE ps,I (ps.length:Int),I (j:Int)]) _ (fun j hj=>?_) ?_ rfl rfl) ?_
  ·have hjl:(j:Int)<(ps.length:Int):=by omega
   have e1:=Tw hj
   have hcj:=h2 _ (ahB hj)
   simp -implicitDefEqProofs only [ay,aht,ahu,ahv,hjl,e1]
   refine aD (.ext 6 [fo f,I (cols:Int),jE ((ahw j).map fun y=>(ahw (cols / 2)).map fun x=>lg (atF ps y x) (atF ps y (cols - 1 - x)) f.2),yi ((ahw (cols / 2)).map fun x=>lg (atF ps j x) (atF ps j (cols - 1 - x)) f.2),jE ps,I (ps.length:Int),I (j:Int)])
    (aQ (cols / 2) (fun k=>[fo f,I (cols:Int),jE ((ahw j).map fun y=>(ahw (cols / 2)).map fun x=>lg (atF ps y x) (atF ps y (cols - 1 - x)) f.2),yi ps[j],yi ((ahw k).map fun x=>lg (atF ps j x) (atF ps j (cols - 1 - x)) f.2),I (k:Int),jE ps,I (ps.length:Int),I (j:Int)]) _ (fun k hk=>?_) ?_ rfl rfl) ?_
   ·have hkl:(k:Int)<((cols / 2:Nat):Int):=by omega
    have hk1:k<ps[j].length:=by omega
    have hk2:cols - 1 - k<ps[j].length:=by omega
    have e2:=Oz (r:=ps[j]) hk1
    have e4:=Oz (r:=ps[j]) hk2
    have a3:=XK (a:=cols) (by omega) (by omega)
    have a4:=aag (a:=cols - 1) (b:=k) (by omega) (by omega)
    have e5:=NX ps[j][k] (ps[j][cols - 1 - k]) f.2 (hlen _ hj _ hk1) (hlen _ hj _ hk2)
    have hsn:=ir (fun x=>lg (atF ps j x) (atF ps j (cols - 1 - x)) f.2) k
    rw [acV hj hk1,acV hj hk2] at hsn
    have ht:=Vt (lg ps[j][k] (ps[j][cols - 1 - k]) f.2)
    have ha:=Tx (l:=(ahw k).map fun x=>lg (atF ps j x) (atF ps j (cols - 1 - x)) f.2) (m:=[lg ps[j][k] (ps[j][cols - 1 - k]) f.2]) (by simp;omega)
    rw [←hsn] at ha
    simp -implicitDefEqProofs only [ay,aht,ahu,ahv,rD (show cols≤1000000 by omega),hkl,e2,e4,a3,a4,gm,aaa,e5,ht,ha,wI (show k≤1000000 by omega)]
   ·have hkl:¬((cols / 2:Nat):Int)<((cols / 2:Nat):Int):=by omega
    simp -implicitDefEqProofs only [ay,aht,ahu,ahv,rD (show cols≤1000000 by omega),hkl]
   ·have hsn:=ir (fun y=>(ahw (cols / 2)).map fun x=>lg (atF ps y x) (atF ps y (cols - 1 - x)) f.2) j
    have ht:=Tr ((ahw (cols / 2)).map fun x=>lg (atF ps j x) (atF ps j (cols - 1 - x)) f.2)
    have ha:=TX (l:=(ahw j).map fun y=>(ahw (cols / 2)).map fun x=>lg (atF ps y x) (atF ps y (cols - 1 - x)) f.2) (m:=[(ahw (cols / 2)).map fun x=>lg (atF ps j x) (atF ps j (cols - 1 - x)) f.2]) (by simp;omega)
    rw [←hsn] at ha
    simp -implicitDefEqProofs only [ay,aht,ahu,ahv,ht,ha,wI (show j≤1000000 by omega)]
  ·have hjl:¬(ps.length:Int)<(ps.length:Int):=by omega
   simp -implicitDefEqProofs only [ay,aht,ahu,ahv,hjl]
  ·simp -implicitDefEqProofs only [ay,aht,ahu,ahv]
end Go.Proofs.YtjafgdefcggjcaaGreatDoor

namespace Go.Proofs.YtjafgdefcggjcaaGreatDoor
open Go Go.V
def okH (l:List Fo):Bool:=decide (0<(fX l l.length).length)&&decide (0<((fX l l.length).getD 0 []).length)&&decide (cZ l≠[])&&decide (0<(jZ l l.length).2.2.length)
 && decide ((eP l).length≤16)&&decide ((cZ l).length≤16)&&(cZ l).all fun x=>decide (-100≤x∧x≤100)
set_option maxRecDepth 100000 in
theorem wU:um.all okH=true:=by decide +kernel
theorem VC {l:List Fo} {n:Nat} (h:n<l.length):fX l (n+1)=VJ (fX l n) l[n]:=by
 unfold fX
 rw [ahF h,ah4]
 rfl
theorem agm {l:List Fo} (hl:l∈um) {n:Nat} (hn:n<l.length):RectF (fX l n) (szF (l.drop n)).2 (szF (l.drop n)).1 (2 ^ n):=by
 have h1:=ahA.1 JU l hl
 unfold okF at h1
 simp only [ahy,decide_eq_true_eq] at h1
 have h3:=ahA.1 h1.2 n (aij.2 hn)
 simp only [ahy,decide_eq_true_eq] at h3
 have h4:=h3.1
 unfold afp at h4
 simp only [ahy,decide_eq_true_eq] at h4
 refine⟨h4.1,fun row hrow=>?_,fun row hrow p hp=>?_⟩
 ·have:=ahA.1 h4.2 row hrow
  simp only [ahy,decide_eq_true_eq] at this
  exact this.1
 ·have:=ahA.1 h4.2 row hrow
  simp only [ahy,decide_eq_true_eq] at this
  have:=ahA.1 this.2 p hp
  simpa using this
theorem UH:∀(l:List Fo) (a b:Nat),0<a→0<b→0<(l.foldl (fun s f=>if f.1=1 then(s.1*2,s.2) else(s.1,s.2*2)) (a,b)).1∧0<(l.foldl (fun s f=>if f.1=1 then(s.1*2,s.2) else(s.1,s.2*2)) (a,b)).2
 | [],a,b,ha,hb=>⟨ha,hb⟩
 | f::l,a,b,ha,hb=>by
  rw [List.foldl_cons]
  split
  ·exact UH l (a*2) b (by omega) hb
  ·exact UH l a (b*2) ha (by omega)
theorem afK (x:Fo):bf true 2 0 (fo x)=some (fo x):=rfl
theorem Xj (ps:Pls):aa (jE ps) (D.ref 0 0)=some (D.ref 0 0):=rfl
theorem SW (ps:Pls):aa (D.ref 0 0) (jE ps)=some (jE ps):=rfl
theorem RS (l:List Fo) (hl:l∈um) (h4:l.length≤4):fm [fos l]=some (.ret [fos (eP l)] []):=by
 rw [QQ]
 have hz:=TE l h4
 have e1:=vK l h4
 have hH:=ahA.1 wU l hl
 unfold okH at hH
 simp only [ahy,decide_eq_true_eq] at hH
 have hn1:=hH.1.1.1.1.1.1
 have hn2:=hH.1.1.1.1.1.2
 clear hH
 have hp0:fX l 0=(ahw (szF l).2).map fun y=>(ahw (szF l).1).map fun x=>[(((y*(szF l).1+x:Nat):Int),true)]:=rfl
 have hp0':jE (fX l 0)=jE ((ahw (szF l).2).map fun y=>(ahw (szF l).1).map fun x=>[(((y*(szF l).1+x:Nat):Int),true)]):=rfl
 simp -implicitDefEqProofs only [ay,aht,ahu,ahv,e1,t0V,t1V]
 refine aD (.ext 0 [fos l,jE (fX l 0)]) (aQ (szF l).2 (fun y=>[fos l,I ((szF l).1:Int),I ((szF l).2:Int),jE ((ahw y).map fun y=>(ahw (szF l).1).map fun x=>[(((y*(szF l).1+x:Nat):Int),true)]),I (y:Int)]) _ (fun y hy=>?_) ?_ rfl rfl) ?_
 ·have hyl:(y:Int)<((szF l).2:Int):=by omega
  simp -implicitDefEqProofs only [ay,aht,ahu,ahv,hyl]
  refine aD (.ext 2 [fos l,I ((szF l).1:Int),I ((szF l).2:Int),jE ((ahw y).map fun y=>(ahw (szF l).1).map fun x=>[(((y*(szF l).1+x:Nat):Int),true)]),I (y:Int),yi ((ahw (szF l).1).map fun x=>[(((y*(szF l).1+x:Nat):Int),true)])])
   (aQ (szF l).1 (fun x=>[fos l,I ((szF l).1:Int),I ((szF l).2:Int),jE ((ahw y).map fun y=>(ahw (szF l).1).map fun x=>[(((y*(szF l).1+x:Nat):Int),true)]),I (y:Int),yi ((ahw x).map fun x=>[(((y*(szF l).1+x:Nat):Int),true)]),I (x:Int)]) _ (fun x hx=>?_) ?_ rfl rfl) ?_
  ·have hxl:(x:Int)<((szF l).1:Int):=by omega
   have m1:=Xo (a:=y) (b:=(szF l).1) (by omega) hz.1
   have hb:y*(szF l).1≤16*16:=ahW (by omega) hz.1
   have a1:=Vy (a:=y*(szF l).1) (b:=x) (by omega)
   have hm:aH 2 [D.agg [I ((y*(szF l).1+x:Nat):Int),B true]]=some (fos [(((y*(szF l).1+x:Nat):Int),true)]):=rfl
   have ht:=Vt [(((y*(szF l).1+x:Nat):Int),true)]
   have hsn:=ir (fun x=>[(((y*(szF l).1+x:Nat):Int),true)]) x
   have ha:=Tx (l:=(ahw x).map fun x=>[(((y*(szF l).1+x:Nat):Int),true)]) (m:=[[(((y*(szF l).1+x:Nat):Int),true)]]) (by simp;omega)
   rw [←hsn] at ha
   simp -implicitDefEqProofs only [ay,aht,ahu,ahv,hxl,m1,a1,TM,hm,ht,ha,wI (show x≤1000000 by omega)]
  ·have hxl:¬((szF l).1:Int)<((szF l).1:Int):=by omega
   simp -implicitDefEqProofs only [ay,aht,ahu,ahv,hxl]
  ·have hsn:=ir (fun y=>(ahw (szF l).1).map fun x=>[(((y*(szF l).1+x:Nat):Int),true)]) y
   have ht:=Tr ((ahw (szF l).1).map fun x=>[(((y*(szF l).1+x:Nat):Int),true)])
   have ha:=TX (l:=(ahw y).map fun y=>(ahw (szF l).1).map fun x=>[(((y*(szF l).1+x:Nat):Int),true)]) (m:=[(ahw (szF l).1).map fun x=>[(((y*(szF l).1+x:Nat):Int),true)]]) (by simp;omega)
   rw [←hsn] at ha
   simp -implicitDefEqProofs only [ay,aht,ahu,ahv,ht,ha,wI (show y≤1000000 by omega)]
 ·have hyl:¬((szF l).2:Int)<((szF l).2:Int):=by omega
  simp -implicitDefEqProofs only [ay,aht,ahu,ahv,hyl]
  rw [hp0']
 simp -implicitDefEqProofs only [ay,aht,ahu,ahv]
 refine aD (.ext 4 [jE (fX l l.length)]) (aQ l.length (fun i=>[jE (fX l i),fos l,I l.length,I (i:Int)]) _ (fun i hi=>?_) ?_ rfl rfl) ?_
 ·have hil:(i:Int)<l.length:=by omega
  have e1:=ND hi
  have hk:=agm hl hi
  have hs:=TE (l.drop i) (by rw [ait];omega)
  have hs2:=UH (l.drop i) 1 1 (by decide) (by decide)
  have hp:2 ^ i≤2 ^ 4:=ahS (by decide) (by omega)
  have e2:=Lq _ l[i] _ _ _ hk (by omega) hs2.2 (by omega) (by omega)
  rw [VC hi]
  simp -implicitDefEqProofs only [ay,aht,ahu,ahv,hil,e1,tk2,xA,pQ,afK,Xj,SW,e2,wI (show i≤1000000 by omega)]
 ·have:¬(l.length:Int)<l.length:=by omega
  simp -implicitDefEqProofs only [ay,aht,ahu,ahv,this]
 ·have r1:eH 1 (jE (fX l l.length)) (D.v (ahz ahx 0))=some (.ref 0 0):=by
   have:eH 1 (jE (fX l l.length)) (I ((0:Nat):Int))=_:=mU
   rw [if_pos (by simpa using hn1)] at this
   exact this
  have t1:(atD (jE (fX l l.length)) (.ref 0 0)).bind (an false 1)=some (yi (fX l l.length)[0]):=by simp [hn1]
  have hg:(fX l l.length).getD 0 []=(fX l l.length)[0]:=by simp [hn1]
  rw [hg] at hn2
  have e1:ao 1 (yi (fX l l.length)[0]) (D.v (ahz ahx 0))=some [fos (fX l l.length)[0][0]]:=Oz (i:=0) hn2
  have hL:eP l=(fX l l.length)[0][0]:=acV hn1 hn2
  rw [hL]
  simp -implicitDefEqProofs only [ay,aht,ahu,ahv,Xj,SW,r1,t1,e1]
def Yg (l:List Fo):ByteArray:=qj (szF l).1 0 (At l (cZ l).length).1
def abp (l:List Fo):Prop:=l.length≤4∧∀f∈l,(f.1=1∨f.1=2)∧f.2=true
theorem Sy {l:List Fo} (h:abp l):pX l=true:=by
 unfold pX
 simp only [ahy,decide_eq_true_eq,ahA]
 refine⟨fun f hf=>?_,h.1⟩
 have:=(h.2 f hf).1
 omega
theorem YH {l:List Fo} (hl:l∈um):Yn l true (eP l).length=(At l (cZ l).length).1∧(eP l).length=(szF l).1*(szF l).2∧(cZ l).length=(szF l).1*(szF l).2 ∧
  (1≤(szF l).1∧(szF l).1≤16∧1≤(szF l).2∧(szF l).2≤16)∧(∀x∈eP l,0≤x.1∧x.1<((eP l).length:Int))∧(∀x∈cZ l,0≤Ei x - 1∧Ei x - 1<((cZ l).length:Int)) ∧
  (∀n∈(At l (cZ l).length).1,0≤n∧n≤100):=by
 have h1:=ahA.1 JU l hl
 unfold okF at h1
 simp only [ahy,decide_eq_true_eq,ahA] at h1
 obtain⟨⟨⟨⟨⟨⟨⟨a,b⟩,c⟩,d⟩,e⟩,f⟩,g⟩,_⟩:=h1
 exact⟨a,b,c,by omega,e,f,g⟩
theorem Xl {l:List Fo} (h:abp l):gh [fos l]=some (.ret [T (Yg l),B true] []):=by
 have hl:=EK h.1 h.2
 obtain⟨f1,f2,f3,f4,f5,f6,f7⟩:=YH hl
 have hH:=ahA.1 wU l hl
 unfold okH at hH
 simp only [ahy,decide_eq_true_eq,ahA] at hH
 obtain⟨⟨⟨⟨⟨⟨_,_⟩,h3⟩,h4⟩,h5⟩,h6⟩,h7⟩:=hH
 have e1:=Qh l hl h.1 ⟨h3,h4⟩
 have e2:=NK l (cZ l) e1 (by omega) fun x hx=>⟨f6 x hx,by have:=h7 x hx;omega⟩
 rw [←Ox] at e2
 have hlen:=(vX (cZ l) (cZ l).length (ahC _)).1
 rw [←Ox] at hlen
 exact HA l (Sy h) (szF l).1 _ _ rfl (by omega) (by omega) e2 (by omega) fun x hx=>by have:=f7 x hx;omega
theorem Xy {l:List Fo} (h:abp l):Be [fos l]=some (.ret [T (Yg l),B true] []):=by
 have hl:=EK h.1 h.2
 obtain⟨f1,f2,f3,f4,f5,f6,f7⟩:=YH hl
 have hp:Vn true (eP l)=(At l (cZ l).length).1:=by
  rw [←f1]
  unfold Yn Vn
  rw [ahO]
 have hlen:(Vn true (eP l)).length=(eP l).length:=GO _ _
 have hH:=ahA.1 wU l hl
 unfold okH at hH
 simp only [ahy,decide_eq_true_eq,ahA] at hH
 obtain⟨⟨⟨⟨⟨⟨_,_⟩,h3⟩,h4⟩,h5⟩,h6⟩,h7⟩:=hH
 have e0:Be [fos l]=aeD (fos l):=rfl
 rw [e0]
 unfold aeD
 rw [xD l (by have:=h.1;omega),Sy h,vK l h.1,RS l hl h.1]
 have o1:aeS (some (.ret [B true] []))=some true:=rfl
 have o2:∀a b:Int,ZC (some (.ret [I a,I b] []))=some (a,b):=fun _ _=>rfl
 have o3:aam (some (.ret [fos (eP l)] []))=some (eP l):=RZ _
 rw [o1,o2,o3]
 simp only [ahK,Bool.true_eq_false,if_false,Int.toNat_natCast]
 have hdiv:(eP l).length / (szF l).1=(szF l).2:=by
  rw [f2,ah1]
  exact Nat.mul_div_cancel _ (by omega)
 rw [hdiv]
 have hok:WH (szF l).1 (szF l).2 (eP l):=by
  refine⟨by omega,by omega,by rw [f2,ah1],by omega,f5,fun n hn=>?_⟩
  rw [hp] at hn
  have:=f7 n hn
  omega
 rw [if_pos ⟨by omega,hok⟩]
 rw [Sr (by omega) _ _ 0 (by rw [hlen,f2,ah1]) (Nat.zero_mod _),hp]
 rfl
end Go.Proofs.YtjafgdefcggjcaaGreatDoor

namespace Go.Proofs.YtjafgdefcggjcaaGreatDoor
open Go Go.V
theorem Iv {l:List Nt} (h:gk l=true):(∀x∈l,lR x=true)∧l.length≤24:=by
 unfold gk at h
 simp only [ahy,decide_eq_true_eq] at h
 refine⟨?_,h.2⟩
 have key:∀(p:Nat→Nt→Bool) (m:List Nt) (i:Nat),mT p i m=true→∀x∈m,∃j,p j x=true:=by
  intro p m
  induction m with
  | nil=>intro i _ x hx;cases hx
  | cons y m ih =>
   intro i hi x hx
   simp only [mT,ahy] at hi
   rcases aik.1 hx with rfl | hx
   ·exact⟨i,hi.1⟩
   ·exact ih (i+1) hi.2 x hx
 intro x hx
 obtain⟨j,hj⟩:=key _ _ _ h.1 x hx
 simp only [pNt,ahy] at hj
 exact hj.1
theorem PK (l:List Nt) (hg:∀x∈l,lR x=true) (hl:l.length≤1048576):oC [nts l]=some (.ret [T (jT l 7)] []):=by
 rw [QY]
 simp -implicitDefEqProofs only [aK,ahP,ahK]
 refine cG (fun r=>r=_) (fun(a:ByteArray × Int × Nat)=>[T a.1,I a.2.1,nts l,I (l.length:Int),I (a.2.2:Int)]) (fun a=>a.2.2≤l.length∧(0≤a.2.1∧a.2.1≤9972)∧a.1++jT (l.drop a.2.2) a.2.1=jT l 7∧a.1.size≤44*a.2.2)
  (fun a=>l.length - a.2.2) (fun o=>o = .ext 0 [T (jT l 7)]) ?_ (⟨#[]⟩,7,0) ⟨ahN _,⟨by decide,by decide⟩,by apply bK;rw [bk];rfl,ahC _⟩ rfl ?_
 ·rintro⟨s,c,i⟩ ⟨h1,h2,h3,h4⟩
  simp only at h1 h2 h3 h4
  by_cases hp:i<l.length
  ·left
   have hpi:(i:Int)<(l.length:Int):=by omega
   have hx:lR l[i]=true:=hg _ (ahB hp)
   have hck:=qX c l[i]
   have hel:ao 3 (nts l) (I (i:Int))=some (nt l[i]).cells:=by simp [hp]
   have lx:∀x:Nt,(ldD true 3 (.ptr (nt x).cells)).bind aL=some (nt x):=fun x=>by simp
   have hz:=Ny hx hck
   have hw:ahx.wrap ((i:Int)+1)=((i+1:Nat):Int):=by rw [ah (by omega) (by omega)];omega
   have hadd:bin aio false [] (T s) (T (lnT l[i] (ckN c l[i])))=some (T (s++lnT l[i] (ckN c l[i]))):=by rw [fH,if_pos (by omega)]
   refine⟨(s++lnT l[i] (ckN c l[i]),ckN c l[i],i+1),?_,⟨hp,hck,?_,?_⟩,by simp only;omega⟩
   ·simp -implicitDefEqProofs only [ak,aF,be,hpi,decide_true,ahK,aG,if_true,hel,Option.map_some,lx,YC,Mz,Ae h2 hx,am,DV hx hck,hadd,br,hw]
   ·rw [←h3,aie hp]
    apply bK
    simp only [jT,bk,ah5]
   ·rw [ahI]
    simp only
    omega
  ·right
   have hpi:¬(i:Int)<(l.length:Int):=by omega
   rw [List.drop_eq_nil_of_le (by omega)] at h3
   have h5:s=jT l 7:=by
    rw [←h3]
    apply bK
    rw [bk]
    simp [jT,ac]
   refine⟨_,?_,rfl,rfl⟩
   simp -implicitDefEqProofs only [ak,aF,be,hpi,decide_false,ahK,aG,ahT,if_false,h5]
 ·rintro o rfl
  simp -implicitDefEqProofs only [bE,Nat.beq_refl,dZ,if_true,ak]
theorem Xx (s:ByteArray):sX [T s]=some (.ret [T (if s.size≤300 then s else⟨#[]⟩),B (decide (s.size≤300))] []):=by
 rw [VB]
 by_cases h:s.size≤300
 ·have h':¬(300:Int)<(s.size:Int):=by omega
  simp -implicitDefEqProofs only [dG,eG,h',h,decide_false,decide_true,ahK,aG,ahT,if_false,if_true]
 ·have h':(300:Int)<(s.size:Int):=by omega
  simp -implicitDefEqProofs only [dG,eG,h',h,decide_false,decide_true,ahK,aG,if_false,if_true]
theorem Mr (l:List Nt) (hg:∀x∈l,lR x=true) (hl:l.length≤1048576):rK [nts l]=some (.ret [T (jT l 7)] []):=by
 simp only [rK,Ss,ahK]
 rw [if_pos ⟨hg,hl⟩]
def jtS (l:List Nt):ByteArray × Bool:=if gk l=true∧(jT l 7).size≤300 then(jT l 7,true) else(⟨#[]⟩,false)
def anS (s:ByteArray) (x:Nt):ByteArray × Bool:=if (jrS s).2=true then jtS ((jrS s).1++[x]) else(⟨#[]⟩,false)
theorem tr (s:ByteArray):(jrS s).1.length≤24:=by
 unfold jrS
 split
 ·exact afU s
 ·exact ahN _
theorem Yh (x:Nt):fJ 3 (nt x)=some (nt x):=by simp
theorem Gz (s:ByteArray) (x:Nt) (h:s.size≤1048576):jA [T s,nt x]=some (.ret [T (anS s x).1,B (anS s x).2] []):=by
 rw [FZ]
 have e1:=iF s h
 have hlen:=tr s
 unfold anS
 generalize jrS s=R at *
 obtain⟨l,p⟩:=R
 simp only at e1 hlen ⊢
 have ha0:bA 3 24 (.arr 3 []) (nts l)=some (nts l):=wF (l:=[]) (m:=l) (by simp;omega)
 have hap:=wF (l:=l) (m:=[x]) (by simp;omega)
 simp -implicitDefEqProofs only [Yh,ahK,e1,am,tp0,tc0,agU,aZ,UG,ha0,Mz,Vo,hap,bd]
 have hl2:(l++[x]).length≤1048576:=by rw [ahU,ah7];omega
 have hg:=dS (l++[x]) hl2
 cases p
 ·simp -implicitDefEqProofs
 unfold jtS
 cases hgd:gk (l++[x])
 ·simp -implicitDefEqProofs [hg,hgd]
 ·have hall:=(Iv hgd).1
  have hT:=PK (l++[x]) hall hl2
  have hI:=Xx (jT (l++[x]) 7)
  rw [hgd] at hg
  generalize l++[x]=m at *
  by_cases hz:(jT m 7).size≤300<;>simp -implicitDefEqProofs [hg,hT,hI,hz]
end Go.Proofs.YtjafgdefcggjcaaGreatDoor

namespace Go.Proofs.YtjafgdefcggjcaaGreatDoor
open Go Go.V
theorem acl {x:Nt} (hx:lR x=true) {g m:Int} (h0:0≤m) (h : -m≤g∧g≤m) (hm:m≤1000000000) : -(m+99999)≤wi g x∧wi g x≤m+99999:=by
 obtain⟨h1,h2,h3⟩:=pJ.1 hx
 unfold wi
 split
 ·rw [ah (by omega) (by omega)];omega
 ·rw [ah (by omega) (by omega)];omega
theorem ac7 (d:Int):∀(l:List Nt) (s m:Int),(∀x∈l,lR x=true)→0≤m → -m≤s∧s≤m→m+99999*l.length≤1000000000 → -(m+99999*l.length)≤bB l s d∧bB l s d≤m+99999*l.length
 | [],s,m,_,_,h,_=>by simpa [bB] using h
 | x::l,s,m,hx,h0,h,hm=>by
  simp only [ahQ,ah8,Int.mul_add] at hm ⊢
  have e:bB (x::l) s d=bB l (if x.1≤d then wi s x else s) d:=rfl
  rw [e]
  have hb:=acl (hx x (by simp)) h0 h (by omega)
  have:=ac7 d l (if x.1≤d then wi s x else s) (m+99999) (fun y hy=>hx y (by simp [hy])) (by omega) (by split<;>omega) (by omega)
  omega
theorem ac9:∀(l:List Nt) (i:Nat) (a:Int × Int × Int) (m:Int),(∀x∈l,lR x=true)→0≤m → -m≤a.1∧a.1≤m → -m≤a.2.1∧a.2.1≤m→m+99999*l.length≤1000000000 →
  -(m+99999*l.length)≤(Cd lT i l a).2.1∧(Cd lT i l a).2.1≤m+99999*l.length
 | [],i,a,m,_,_,_,h2,_=>by simpa [Cd] using h2
 | x::l,i,a,m,hx,h0,h,h2,hm=>by
  simp only [ahQ,ah8,Int.mul_add] at hm ⊢
  have e:Cd lT i (x::l) a=Cd lT (i+1) l (lT i a x):=rfl
  rw [e]
  have hb:=acl (hx x (by simp)) h0 h (by omega)
  have:=ac9 l (i+1) (lT i a x) (m+99999) (fun y hy=>hx y (by simp [hy])) (by omega) (by unfold lT;split<;>dsimp only<;>omega) (by unfold lT;split<;>dsimp only<;>omega) (by omega)
  omega
theorem Ul {l:List Nt} {s d:Int} : -1000000000≤(if er l s d=true then bB l s d else 0)∧(if er l s d=true then bB l s d else 0)≤1000000000:=by
 split
 ·rename_i h
  unfold er at h
  simp only [ahy,decide_eq_true_eq] at h
  obtain⟨⟨h1,h2⟩,h3⟩:=h
  obtain⟨g1,g2⟩:=Iv h1
  have:=ac7 d l s 1000000 g1 (by omega) (by omega) (by omega)
  omega
 ·omega
theorem Un {l:List Nt} {s:Int} : -1000000000≤(gu l s).1∧(gu l s).1≤1000000000:=by
 unfold gu
 split
 ·rename_i h
  unfold fR at h
  simp only [ahy,decide_eq_true_eq] at h
  obtain⟨⟨h1,h2⟩,h3⟩:=h
  obtain⟨g1,g2⟩:=Iv h1
  have:=ac9 l 0 (s,0,-1) 1000000 g1 (by omega) (by dsimp only;omega) (by dsimp only;omega) (by omega)
  omega
 ·decide
def kG (c:Cn) (w:ByteArray) (r:List Int):ByteArray × Cn :=
 if w=kh then(if eE (c.t++[r.getD 0 0])=true then(aJ ((c.t.length+1:Nat):Int),{c with t:=c.t++[r.getD 0 0]}) else(noT,c))
 else if w=bM then(aJ (ER c.t),c)
 else if w=cv then(bX 32 [((fW c.t c.t.length).1:Int),((fW c.t c.t.length).2:Int)],c)
 else if w=eu then(if (anS c.j (r.getD 0 0,r.getD 1 0,r.getD 2 0)).2=true then(aJ ((jrS (anS c.j (r.getD 0 0,r.getD 1 0,r.getD 2 0)).1).1.length:Int),{c with j:=(anS c.j (r.getD 0 0,r.getD 1 0,r.getD 2 0)).1}) else(noT,c))
 else if w=cr then(if er (jrS c.j).1 (r.getD 0 0) (r.getD 1 0)=true then aJ (bB (jrS c.j).1 (r.getD 0 0) (r.getD 1 0)) else noT,c)
 else if w=cj then(if fR (jrS c.j).1 (r.getD 0 0)=true then aJ (gu (jrS c.j).1 (r.getD 0 0)).1 else noT,c)
 else if w=dP then(if pX (c.f++[(r.getD 0 0,true)])=true then(aJ ((c.f.length+1:Nat):Int),{c with f:=c.f++[(r.getD 0 0,true)]}) else(noT,c))
 else(Yg c.f,c)
theorem qU {l:List Int} (h:eE l=true):1≤l.length∧l.length≤40∧∀n∈l,-500≤n∧n≤500:=by
 unfold eE at h
 simp only [ahy,decide_eq_true_eq,ahA] at h
 exact⟨h.1.1,h.1.2,h.2⟩
theorem YZ {l:List Int} (h:eE l=true) : -500≤ER l∧ER l≤500:=by
 obtain⟨h1,h2,h3⟩:=qU h
 have hp:=(wt l [] List.Pairwise.nil).2
 rw [aiw] at hp
 unfold ER
 have hix:(l.length - 1) / 2<(wd l).length:=by rw [FH];omega
 rw [ahR,ahH hix,ah6]
 exact h3 _ (hp.mem_iff.1 (ahB hix))
theorem Uj (l:List Int):∀n,n≤l.length→(fW l n).1≤l.length∧(fW l n).2≤l.length+1
 | 0,_=>by simp [fW]
 | n+1,h=>by
  have ih:=Uj l n (by omega)
  have hm:=ZL (l:=l) (i:=n) (by omega)
  rw [uV]
  unfold MX
  split
  ·dsimp only;omega
  ·exact ih
theorem Oe (s:ByteArray) (x:Nt):(anS s x).1.size≤300:=by
 unfold anS jtS
 split
 ·split
  ·rename_i h
   exact h.2
  ·exact ahN _
 ·exact ahN _
theorem jP (a b c:Int):dw [(0,1),(1,1),(2,1)] [D.v (ahz ahx 0),D.v (ahz ahx 0),D.v (ahz ahx 0)] [I a,I b,I c]=some (nt (a,b,c)):=rfl
structure CnOk (c:Cn):Prop where
 m:ck c.m=true
 s:ct c.s=true
 t:eE c.t=true
 j:c.j.size≤300
 f:abp c.f
theorem il (c:Cn) (x y:Value) (n:Int) (w:ByteArray) (r:List Int) (hk:CnOk c)
  (hw:(w=kh∧r.length=1)∨(w=bM∧r.length=0)∨(w=cv∧r.length=0)∨(w=eu∧r.length=3)∨(w=cr∧r.length=2)∨(w=cj∧r.length=1)∨(w=dP∧r.length=1)∨(w=bH∧r.length=0)) :
  cL [cnD c x y n,T w,ai r]=some (.ret [T (kG c w r).1] [cnD (kG c w r).2 x y n]):=by
 rw [Bt]
 obtain⟨hm,hs,ht,hj,hf⟩:=hk
 obtain⟨t1,t2,t3⟩:=qU ht
 rcases hw with ⟨rfl,hr⟩ | ⟨rfl,hr⟩ | ⟨rfl,hr⟩ | ⟨rfl,hr⟩ | ⟨rfl,hr⟩ | ⟨rfl,hr⟩ | ⟨rfl,hr⟩ | ⟨rfl,hr⟩
 ·obtain⟨a,rfl⟩:=ahM.1 hr
  have hel:ao 1 (ai [a]) (D.v (ahz ahx 0))=some [I a]:=rfl
  have e1:=mY c.t (by omega)
  have hmk:aH 1 [I a]=some (ai [a]):=rfl
  have ha:=ed (l:=c.t) (m:=[a]) (by simp;omega)
  have e2:=uh (c.t++[a]) (by simp;omega)
  have e3:=cE (n:=((c.t.length+1:Nat):Int)) (by omega) (by omega)
  have hmc:kG c kh [a]=if eE (c.t++[a])=true then(aJ ((c.t.length+1:Nat):Int),{c with t:=c.t++[a]}) else(noT,c):=rfl
  have hlen:(((c.t++[a]).length:Nat):Int)=((c.t.length+1:Nat):Int):=by simp
  rw [hmc]
  cases hq:eE (c.t++[a])<;>rw [hq] at e2<;>simp -implicitDefEqProofs only [ay,aht,ahu,ahv,SJ,hel,e1,e2,hmk,ha,ack,agK,bJ,bV,bg,aR,hlen,e3]
 ·obtain rfl:=ahE hr
  have e1:=Jx c.t (by omega)
  rw [ht,if_pos rfl] at e1
  have hb:=YZ ht
  have e2:=nz (n:=ER c.t) (by omega) (by omega)
  have hmc:kG c bM []=(aJ (ER c.t),c):=rfl
  rw [hmc]
  simp -implicitDefEqProofs only [ay,aht,ahu,ahv,Ib,xe,e1,e2,t0V,t1V,ack,bJ,bV,bg,aR]
 ·obtain rfl:=ahE hr
  have e1:=Bs c.t (by omega)
  rw [ht,if_pos rfl,if_pos rfl] at e1
  have hb:=Uj c.t c.t.length (ahC _)
  have hbb:∀z∈[((fW c.t c.t.length).1:Int),((fW c.t c.t.length).2:Int)],-1000000000000000000<z∧z<1000000000000000000:=by
   intro z hz
   simp only [aik,aiu,or_false] at hz
   rcases hz with rfl | rfl<;>omega
  have e2:=tS [((fW c.t c.t.length).1:Int),((fW c.t c.t.length).2:Int)] (by simp) (tQ hbb) hbb
  have hmk:aH 1 [I ((fW c.t c.t.length).1:Int),I ((fW c.t c.t.length).2:Int)]=some (ai [((fW c.t c.t.length).1:Int),((fW c.t c.t.length).2:Int)]):=rfl
  have hmc:kG c cv []=(bX 32 [((fW c.t c.t.length).1:Int),((fW c.t c.t.length).2:Int)],c):=rfl
  rw [hmc]
  simp -implicitDefEqProofs only [ay,aht,ahu,ahv,Ki,yH,DQ,e1,e2,hmk,t0V,t1V,t2V,ack,bJ,bV,bg,aR]
 ·obtain⟨a,b,d,rfl⟩:=Je hr
  have hel:ao 1 (ai [a,b,d]) (D.v (ahz ahx 0))=some [I a]:=rfl
  have hel1:ao 1 (ai [a,b,d]) (D.v (ahz ahx 1))=some [I b]:=rfl
  have hel2:ao 1 (ai [a,b,d]) (D.v (ahz ahx 2))=some [I d]:=rfl
  have e1:=Gz c.j (a,b,d) (by omega)
  have hz:=Oe c.j (a,b,d)
  have e2:=iF (anS c.j (a,b,d)).1 (by omega)
  have hl:=tr (anS c.j (a,b,d)).1
  have e3:=cE (n:=((jrS (anS c.j (a,b,d)).1).1.length:Int)) (by omega) (by omega)
  have hmc:kG c eu [a,b,d]=if (anS c.j (a,b,d)).2=true then(aJ ((jrS (anS c.j (a,b,d)).1).1.length:Int),{c with j:=(anS c.j (a,b,d)).1}) else(noT,c):=rfl
  rw [hmc]
  cases hq:(anS c.j (a,b,d)).2<;>rw [hq] at e1<;>simp -implicitDefEqProofs only [ay,aht,ahu,ahv,ON,QF,UP,KQ,hel,hel1,hel2,jP,e1,e2,e3,t0V,t0A,kU,t1V,aca,agV,bJ,bV,bg,aR]
 ·obtain⟨a,b,rfl⟩:=Ie hr
  have hel:ao 1 (ai [a,b]) (D.v (ahz ahx 0))=some [I a]:=rfl
  have hel1:ao 1 (ai [a,b]) (D.v (ahz ahx 1))=some [I b]:=rfl
  have e1:=iF c.j (by omega)
  have hl:=tr c.j
  have e2:=Gh (jrS c.j).1 a b (by omega)
  have hb:=Ul (l:=(jrS c.j).1) (s:=a) (d:=b)
  have e3:=nz (n:=if er (jrS c.j).1 a b=true then bB (jrS c.j).1 a b else 0) (by omega) (by omega)
  have hmc:kG c cr [a,b]=(if er (jrS c.j).1 a b=true then aJ (bB (jrS c.j).1 a b) else noT,c):=rfl
  rw [hmc]
  cases hq:er (jrS c.j).1 a b<;>rw [hq] at e2 e3<;>simp only [if_true,if_false,ahT] at e2 e3<;>simp -implicitDefEqProofs only [ay,aht,ahu,ahv,KF,yR,Dj,Hb,CO,hel,hel1,e1,e2,e3,t0V,t0A,kU,t1V,aca,bJ,bV,bg,aR,nq,mG]
 ·obtain⟨a,rfl⟩:=ahM.1 hr
  have hel:ao 1 (ai [a]) (D.v (ahz ahx 0))=some [I a]:=rfl
  have e1:=iF c.j (by omega)
  have hl:=tr c.j
  have e2:=Fj (jrS c.j).1 a (by omega)
  have hb:=Un (l:=(jrS c.j).1) (s:=a)
  have e3:=nz (n:=(gu (jrS c.j).1 a).1) (by omega) (by omega)
  have hmc:kG c cj [a]=(if fR (jrS c.j).1 a=true then aJ (gu (jrS c.j).1 a).1 else noT,c):=rfl
  rw [hmc]
  cases hq:fR (jrS c.j).1 a<;>rw [hq] at e2<;>simp -implicitDefEqProofs only [ay,aht,ahu,ahv,Kp,yo,Db,Fk,CT,Cy,hel,e1,e2,e3,t0V,t0A,kU,t1V,t2V,aca,bJ,bV,bg,aR,nq,mG]
 ·obtain⟨a,rfl⟩:=ahM.1 hr
  have hel:ao 1 (ai [a]) (D.v (ahz ahx 0))=some [I a]:=rfl
  have h4:=hf.1
  have hck:=Mm c.f
  have ha0:bA 2 16 (D.arr 2 []) (fos c.f)=some (fos c.f):=tj (l:=[]) (m:=c.f) (by simp;omega)
  have hmk:aH 2 [D.agg [I a,B true]]=some (fos [(a,true)]):=rfl
  have ha:=tj (l:=c.f) (m:=[(a,true)]) (by simp;omega)
  have e2:=DR (c.f++[(a,true)]) (by simp;omega)
  have e3:=cE (n:=((c.f.length+1:Nat):Int)) (by omega) (by omega)
  have hmc:kG c dP [a]=if pX (c.f++[(a,true)])=true then(aJ ((c.f.length+1:Nat):Int),{c with f:=c.f++[(a,true)]}) else(noT,c):=rfl
  have hlen:(((c.f++[(a,true)]).length:Nat):Int)=((c.f.length+1:Nat):Int):=by simp
  rw [hmc]
  cases hq:pX (c.f++[(a,true)])<;>rw [hq] at e2<;>simp -implicitDefEqProofs only [ay,aht,ahu,ahv,NO,Qk,UZ,Kx,Vl,Vk,Ku,hel,hck,ha0,TM,hmk,ha,e2,e3,afA,agT,bJ,bV,bg,aR,hlen]
 ·obtain rfl:=ahE hr
  have e1:=Xl hf
  have hmc:kG c bH []=(Yg c.f,c):=rfl
  rw [hmc]
  simp -implicitDefEqProofs only [ay,aht,ahu,ahv,GT,xM,zx,Cq,yt,yK,DB,e1,t0V,t1V,afA,bJ,bV,bg,aR]
end Go.Proofs.YtjafgdefcggjcaaGreatDoor

namespace Go.Proofs.YtjafgdefcggjcaaGreatDoor
open Go Go.V
def sN (w:ByteArray):Bool:=decide (w=dC)||decide (w=bN)||decide (w=dv)||decide (w=gE)||decide (w=bw)
def bp (c:Cn) (w rest:ByteArray) (r:List Int):ByteArray × Cn :=
 if shN w = -1 then QA c w rest else if sN w=true then ij c w r else kG c w r
def dY (c:Cn) (t:ByteArray):ByteArray × Cn :=
 match rdL t with
 | none=>(fv,c)
 | some (w,rest,r)=>bp c w rest r
theorem Sq {w:ByteArray} (h1:¬shN w = -2) (h2:¬shN w = -1):w=dC∨w=bN∨w=dv∨w=gE∨w=bw∨w=kh∨w=bM∨w=cv∨w=eu∨w=cr∨w=cj∨w=dP∨w=bH:=by
 unfold shN at h1 h2
 by_cases g0:w=bN∨w=bM∨w=cv∨w=bH
 ·rcases g0 with g | g | g | g<;>simp [g]
 rw [if_neg g0] at h1 h2
 by_cases g1:w=kF∨w=jY∨w=fg
 ·rw [if_pos g1] at h2
  exact absurd rfl h2
 rw [if_neg g1] at h1 h2
 by_cases g2:w=dC∨w=dv∨w=bw∨w=kh∨w=cj∨w=dP
 ·rcases g2 with g | g | g | g | g | g<;>simp [g]
 rw [if_neg g2] at h1 h2
 by_cases g3:w=gE∨w=cr
 ·rcases g3 with g | g<;>simp [g]
 rw [if_neg g3] at h1 h2
 by_cases g4:w=eu
 ·simp [g4]
 rw [if_neg g4] at h1
 exact absurd rfl h1
theorem XY {w:ByteArray} (h:shN w = -1):w=fg∨w=kF∨w=jY:=by
 unfold shN at h
 split at h
 ·cases h
 split at h
 ·rename_i g
  rcases g with g | g | g<;>simp [g]
 split at h
 ·cases h
 split at h
 ·cases h
 split at h<;>cases h
theorem YM {t w:ByteArray} {ws:List ByteArray} (h:aB 32 t=w::ws) (hne:ws≠[]):w.size+1≤t.size:=by
 have hc:(aB 32 t).map ac=aY 32 (ac t):=by
  unfold aB
  rw [List.map_map]
  conv=>rhs;rw [←List.map_id (aY 32 (ac t))]
  exact List.map_congr_left fun l _=>cN l
 have hj:=mO 32 (ac t)
 rw [←hc,h] at hj
 obtain⟨v,vs,rfl⟩:=List.exists_cons_of_ne_nil hne
 simp only [List.map_cons,dO] at hj
 have:=congrArg List.length hj
 rw [ahU,ahQ] at this
 show(ac w).length+1≤(ac t).length
 omega
set_option maxHeartbeats 1000000 in
theorem VW (c:Cn) (x y:Value) (n:Int) (t:ByteArray) (hk:CnOk c) (ht:t.size≤1000000) :
  kJ [cnD c x y n,T t]=some (.ret [T (dY c t).1] [cnD (dY c t).2 x y n]):=by
 rw [Bw]
 have e1:=fK t 32 (by omega)
 have e1':bU [T t,D.v (ahz IntKind.u8 32)]=some (.ret [txs (aB 32 t)] []):=e1
 have hsz:∀v∈aB 32 t,v.size≤4294967296:=fun v hv=>by have:=fp 32 t v hv;omega
 have hwl:(aB 32 t).length≤1000001:=by
  rw [eK]
  have h1:=eJ 32 (ac t)
  have h2:=cQ t
  omega
 unfold dY rdL
 cases hs:aB 32 t with
 | nil =>
  exfalso
  have:aB 32 t≠[]:=by
   unfold aB
   simp [em]
  exact this hs
 | cons w ws =>
 rw [hs] at e1' hsz hwl
 have hel:ao 1 (txs (w::ws)) (D.v (ahz ahx 0))=some [T w]:=rfl
 have e2:=Oq w
 dsimp only
 by_cases h2:shN w = -2
 ·have h2d:=decide_eq_true h2
  rw [if_pos h2]
  simp -implicitDefEqProofs only [ay,aht,ahu,ahv,e1',hel,e2,h2d,bV]
 have h2d:=decide_eq_false h2
 rw [if_neg h2]
 by_cases h1:shN w = -1
 ·have h1d:=decide_eq_true h1
  rw [if_pos h1]
  by_cases hne:ws=[]
  ·subst hne
   have hl1:(([w]:List ByteArray).length:Int)=1:=rfl
   rw [if_pos rfl]
   simp -implicitDefEqProofs only [ay,aht,ahu,ahv,e1',hel,e2,h2d,h1d,hl1,bV]
  ·have hl1:¬(((w::ws).length:Nat):Int)=1:=by
    have:=aim.2 hne
    rw [ahQ]
    omega
   rw [if_neg hne]
   have hlong:=YM hs hne
   have hwr:ahx.wrap ((w.size:Int)+1)=((w.size+1:Nat):Int):=by rw [ah (by omega) (by omega)];omega
   have hx:cJ true 0 (T t) (I ((w.size+1:Nat):Int))=some (T (t.extract (w.size+1) t.size)):=Fz hlong
   have e3:=XI c x y n w (t.extract (w.size+1) t.size) (XY h1) (by simp;omega)
   have hst:bp c w (t.extract (w.size+1) t.size) []=QA c w (t.extract (w.size+1) t.size):=by
    unfold bp
    rw [if_pos h1]
   dsimp only
   rw [hst]
   simp -implicitDefEqProofs only [ay,aht,ahu,ahv,e1',hel,e2,h2d,h1d,hl1,hwr,hx,bJ,jr,bV,e3]
 have h1d:=decide_eq_false h1
 rw [if_neg h1]
 have hx:cJ false 1 (txs (w::ws)) (D.v (ahz ahx 1))=some (txs ws):=by
  have:=mn (z:=1) (l:=(w::ws).map T) (i:=1) (k:=.i64) (by simp)
  exact this
 have e3:=QU ws (shN w) (by rw [ahQ] at hwl;omega) (fun v hv=>hsz v (by simp [hv]))
 cases hn:cu ws with
 | none =>
  rw [hn] at e3
  dsimp only at e3 ⊢
  have q0:∀b,aq (D.tup [ai [],b]) 0=some (ai []):=fun _=>rfl
  simp -implicitDefEqProofs only [ay,aht,ahu,ahv,e1',hel,e2,h2d,h1d,hx,e3,q0,t1V,bV]
 | some r =>
  rw [hn] at e3
  dsimp only at e3 ⊢
  have hrl:=(lY _ _ hn).1
  have q0:∀b,aq (D.tup [ai r,b]) 0=some (ai r):=fun _=>rfl
  rw [←hrl] at e3
  by_cases hr:(r.length:Int)=shN w
  case neg =>
   have hrd:=decide_eq_false hr
   rw [hrd] at e3
   rw [if_neg hr]
   simp -implicitDefEqProofs only [ay,aht,ahu,ahv,e1',hel,e2,h2d,h1d,hx,e3,q0,t1V,bV]
  rw [decide_eq_true hr] at e3
  rw [if_pos hr]
  dsimp only
  rcases Sq h2 h1 with rfl | rfl | rfl | rfl | rfl | rfl | rfl | rfl | rfl | rfl | rfl | rfl | rfl
  ·have hl:r.length=1:=by
    have h0:shN dC=1:=by decide
    rw [h0] at hr
    omega
   have e4:=nu c x y n dC r hk.m hk.s (.inl ⟨rfl,hl⟩)
   have hst:bp c dC ⟨⟨[]⟩⟩ r=ij c dC r:=by
    unfold bp
    rw [if_neg h1,if_pos (show sN dC=true by decide)]
   rw [hst]
   simp -implicitDefEqProofs only [ay,aht,ahu,ahv,e1',hel,e2,h2d,h1d,hx,e3,q0,t1V,yN,Qd,WM,Ye,Pb,bJ,jr,bV,e4]
  ·have hl:r.length=0:=by
    have h0:shN bN=0:=by decide
    rw [h0] at hr
    omega
   have e4:=nu c x y n bN r hk.m hk.s (.inr (.inl ⟨rfl,hl⟩))
   have hst:bp c bN ⟨⟨[]⟩⟩ r=ij c bN r:=by
    unfold bp
    rw [if_neg h1,if_pos (show sN bN=true by decide)]
   rw [hst]
   simp -implicitDefEqProofs only [ay,aht,ahu,ahv,e1',hel,e2,h2d,h1d,hx,e3,q0,t1V,tY,ly,DI,FW,Jg,bJ,jr,bV,e4]
  ·have hl:r.length=1:=by
    have h0:shN dv=1:=by decide
    rw [h0] at hr
    omega
   have e4:=nu c x y n dv r hk.m hk.s (.inr (.inr (.inl ⟨rfl,hl⟩)))
   have hst:bp c dv ⟨⟨[]⟩⟩ r=ij c dv r:=by
    unfold bp
    rw [if_neg h1,if_pos (show sN dv=true by decide)]
   rw [hst]
   simp -implicitDefEqProofs only [ay,aht,ahu,ahv,e1',hel,e2,h2d,h1d,hx,e3,q0,t1V,tE,ur,tf,Yt,PA,bJ,jr,bV,e4]
  ·have hl:r.length=2:=by
    have h0:shN gE=2:=by decide
    rw [h0] at hr
    omega
   have e4:=nu c x y n gE r hk.m hk.s (.inr (.inr (.inr (.inl ⟨rfl,hl⟩))))
   have hst:bp c gE ⟨⟨[]⟩⟩ r=ij c gE r:=by
    unfold bp
    rw [if_neg h1,if_pos (show sN gE=true by decide)]
   rw [hst]
   simp -implicitDefEqProofs only [ay,aht,ahu,ahv,e1',hel,e2,h2d,h1d,hx,e3,q0,t1V,EG,Fr,EZ,Ka,Rp,bJ,jr,bV,e4]
  ·have hl:r.length=1:=by
    have h0:shN bw=1:=by decide
    rw [h0] at hr
    omega
   have e4:=nu c x y n bw r hk.m hk.s (.inr (.inr (.inr (.inr (⟨rfl,hl⟩)))))
   have hst:bp c bw ⟨⟨[]⟩⟩ r=ij c bw r:=by
    unfold bp
    rw [if_neg h1,if_pos (show sN bw=true by decide)]
   rw [hst]
   simp -implicitDefEqProofs only [ay,aht,ahu,ahv,e1',hel,e2,h2d,h1d,hx,e3,q0,t1V,sx,nO,rO,uu,sH,bJ,jr,bV,e4]
  ·have hl:r.length=1:=by
    have h0:shN kh=1:=by decide
    rw [h0] at hr
    omega
   have e4:=il c x y n kh r hk (.inl ⟨rfl,hl⟩)
   have hst:bp c kh ⟨⟨[]⟩⟩ r=kG c kh r:=by
    unfold bp
    rw [if_neg h1,if_neg (show ¬sN kh=true by decide)]
   rw [hst]
   simp -implicitDefEqProofs only [ay,aht,ahu,ahv,e1',hel,e2,h2d,h1d,hx,e3,q0,t1V,Ol,UB,MA,SB,Rk,bJ,jr,bV,e4]
  ·have hl:r.length=0:=by
    have h0:shN bM=0:=by decide
    rw [h0] at hr
    omega
   have e4:=il c x y n bM r hk (.inr (.inl ⟨rfl,hl⟩))
   have hst:bp c bM ⟨⟨[]⟩⟩ r=kG c bM r:=by
    unfold bp
    rw [if_neg h1,if_neg (show ¬sN bM=true by decide)]
   rw [hst]
   simp -implicitDefEqProofs only [ay,aht,ahu,ahv,e1',hel,e2,h2d,h1d,hx,e3,q0,t1V,DP,xw,Ck,HH,uM,bJ,jr,bV,e4]
  ·have hl:r.length=0:=by
    have h0:shN cv=0:=by decide
    rw [h0] at hr
    omega
   have e4:=il c x y n cv r hk (.inr (.inr (.inl ⟨rfl,hl⟩)))
   have hst:bp c cv ⟨⟨[]⟩⟩ r=kG c cv r:=by
    unfold bp
    rw [if_neg h1,if_neg (show ¬sN cv=true by decide)]
   rw [hst]
   simp -implicitDefEqProofs only [ay,aht,ahu,ahv,e1',hel,e2,h2d,h1d,hx,e3,q0,t1V,Fy,zL,GI,KM,xg,bJ,jr,bV,e4]
  ·have hl:r.length=3:=by
    have h0:shN eu=3:=by decide
    rw [h0] at hr
    omega
   have e4:=il c x y n eu r hk (.inr (.inr (.inr (.inl ⟨rfl,hl⟩))))
   have hst:bp c eu ⟨⟨[]⟩⟩ r=kG c eu r:=by
    unfold bp
    rw [if_neg h1,if_neg (show ¬sN eu=true by decide)]
   rw [hst]
   simp -implicitDefEqProofs only [ay,aht,ahu,ahv,e1',hel,e2,h2d,h1d,hx,e3,q0,t1V,Km,PQ,KC,MH,MG,bJ,jr,bV,e4]
  ·have hl:r.length=2:=by
    have h0:shN cr=2:=by decide
    rw [h0] at hr
    omega
   have e4:=il c x y n cr r hk (.inr (.inr (.inr (.inr (.inl ⟨rfl,hl⟩)))))
   have hst:bp c cr ⟨⟨[]⟩⟩ r=kG c cr r:=by
    unfold bp
    rw [if_neg h1,if_neg (show ¬sN cr=true by decide)]
   rw [hst]
   simp -implicitDefEqProofs only [ay,aht,ahu,ahv,e1',hel,e2,h2d,h1d,hx,e3,q0,t1V,Il,zN,Gw,KO,xd,bJ,jr,bV,e4]
  ·have hl:r.length=1:=by
    have h0:shN cj=1:=by decide
    rw [h0] at hr
    omega
   have e4:=il c x y n cj r hk (.inr (.inr (.inr (.inr (.inr (.inl ⟨rfl,hl⟩))))))
   have hst:bp c cj ⟨⟨[]⟩⟩ r=kG c cj r:=by
    unfold bp
    rw [if_neg h1,if_neg (show ¬sN cj=true by decide)]
   rw [hst]
   simp -implicitDefEqProofs only [ay,aht,ahu,ahv,e1',hel,e2,h2d,h1d,hx,e3,q0,t1V,FD,zJ,Hh,KZ,xu,bJ,jr,bV,e4]
  ·have hl:r.length=1:=by
    have h0:shN dP=1:=by decide
    rw [h0] at hr
    omega
   have e4:=il c x y n dP r hk (.inr (.inr (.inr (.inr (.inr (.inr (.inl ⟨rfl,hl⟩)))))))
   have hst:bp c dP ⟨⟨[]⟩⟩ r=kG c dP r:=by
    unfold bp
    rw [if_neg h1,if_neg (show ¬sN dP=true by decide)]
   rw [hst]
   simp -implicitDefEqProofs only [ay,aht,ahu,ahv,e1',hel,e2,h2d,h1d,hx,e3,q0,t1V,Ky,QR,KD,Nk,Pw,bJ,jr,bV,e4]
  ·have hl:r.length=0:=by
    have h0:shN bH=0:=by decide
    rw [h0] at hr
    omega
   have e4:=il c x y n bH r hk (.inr (.inr (.inr (.inr (.inr (.inr (.inr (⟨rfl,hl⟩))))))))
   have hst:bp c bH ⟨⟨[]⟩⟩ r=kG c bH r:=by
    unfold bp
    rw [if_neg h1,if_neg (show ¬sN bH=true by decide)]
   rw [hst]
   simp -implicitDefEqProofs only [ay,aht,ahu,ahv,e1',hel,e2,h2d,h1d,hx,e3,q0,t1V,Di,xE,DO,Hm,vQ,bJ,jr,bV,e4]
end Go.Proofs.YtjafgdefcggjcaaGreatDoor

namespace Go.Proofs.YtjafgdefcggjcaaGreatDoor
open Go Go.V
theorem ZI {β:Type} {p:Nat→β→Bool}:∀(l:List β) (s:Nat),(∀(i:Nat) (hi:i<l.length),p (s+i) l[i]=true)→mT p s l=true
 | [],_,_=>rfl
 | x::l,s,h=>by
  simp only [mT,ahy]
  refine⟨h 0 (by simp),ZI l (s+1) fun i hi=>?_⟩
  have:=h (i+1) (by simpa using hi)
  rwa [show s+(i+1)=s+1+i by omega] at this
theorem acH {l:List Slp} {n:Nat} (h:ct l=true) (hv:(cS l n).isSome=true):ct (rsS l (ctl l l.length n))=true:=by
 have h':=h
 have hok:=afR (fun x hx=>eZ h x hx) hv
 have h8:=ef h
 unfold ct at h' ⊢
 simp only [ahy,decide_eq_true_eq] at h' ⊢
 refine⟨ZI _ 0 fun i hi=>?_,by rw [mF];exact h8⟩
 rw [mF] at hi
 have hp:=Pp l 0 h'.1 i hi
 rw [aia] at hp ⊢
 have hc:∀j,j<l.length→j<(ctl l l.length n).length:=fun j hj=>by rw [qM];exact hj
 have ha:=Uy l (ctl l l.length n) i hi (hc i hi)
 have hoki:=hok _ (ahB (show i<(rsS l (ctl l l.length n)).length by rw [mF];exact hi))
 unfold pS at hp ⊢
 simp only [ahy] at hp ⊢
 refine⟨?_,?_⟩
 ·unfold okS
  simp only [ahy,decide_eq_true_eq]
  exact hoki
 ·rw [ha]
  cases i with
  | zero=>rfl
  | succ i =>
   have hi':i<l.length:=by omega
   have hb:=Uy l (ctl l l.length n) i hi' (hc i hi')
   have e1:(rsS l (ctl l l.length n)).getD (i+1 - 1) (0,0)=(rsS l (ctl l l.length n))[i]'(by rw [mF];exact hi'):=by
    rw [aip,ahR,ahH (by rw [mF];exact hi'),ah6]
   have e2:l.getD (i+1 - 1) (0,0)=l[i]:=by
    rw [aip,ahR,ahH hi',ah6]
   rw [e1,hb]
   rw [e2] at hp
   exact hp.2
theorem adG {s:ByteArray} (h:(pSt s).isSome=true):ct (stO (pSt s))=true:=by
 unfold pSt at h ⊢
 split at h
 ·rename_i hc
  rw [if_pos hc]
  exact hc.1
 ·cases h
theorem aeF {s:ByteArray} (h:(pM s).isSome=true):ck (meO (pM s))=true:=by
 obtain⟨ns,hns⟩:=aif.1 h
 obtain⟨h1,h2,-⟩:=YT hns
 rw [hns]
 match ns,h1 with
 | [a,b,c],_=>exact h2
theorem afN {c:Cn} (hk:CnOk c) (w rest:ByteArray):CnOk (QA c w rest).2:=by
 unfold QA
 split
 ·split
  ·rename_i h
   exact⟨hk.m,adG h,hk.t,hk.j,hk.f⟩
  ·exact hk
 ·split
  ·exact hk
  ·rename_i h
   have hp:ck (meO (pM rest))=true:=aeF (by
    cases hq:(pM rest).isSome
    ·exact absurd hq h
    ·rfl)
   split
   ·split
    ·rename_i hj
     exact⟨yB hj,hk.s,hk.t,hk.j,hk.f⟩
    ·exact hk
   ·exact⟨hp,hk.s,hk.t,hk.j,hk.f⟩
theorem afB {c:Cn} (hk:CnOk c) (w:ByteArray) (r:List Int):CnOk (ij c w r).2:=by
 unfold ij
 split
 ·split
  ·exact⟨Ax hk.m,hk.s,hk.t,hk.j,hk.f⟩
  ·exact hk
 split
 ·exact hk
 split
 ·split
  ·rename_i h
   refine⟨hk.m,?_,hk.t,hk.j,hk.f⟩
   have h':=h
   unfold rlB at h'
   simp only [ahy] at h'
   unfold rlV
   rw [if_pos h]
   exact acH hk.s h'.2
  ·exact hk
 split
 ·split
  ·exact⟨hk.m,Pl,hk.t,hk.j,hk.f⟩
  ·exact hk
 ·exact hk
theorem aep {c:Cn} (hk:CnOk c) (w:ByteArray) (r:List Int):CnOk (kG c w r).2:=by
 unfold kG
 split
 ·split
  ·rename_i h
   exact⟨hk.m,hk.s,h,hk.j,hk.f⟩
  ·exact hk
 split
 ·exact hk
 split
 ·exact hk
 split
 ·split
  ·exact⟨hk.m,hk.s,hk.t,Oe _ _,hk.f⟩
  ·exact hk
 split
 ·exact hk
 split
 ·exact hk
 split
 ·split
  ·rename_i h
   refine⟨hk.m,hk.s,hk.t,hk.j,?_,?_⟩
   ·unfold pX at h
    simp only [ahy,decide_eq_true_eq] at h
    exact h.2
   ·unfold pX at h
    simp only [ahy,ahA,decide_eq_true_eq] at h
    intro f hf
    have hb:=h.1 f hf
    rcases List.mem_append.1 hf with g | g
    ·exact hk.f.2 f g
    ·rw [aiq] at g
     subst g
     dsimp only at hb ⊢
     exact⟨by omega,rfl⟩
  ·exact hk
 ·exact hk
theorem aea {c:Cn} (hk:CnOk c) (t:ByteArray):CnOk (dY c t).2:=by
 unfold dY
 split
 ·exact hk
 ·unfold bp
  split
  ·exact afN hk _ _
  ·split
   ·exact afB hk _ _
   ·exact aep hk _ _
def cn0:Cn:={m:=m0,s:=[],t:=[0],j:=⟨⟨[]⟩⟩,f:=[]}
theorem agi:CnOk cn0:=⟨rfl,rfl,rfl,ahN _,ahN _,fun f hf=>by cases hf⟩
def aU (s:ByteArray):List ByteArray:=(aB 10 s).take ((aB 10 s).length - 1)
def mi (s:ByteArray):Bool:=decide (s.size≤2000)&&(decide (s=⟨⟨[]⟩⟩)||decide ((ac s).getLast?=some 10))
def okC (s:ByteArray):Bool:=mi s&&decide ((aU s).length≤40)
theorem NI (s:ByteArray) (h:s.size≤1048576):ni [T s]=some (.ret [txs (if mi s=true then aU s else []),B (okC s)] []):=by
 rw [NU]
 have e1:bU [T s,D.v (ahz IntKind.u8 10)]=some (.ret [txs (aB 10 s)] []):=fK s 10 (by omega)
 have hne:0<(aB 10 s).length:=by
  rw [eK]
  exact aim.2 (em _ _)
 have hwl:(aB 10 s).length≤1048577:=by
  rw [eK]
  have h1:=eJ 10 (ac s)
  have h2:=cQ s
  omega
 have a3:ahx.wrap (((aB 10 s).length:Int) - 1)=(((aB 10 s).length - 1:Nat):Int):=by rw [ah (by omega) (by omega)];omega
 have hx:dW false 1 (txs (aB 10 s)) (D.v (ahz ahx 0)) (I (((aB 10 s).length - 1:Nat):Int))=some (txs (aU s)):=by
  have:=lQ (z:=1) (l:=(aB 10 s).map T) (i:=0) (j:=(aB 10 s).length - 1) (k:=.i64) (k':=.i64) (ahN _) (by simp)
  have e:dW false 1 (txs (aB 10 s)) (D.v (ahz ahx 0)) (I (((aB 10 s).length - 1:Nat):Int))=_:=this
  rw [e]
  unfold aU
  simp [List.map_take]
 have h40:decide (((aU s).length:Int)≤40)=decide ((aU s).length≤40):=by
  by_cases h:(aU s).length≤40
  ·rw [decide_eq_true h,decide_eq_true (by omega)]
  ·rw [decide_eq_false h,decide_eq_false (by omega)]
 unfold okC
 by_cases h1:s.size≤2000
 ·have h1':¬(2000:Int)<s.size:=by omega
  by_cases h2:s=⟨⟨[]⟩⟩
  ·have hE:mi s=true:=by
    unfold mi
    rw [decide_eq_true h1,decide_eq_true h2]
    rfl
   have hq:bin BinOp.neq false [] (T s) (D.v (ahX {data:={toList:=[]}}))=some (B false):=by
    rw [jI,h2]
    rfl
   rw [hE]
   simp -implicitDefEqProofs only [ay,aht,ahu,ahv,h1',hq,e1,a3,hx,h40,ahY]
  ·have hq:bin BinOp.neq false [] (T s) (D.v (ahX {data:={toList:=[]}}))=some (B true):=by
    rw [jI,decide_eq_false h2]
    rfl
   have hlen:0<(ac s).length:=by
    rcases Nat.eq_zero_or_pos (ac s).length with e | e
    ·exfalso
     apply h2
     apply bK
     rw [ahE e]
     rfl
    ·exact e
   have hsz:s.size=(ac s).length:=rfl
   have a4:ahx.wrap ((s.size:Int) - 1)=((s.size - 1:Nat):Int):=by rw [ah (by omega) (by omega)];omega
   have hch:jW (T s) (I ((s.size - 1:Nat):Int))=some (U ((ac s)[s.size - 1]'(by omega)).toNat):=by
    have:=oe (s:=s) (k:=.i64) (i:=s.size - 1)
    rw [ahH (by omega)] at this
    exact this
   have hlast:(ac s).getLast?=some ((ac s)[s.size - 1]'(by omega)):=by
    rw [List.getLast?_eq_getElem?,ahH (by omega)]
    rfl
   generalize (ac s)[s.size - 1]'(by omega)=v at hch hlast
   by_cases hv:v=10
   ·have hE:mi s=true:=by
     unfold mi
     rw [hlast,hv,decide_eq_true h1]
     simp
    have hv':(v.toNat:Int)=10:=by rw [hv];rfl
    rw [hE]
    simp -implicitDefEqProofs only [ay,aht,ahu,ahv,h1',hq,a4,hch,hv',e1,a3,hx,h40,ahY,ne_eq,not_true_eq_false]
   ·have hE:mi s=false:=by
     unfold mi
     rw [hlast,decide_eq_false h2]
     simp [hv]
    have hv':¬(v.toNat:Int)=10:=fun e=>hv (UInt8.toNat_inj.1 (by have e2:(10:UInt8).toNat=10:=rfl;omega))
    rw [hE]
    simp -implicitDefEqProofs only [ay,aht,ahu,ahv,h1',hq,a4,hch,hv',e1,ah3,ne_eq,not_false_eq_true]
    rfl
 ·have h1':(2000:Int)<s.size:=by omega
  have hE:mi s=false:=by
   unfold mi
   rw [decide_eq_false h1,ah3]
  rw [hE]
  simp -implicitDefEqProofs only [ay,aht,ahu,ahv,h1',ah3]
  rfl
end Go.Proofs.YtjafgdefcggjcaaGreatDoor

namespace Go.Proofs.YtjafgdefcggjcaaGreatDoor
open Go Go.V
theorem Sb:∀(l:List Slp),(∀x∈l,(1≤x.1∧x.1≤200)∧0≤x.2∧x.2≤20)→(stT l).size≤8*l.length
 | [],_=>ahN _
 | x::l,h=>by
  have ih:=Sb l fun y hy=>h y (by simp [hy])
  have h1:=(HU (h x (by simp))).2.2
  simp only [stT,ahI,ahQ]
  omega
theorem sd {n:Int} (h0 : -1000000000000000000<n) (h1:n<1000000000000000000):(aJ n).size≤21:=by
 have:=nR (c:=32) (ns:=[n]) (tQ fun x hx=>by rw [aiq] at hx;subst hx;exact⟨h0,h1⟩)
 rw [JX] at this
 simpa using this
theorem aac {m:Me} (h:ck m=true):(mtT m).size≤57:=by
 have:=ED (c:=45) (ns:=meL m) fun n hn=>by have:=UA h n hn;omega
 exact this
theorem acY {f:List Fo} (h:abp f):(Yg f).size≤100:=by
 have hl:=EK h.1 h.2
 obtain⟨f1,f2,f3,f4,f5,f6,f7⟩:=YH hl
 have hH:=ahA.1 wU f hl
 unfold okH at hH
 simp only [ahy,decide_eq_true_eq,ahA] at hH
 obtain⟨⟨⟨⟨⟨⟨_,_⟩,h3⟩,h4⟩,h5⟩,h6⟩,h7⟩:=hH
 have hlen:=(vX (cZ f) (cZ f).length (ahC _)).1
 rw [←Ox] at hlen
 unfold Yg
 rw [←RW]
 have:=EM (szF f).1 (At f (cZ f).length).1 (fun n hn=>by have:=f7 n hn;omega) _ (ahC _)
 omega
theorem RU {c:Cn} (hk:CnOk c) (t:ByteArray):(dY c t).1.size≤1000:=by
 have s2:okT.size=2:=rfl
 have s3:noT.size=2:=rfl
 have s4:fv.size=4:=rfl
 unfold dY
 split
 ·exact ahD (ahG s4) (by decide)
 ·unfold bp
  split
  ·unfold QA
   split
   ·split
    ·exact ahD (ahG s2) (by decide)
    ·exact ahD (ahG s3) (by decide)
   ·split
    ·exact ahD (ahG s3) (by decide)
    ·split
     ·split
      ·rename_i hj
       have:=aac (yB hj)
       dsimp only
       omega
      ·exact ahD (ahG s3) (by decide)
     ·exact ahD (ahG s2) (by decide)
  ·split
   ·rename_i w rest r _ _ _
    unfold ij
    split
    ·split
     ·have:=aac (Ax (g:=r.getD 0 0) hk.m)
      dsimp only
      omega
     ·exact ahD (ahG s3) (by decide)
    split
    ·dsimp only
     split
     ·have hb:∀z∈shR c.m,0≤z∧z≤1000:=by
       unfold shR
       split
       ·rename_i h
        exact(Vj h).2.2
       ·contradiction
      have hl3:(shR c.m).length≤3:=by
       unfold shR
       split
       ·exact ahC 3
       ·contradiction
      have:=nR (c:=32) (ns:=shR c.m) (tQ fun z hz=>by have:=hb z hz;omega)
      omega
     ·exact ahD (ahG s3) (by decide)
    split
    ·split
     ·obtain⟨hv1,hv2⟩:=AX (n:=r.getD 0 0) hk.s
      have:=nR (c:=32) (ns:=rlV c.s (r.getD 0 0)) (tQ fun z hz=>by have:=hv2 z hz;omega)
      dsimp only
      omega
     ·exact ahD (ahG s3) (by decide)
    split
    ·split
     ·have hck:=Pl (l:=c.s) (i:=r.getD 0 0) (n:=r.getD 1 0)
      have:=Sb _ (eZ hck)
      have:=ef hck
      dsimp only
      omega
     ·exact ahD (ahG s3) (by decide)
    ·dsimp only
     split
     ·have hmb:=Zb (l:=c.s) (n:=r.getD 0 0)
      have:=sd (n:=zP c.s (r.getD 0 0)) (by omega) (by omega)
      omega
     ·exact ahD (ahG s3) (by decide)
   ·rename_i w rest r _ _ _
    obtain⟨t1,t2,t3⟩:=qU hk.t
    unfold kG
    split
    ·split
     ·have:=sd (n:=((c.t.length+1:Nat):Int)) (by omega) (by omega)
      dsimp only
      omega
     ·exact ahD (ahG s3) (by decide)
    split
    ·have hb:=YZ hk.t
     have:=sd (n:=ER c.t) (by omega) (by omega)
     dsimp only
     omega
    split
    ·have hb:=Uj c.t c.t.length (ahC _)
     have hbb:∀z∈[((fW c.t c.t.length).1:Int),((fW c.t c.t.length).2:Int)],-1000000000000000000<z∧z<1000000000000000000:=by
      intro z hz
      simp only [aik,aiu,or_false] at hz
      rcases hz with rfl | rfl<;>omega
     have:=nR (c:=32) (ns:=[((fW c.t c.t.length).1:Int),((fW c.t c.t.length).2:Int)]) (tQ hbb)
     dsimp only
     simp only [ahQ,List.length_nil] at this
     omega
    split
    ·split
     ·have hl:=tr (anS c.j (r.getD 0 0,r.getD 1 0,r.getD 2 0)).1
      have:=sd (n:=((jrS (anS c.j (r.getD 0 0,r.getD 1 0,r.getD 2 0)).1).1.length:Int)) (by omega) (by omega)
      dsimp only
      omega
     ·exact ahD (ahG s3) (by decide)
    split
    ·dsimp only
     split
     ·rename_i hq
      have hb:=Ul (l:=(jrS c.j).1) (s:=r.getD 0 0) (d:=r.getD 1 0)
      rw [if_pos hq] at hb
      have:=sd (n:=bB (jrS c.j).1 (r.getD 0 0) (r.getD 1 0)) (by omega) (by omega)
      omega
     ·exact ahD (ahG s3) (by decide)
    split
    ·dsimp only
     split
     ·have hb:=Un (l:=(jrS c.j).1) (s:=r.getD 0 0)
      have:=sd (n:=(gu (jrS c.j).1 (r.getD 0 0)).1) (by omega) (by omega)
      omega
     ·exact ahD (ahG s3) (by decide)
    split
    ·split
     ·have h4:=hk.f.1
      have:=sd (n:=((c.f.length+1:Nat):Int)) (by omega) (by omega)
      dsimp only
      omega
     ·exact ahD (ahG s3) (by decide)
    ·have:=acY hk.f
     dsimp only
     omega
structure Rn where
 c:Cn
 out:ByteArray
 no:List Int
 wh:List Int
def nB (a:Rn) (i:Nat) (l:ByteArray):Rn :=
 {c:=(dY a.c l).2,out:=a.out++((dY a.c l).1++⟨⟨[10]⟩⟩),no:=if (dY a.c l).1=noT then a.no++[((i+1:Nat):Int)] else a.no,
  wh:=if (dY a.c l).1=fv then a.wh++[((i+1:Nat):Int)] else a.wh}
def dD (L:List ByteArray):Nat→Rn
 | 0=>{c:=cn0,out:=⟨⟨[]⟩⟩,no:=[],wh:=[]}
 | i+1=>nB (dD L i) i (L.getD i ⟨⟨[]⟩⟩)
theorem Bm (L:List ByteArray):∀i,CnOk (dD L i).c∧(dD L i).out.size≤1001*i∧(dD L i).no.length≤i∧(dD L i).wh.length≤i
 | 0=>⟨agi,ahN _,ahN _,ahN _⟩
 | i+1=>by
  obtain⟨h1,h2,h3,h4⟩:=Bm L i
  have hs:=RU h1 (L.getD i ⟨⟨[]⟩⟩)
  refine⟨aea h1 _,?_,?_,?_⟩
  ·show((dD L i).out++((dY (dD L i).c (L.getD i ⟨⟨[]⟩⟩)).1++⟨⟨[10]⟩⟩)).size≤_
   rw [ahI,ahI,Uu]
   omega
  ·show(if _ then _ else _:List Int).length≤_
   split
   ·simp;omega
   ·omega
  ·show(if _ then _ else _:List Int).length≤_
   split
   ·simp;omega
   ·omega
end Go.Proofs.YtjafgdefcggjcaaGreatDoor

namespace Go.Proofs.YtjafgdefcggjcaaGreatDoor
open Go Go.V Go.RowKit Go.Shelf
def cnL (c:Cn) (x y:Value) (n:Int):List D:=[I c.m.1,I c.m.2.1,I c.m.2.2,sls c.s,ai c.t,T c.j,fos c.f,.raw x,.raw y,I n]
theorem ae0 {w:World} {F:Nat→Prop} {own:Nat→Prop} {c:Cn} {x y:Value} {n:Int} {b t:Nat} {us:List Value} (hk:w.heap[b]?=some (.cells us.toArray t (0,0))) (hr:bZ w F (cnL c x y n) us) (ho:own b) :
  Fv w F own 10 (cnD c x y n) (.pointer (some ⟨b,0,none⟩)):=⟨cnL c x y n,us,b,t,rfl,rfl,hk,hr,rfl,rfl,ho⟩
structure LineL (w w':World) (F F':Nat→Prop) (b:Nat) (c:Cn) (x y:Value) (us:List Value) (t:Nat):Prop where
 os:w'.os=w.os
 tape:w'.tape=w.tape
 output:w'.output=w.output
 size:w.heap.size≤w'.heap.size
 keep:∀k,k<w.heap.size→k≠b→w'.heap[k]?=w.heap[k]?
 f0:∀k,F k→F' k
 fn:∀k,F' k→(F k∨w.heap.size≤k)∧k<w'.heap.size
 box:w'.heap[b]?=some (.cells us.toArray t (0,0))
 rep:bZ w' F' (cnL c x y 0) us
set_option maxRecDepth 100000 in
theorem aaQ {w:World} {F:Nat→Prop} {b t:Nat} {us:List Value} {c:Cn} {x y:Value} (hF:∀k,F k→k<w.heap.size∧k≠b) (hgl:gOk gl0 w F) (hk:w.heap[b]?=some (.cells us.toArray t (0,0))) (hr:bZ w F (cnL c x y 0) us) (hc:CnOk c) (s:ByteArray) (hs:s.size≤1000000) :
  Calls Tryz.prog 57 #[.pointer (some ⟨b,0,none⟩),.string s] w fun e w'=>e = .returned (.string (dY c s).1)∧∃F' us' t',LineL w w' F F' b (dY c s).2 x y us' t':=by
 have hb:b<w.heap.size:=(ahZ.1 hk).1
 have he:=VW c x y 0 s hc hs
 have ha:fG w F (fun k=>if k=b then some 0 else none) 0 qx.pm [cnD c x y 0,T s] (#[Value.pointer (some ⟨b,0,none⟩),.string s]:Array Value).toList :=
  show eD w F (fun g=>(if g=b then some 0 else none)=some 0) (.box 10 2 true) (cnD c x y 0) (.pointer (some ⟨b,0,none⟩))∧eD w F _ (.dat 0) (T s) (.string s)∧True from
   ⟨.inr (ae0 hk hr (by simp)),.inr (cb.2 ⟨rfl,rfl⟩),trivial⟩
 refine(lD (aib Tryz.func57 (by kernel_rfl) rfl) BF he hgl ha (fun k hk'=>⟨(hF k hk').1,if_neg (hF k hk').2⟩) (fun k i h=>by
  split at h
  ·rename_i e
   rw [e]
   exact hb
  ·cases h)).mono ?_
 rintro e w' ⟨v,rfl,F',R,vs,rfl,hpost⟩
 have hl:=hpost.len
 match vs,hl with
 | [y0],hl =>
  have r0:=(hpost.res 0).resolve_left (by intro h;cases h)
  replace r0:bP w' _ (T (dY c s).1) y0:=r0
  obtain⟨rfl,-⟩:=cb.1 r0
  refine⟨rfl,?_⟩
  have hu:=hpost.us
  replace hu:cnD (dY c s).2 x y 0 ≠ .bad∧eD w' F' (fun _=>True) (.box 10 2 true) (cnD (dY c s).2 x y 0) (.pointer (some ⟨b,0,none⟩))∧True:=hu
  have hbx:=hu.2.1.resolve_left hu.1
  replace hbx:Fv w' F' (fun _=>True) 10 (cnD (dY c s).2 x y 0) (.pointer (some ⟨b,0,none⟩)):=hbx
  obtain⟨l,us',g,t',h1,h2,h3,h4,h5,h6,-⟩:=hbx
  cases h1
  cases h2
  exact⟨F',us',t',⟨hpost.os,hpost.tape,hpost.output,hpost.size,fun k hk' hne=>hpost.keep k hk' (if_neg hne),hpost.f0,fun k hk'=>⟨(hpost.fn k hk').1,(hpost.fn k hk').2.1⟩,h3,h4⟩⟩
set_option maxRecDepth 100000 in
theorem Pe {w:World} {F:Nat→Prop} (hF:∀b,F b→b<w.heap.size) (hgl:gOk gl0 w F) (s:ByteArray) (hs:s.size≤1048576) :
  Calls Tryz.prog 55 #[.string s] w fun e w'=>Below w.heap.size w w'∧∃A c,e = .returned (.tuple #[.slice A (if mi s=true then aU s else []).length c,.bool (okC s)]) ∧
   ((if mi s=true then aU s else [])≠[]→∃b o,A=some ⟨b,o,none⟩∧b<w'.heap.size∧w.heap.size≤b∧∀(i:Nat) (x:ByteArray),(if mi s=true then aU s else [])[i]?=some x→w'.cell? ⟨b,o+i,none⟩=some (.string x)):=by
 refine(sr (aib Tryz.func55 (by kernel_rfl) rfl) Ow ni rfl (NI s hs) (args:=#[.string s]) hgl (show eD w F _ (.dat 0) (T s) (.string s)∧True from⟨.inr (cb.2 ⟨rfl,rfl⟩),trivial⟩) hF).mono ?_
 rintro e w' ⟨hB,F',R,vs,rfl,hpost⟩
 refine⟨hB,?_⟩
 generalize (if mi s=true then aU s else [])=L at *
 have hl:=hpost.len
 match vs,hl with
 | [y0,y1],hl =>
  have r0:=(hpost.res 0).resolve_left (by intro h;cases h)
  have r1:=(hpost.res 1).resolve_left (by intro h;cases h)
  replace r0:bP w' _ (txs L) y0:=r0
  replace r1:bP w' _ (B (okC s)) y1:=r1
  obtain⟨rfl,-⟩:=cb.1 r1
  obtain⟨A,c,us,h1,h2,h3,h4,h5⟩:=pI r0
  have hus:∀(l:List ByteArray) (us:List Value) (G:Nat→Prop),bZ w' G (l.map T) us→us=l.map ahX:=by
   intro l
   induction l with
   | nil=>intro us G h;exact aV.1 h
   | cons x l ih =>
    intro us G h
    obtain⟨v1,v2,rfl,q1,q2⟩:=aw.1 h
    simp only [RepC] at q1
    rw [ih v2 G q2,q1.1]
    rfl
  rw [hus _ _ _ h3] at h5
  rw [ahP] at h1
  refine⟨A,c,by rw [h1];rfl,fun hne=>?_⟩
  obtain⟨b,o,h6,h7,h8⟩:=h5 (by simpa using hne)
  exact⟨b,o,h6,(hpost.fn b h7.1).2.1,h7.2,fun i x hx=>h8 i _ (by rw [List.getElem?_map,hx];rfl)⟩
abbrev us0 (b:Nat):List Value:=[.int .i64 0,.int .i64 0,.int .i64 0,.slice none 0 0,.slice (some ⟨b,0,none⟩) 1 1,.string ⟨#[]⟩,.slice none 0 0,.slice none 0 0,.slice none 0 0,.int .i64 0]
abbrev wS (w:World):World:=(w.alloc (.cells #[.int .i64 0] 3)).alloc (.cells (us0 w.heap.size).toArray 59)
set_option maxHeartbeats 4000000 in
set_option maxRecDepth 1000000 in
theorem My (w:World):Calls Tryz.prog 56 #[] w fun e w'=>e = .returned (.pointer (some ⟨w.heap.size+1,0,none⟩))∧w'=wS w:=by
 go_enter Tryz.func56,Tryz.ntmps56
 go_wp2
 go_ret
 exact⟨rfl,rfl⟩
theorem OR {w:World} {F:Nat→Prop} {c:Cn} {x y:Value} {n:Int} {us:List Value} (h:bZ w F (cnL c x y n) us) :
  ∃sV tV fV,us=[.int .i64 c.m.1,.int .i64 c.m.2.1,.int .i64 c.m.2.2,sV,tV,.string c.j,fV,x,y,.int .i64 n]∧RepC w F (sls c.s) [sV]∧RepC w F (ai c.t) [tV]∧RepC w F (fos c.f) [fV]∧(∃A k d,x = .slice A k d)∧∃A k d,y = .slice A k d:=by
 unfold cnL at h
 obtain⟨v0,r0,rfl,g0,h⟩:=aw.1 h
 obtain⟨v1,r1,rfl,g1,h⟩:=aw.1 h
 obtain⟨v2,r2,rfl,g2,h⟩:=aw.1 h
 obtain⟨v3,r3,rfl,g3,h⟩:=aw.1 h
 obtain⟨v4,r4,rfl,g4,h⟩:=aw.1 h
 obtain⟨v5,r5,rfl,g5,h⟩:=aw.1 h
 obtain⟨v6,r6,rfl,g6,h⟩:=aw.1 h
 obtain⟨v7,r7,rfl,g7,h⟩:=aw.1 h
 obtain⟨v8,r8,rfl,g8,h⟩:=aw.1 h
 obtain⟨v9,r9,rfl,g9,h⟩:=aw.1 h
 obtain rfl:=aV.1 h
 obtain⟨sV,rfl,-⟩:=lh _ _ rfl g3
 obtain⟨tV,rfl,-⟩:=lh _ _ rfl g4
 obtain⟨fV,rfl,-⟩:=lh _ _ rfl g6
 simp only [RepC] at g0 g1 g2 g5 g7 g8 g9
 obtain⟨rfl,-⟩:=g0
 obtain⟨rfl,-⟩:=g1
 obtain⟨rfl,-⟩:=g2
 obtain⟨rfl,-⟩:=g5
 obtain⟨rfl,g7⟩:=g7
 obtain⟨rfl,g8⟩:=g8
 obtain⟨rfl,-⟩:=g9
 exact⟨sV,tV,fV,rfl,g3,g4,g6,g7,g8⟩
theorem Yw {w:World} {F:Nat→Prop} {c:Cn} {x y:Value} {n:Int} {sV tV fV:Value} (h3:RepC w F (sls c.s) [sV]) (h4:RepC w F (ai c.t) [tV]) (h6:RepC w F (fos c.f) [fV]) (hx:∃A k d,x = .slice A k d) (hy:∃A k d,y = .slice A k d) :
  bZ w F (cnL c x y n) [.int .i64 c.m.1,.int .i64 c.m.2.1,.int .i64 c.m.2.2,sV,tV,.string c.j,fV,x,y,.int .i64 n]:=by
 unfold cnL
 refine aw.2 ⟨[_],_,rfl,kM rfl,aw.2 ⟨[_],_,rfl,kM rfl,aw.2 ⟨[_],_,rfl,kM rfl,aw.2 ⟨[_],_,rfl,h3,aw.2 ⟨[_],_,rfl,h4,aw.2 ⟨[_],_,rfl,kM rfl,aw.2 ⟨[_],_,rfl,h6,aw.2 ⟨[_],_,rfl,?_,aw.2 ⟨[_],_,rfl,?_,aw.2 ⟨[_],[],rfl,kM rfl,aV.2 rfl⟩⟩⟩⟩⟩⟩⟩⟩⟩⟩
 ·simp only [RepC]
  exact⟨trivial,hx⟩
 ·simp only [RepC]
  exact⟨trivial,hy⟩
structure RunI (w W2 wr:World) (F F':Nat→Prop) (a:Rn) (us:List Value) (t:Nat) (nv wv:Value):Prop where
 bx:wr.heap[w.heap.size+1]?=some (.cells us.toArray t (0,0))
 rep:bZ wr F' (cnL a.c nv wv 0) us
 f0:∀k,F k→F' k
 fn:∀k,F' k→(F k∨w.heap.size≤k)∧k<wr.heap.size∧k≠w.heap.size+1∧nv.ownBlock≠some k∧wv.ownBlock≠some k
 no:wr.ownsRow W2.heap.size 3 1 nv a.no.length (a.no.map (ahz .i64))
 wh:wr.ownsRow W2.heap.size 3 1 wv a.wh.length (a.wh.map (ahz .i64))
 ap:∀k,nv.ownBlock=some k→wv.ownBlock≠some k
 bl:Below w.heap.size w wr
 sz:W2.heap.size≤wr.heap.size
 old:∀k,k<W2.heap.size→k≠w.heap.size+1→wr.heap[k]?=W2.heap[k]?
theorem wG {W:World} {base e size n:Nat} {v:Value} {xs:List Value} (h:W.ownsRow base e size v n xs) {k:Nat} (hk:v.ownBlock=some k):k<W.heap.size:=by
 obtain⟨_,⟨rfl,_⟩ | ⟨g,cap,cur,rfl,hge,hg,_⟩⟩:=h
 ·simp [aiA] at hk
 ·simp only [aiA,ahV] at hk
  subst hk
  exact(ahZ.1 hg).1
theorem su {W W':World} {base e size n:Nat} {v:Value} {xs:List Value} (h:W.ownsRow base e size v n xs) (hk:∀k,v.ownBlock=some k→W'.heap[k]?=W.heap[k]?):W'.ownsRow base e size v n xs:=by
 obtain⟨h1,h2 | ⟨g,cap,cur,rfl,h3,h4,r⟩⟩:=h
 ·exact⟨h1,.inl h2⟩
 ·exact⟨h1,.inr ⟨g,cap,cur,rfl,h3,(hk g rfl).trans h4,r⟩⟩
theorem aaN {w W2 wr wr':World} {F F' F2:Nat→Prop} {a:Rn} {us us2:List Value} {t t2:Nat} {nv wv:Value} {l:ByteArray} (h:RunI w W2 wr F F' a us t nv wv) (hb2:w.heap.size+1<W2.heap.size) (hl:LineL wr wr' F' F2 (w.heap.size+1) (dY a.c l).2 nv wv us2 t2) :
  RunI w W2 wr' F F2 {a with c:=(dY a.c l).2} us2 t2 nv wv:=by
 have hkn:∀k,nv.ownBlock=some k→wr'.heap[k]?=wr.heap[k]?:=fun k hk=>hl.keep k (wG h.no hk) (by have:=hX h.no hk;omega)
 have hkw:∀k,wv.ownBlock=some k→wr'.heap[k]?=wr.heap[k]?:=fun k hk=>hl.keep k (wG h.wh hk) (by have:=hX h.wh hk;omega)
 refine⟨hl.box,hl.rep,fun k hk=>hl.f0 k (h.f0 k hk),fun k hk=>?_,su h.no hkn,su h.wh hkw,h.ap,?_,ahD h.sz hl.size,fun k hk hne=>(hl.keep k (ah2 hk h.sz) hne).trans (h.old k hk hne)⟩
 ·obtain⟨h1,h2⟩:=hl.fn k hk
  have hsz:=h.sz
  have hws:=h.bl.size
  rcases h1 with h1 | h1
  ·obtain⟨g1,g2,g3,g4,g5⟩:=h.fn k h1
   exact⟨g1,h2,g3,g4,g5⟩
  ·refine⟨.inr (by omega),h2,by omega,fun e=>?_,fun e=>?_⟩
   ·have:=wG h.no e
    omega
   ·have:=wG h.wh e
    omega
 ·exact h.bl.trans ⟨hl.os,hl.tape,hl.output,hl.size,fun k hk=>hl.keep k (by have:=h.bl.size;omega) (by omega)⟩
end Go.Proofs.YtjafgdefcggjcaaGreatDoor

namespace Go.Proofs.YtjafgdefcggjcaaGreatDoor
open Go Go.V Go.RowKit Go.Shelf
theorem aef {w W2 wr w2:World} {F F':Nat→Prop} {a:Rn} {us:List Value} {t:Nat} {nv wv v':Value} {o:Obj} {z:Int} (h:RunI w W2 wr F F' a us t nv wv) (hb2:w.heap.size+1<W2.heap.size)
  (hown:w2.ownsRow W2.heap.size 3 1 v' (a.no.length+1) (a.no.map (ahz .i64)++[.int .i64 z])) (hgrow:(wr.alloc o).grownBy w2 nv.ownBlock) (hat:v'.ownBlock=nv.ownBlock∨v'.ownBlock=some (wr.alloc o).heap.size) :
  ∃us' t',RunI w W2 (w2.setCell ⟨w.heap.size+1,7,none⟩ v') F F' {a with no:=a.no++[z]} us' t' v' wv:=by
 obtain⟨g',cap',rfl⟩:=nY hown
 have hsza:(wr.alloc o).heap.size=wr.heap.size+1:=by simp
 have hbox:w2.heap[w.heap.size+1]?=_:=eA h.bx hgrow (fun e=>by have:=hX h.no e;omega)
 obtain⟨sV,tV,fV,rfl,r3,r4,r6,r7,r8⟩:=OR h.rep
 have hset:=heap_setCell_same _ (w.heap.size+1) 7 _ _ (.slice (some ⟨g',0,none⟩) (a.no.length+1) cap') hbox
 have hkeep:∀k,k<wr.heap.size→k≠w.heap.size+1→nv.ownBlock≠some k→(w2.setCell ⟨w.heap.size+1,7,none⟩ (.slice (some ⟨g',0,none⟩) (a.no.length+1) cap')).heap[k]?=wr.heap[k]?:=by
  intro k hk hne hn
  rw [heap_setCell_other _ _ _ _ (by simpa using hne)]
  rw [hgrow.block k (by omega) (fun e=>hn e.symm)]
  exact heap_alloc_old wr o hk
 have hmono:∀k,F' k→(w2.setCell ⟨w.heap.size+1,7,none⟩ (.slice (some ⟨g',0,none⟩) (a.no.length+1) cap')).heap[k]?=wr.heap[k]?:=fun k hk=>by
  obtain⟨-,g2,g3,g4,g5⟩:=h.fn k hk
  exact hkeep k g2 g3 g4
 have hsz2:wr.heap.size+1≤w2.heap.size:=by have:=hgrow.size;omega
 have hszs:(w2.setCell ⟨w.heap.size+1,7,none⟩ (.slice (some ⟨g',0,none⟩) (a.no.length+1) cap')).heap.size=w2.heap.size:=by simp [ail]
 have hg:(aii (some ⟨g',0,none⟩) (a.no.length+1) cap').ownBlock=some g':=rfl
 have hgn:g'≠w.heap.size+1:=fun e=>by
  have:=hX hown hg
  omega
 have hws:=h.bl.size
 have hRz:=h.sz
 refine⟨_,_,⟨hset,Yw (RepC_mono (fun _ h=>h) hmono _ _ r3) (RepC_mono (fun _ h=>h) hmono _ _ r4) (RepC_mono (fun _ h=>h) hmono _ _ r6) ⟨_,_,_,rfl⟩ r8,h.f0,fun k hk=>?_,?_,?_,?_,?_,by rw [hszs];omega,fun k hk hne=>(hkeep k (by omega) hne (fun e=>by have:=hX h.no e;omega)).trans (h.old k hk hne)⟩⟩
 ·obtain⟨g1,g2,g3,g4,g5⟩:=h.fn k hk
  have hnew:(aii (some ⟨g',0,none⟩) (a.no.length+1) cap').ownBlock≠some k:=fun e=>by
   rcases hat with e2 | e2
   ·rw [e2] at e
    exact g4 e
   ·rw [e2] at e
    simp only [ahV] at e
    omega
  exact⟨g1,by rw [hszs];omega,g3,hnew,g5⟩
 ·have e:({a with no:=a.no++[z]}:Rn).no.length=a.no.length+1:=by simp
  have e2:({a with no:=a.no++[z]}:Rn).no.map (ahz .i64)=a.no.map (ahz .i64)++[.int .i64 z]:=by simp
  rw [e,e2]
  exact su hown fun k hk=>heap_setCell_other _ _ _ _ (by
   rw [hg] at hk
   cases hk
   simpa using hgn)
 ·exact su h.wh fun k hk=>hkeep k (wG h.wh hk) (by have:=hX h.wh hk;omega) (fun e=>h.ap k e hk)
 ·intro k hk
  rcases hat with e2 | e2
  ·rw [e2] at hk
   exact h.ap k hk
  ·rw [e2] at hk
   simp only [ahV] at hk
   intro e
   have:=wG h.wh e
   omega
 ·have b1:Below w.heap.size w w2:=(h.bl.alloc h.bl.size o).grown hgrow (by omega) (fun j hj=>by have:=hX h.no hj;omega)
  exact b1.setCell (by simp) _
theorem aez {w W2 wr w2:World} {F F':Nat→Prop} {a:Rn} {us:List Value} {t:Nat} {nv wv v':Value} {o:Obj} {z:Int} (h:RunI w W2 wr F F' a us t nv wv) (hb2:w.heap.size+1<W2.heap.size)
  (hown:w2.ownsRow W2.heap.size 3 1 v' (a.wh.length+1) (a.wh.map (ahz .i64)++[.int .i64 z])) (hgrow:(wr.alloc o).grownBy w2 wv.ownBlock) (hat:v'.ownBlock=wv.ownBlock∨v'.ownBlock=some (wr.alloc o).heap.size) :
  ∃us' t',RunI w W2 (w2.setCell ⟨w.heap.size+1,8,none⟩ v') F F' {a with wh:=a.wh++[z]} us' t' nv v':=by
 obtain⟨g',cap',rfl⟩:=nY hown
 have hsza:(wr.alloc o).heap.size=wr.heap.size+1:=by simp
 have hbox:w2.heap[w.heap.size+1]?=_:=eA h.bx hgrow (fun e=>by have:=hX h.wh e;omega)
 obtain⟨sV,tV,fV,rfl,r3,r4,r6,r7,r8⟩:=OR h.rep
 have hset:=heap_setCell_same _ (w.heap.size+1) 8 _ _ (.slice (some ⟨g',0,none⟩) (a.wh.length+1) cap') hbox
 have hkeep:∀k,k<wr.heap.size→k≠w.heap.size+1→wv.ownBlock≠some k→(w2.setCell ⟨w.heap.size+1,8,none⟩ (.slice (some ⟨g',0,none⟩) (a.wh.length+1) cap')).heap[k]?=wr.heap[k]?:=by
  intro k hk hne hn
  rw [heap_setCell_other _ _ _ _ (by simpa using hne)]
  rw [hgrow.block k (by omega) (fun e=>hn e.symm)]
  exact heap_alloc_old wr o hk
 have hmono:∀k,F' k→(w2.setCell ⟨w.heap.size+1,8,none⟩ (.slice (some ⟨g',0,none⟩) (a.wh.length+1) cap')).heap[k]?=wr.heap[k]?:=fun k hk=>by
  obtain⟨-,g2,g3,g4,g5⟩:=h.fn k hk
  exact hkeep k g2 g3 g5
 have hsz2:wr.heap.size+1≤w2.heap.size:=by have:=hgrow.size;omega
 have hszs:(w2.setCell ⟨w.heap.size+1,8,none⟩ (.slice (some ⟨g',0,none⟩) (a.wh.length+1) cap')).heap.size=w2.heap.size:=by simp [ail]
 have hg:(aii (some ⟨g',0,none⟩) (a.wh.length+1) cap').ownBlock=some g':=rfl
 have hgn:g'≠w.heap.size+1:=fun e=>by
  have:=hX hown hg
  omega
 have hws:=h.bl.size
 have hRz:=h.sz
 refine⟨_,_,⟨hset,Yw (RepC_mono (fun _ h=>h) hmono _ _ r3) (RepC_mono (fun _ h=>h) hmono _ _ r4) (RepC_mono (fun _ h=>h) hmono _ _ r6) r7 ⟨_,_,_,rfl⟩,h.f0,fun k hk=>?_,?_,?_,?_,?_,by rw [hszs];omega,fun k hk hne=>(hkeep k (by omega) hne (fun e=>by have:=hX h.wh e;omega)).trans (h.old k hk hne)⟩⟩
 ·obtain⟨g1,g2,g3,g4,g5⟩:=h.fn k hk
  have hnew:(aii (some ⟨g',0,none⟩) (a.wh.length+1) cap').ownBlock≠some k:=fun e=>by
   rcases hat with e2 | e2
   ·rw [e2] at e
    exact g5 e
   ·rw [e2] at e
    simp only [ahV] at e
    omega
  exact⟨g1,by rw [hszs];omega,g3,g4,hnew⟩
 ·exact su h.no fun k hk=>hkeep k (wG h.no hk) (by have:=hX h.no hk;omega) (fun e=>h.ap k hk e)
 ·have e:({a with wh:=a.wh++[z]}:Rn).wh.length=a.wh.length+1:=by simp
  have e2:({a with wh:=a.wh++[z]}:Rn).wh.map (ahz .i64)=a.wh.map (ahz .i64)++[.int .i64 z]:=by simp
  rw [e,e2]
  exact su hown fun k hk=>heap_setCell_other _ _ _ _ (by
   rw [hg] at hk
   cases hk
   simpa using hgn)
 ·intro k hk
  rcases hat with e2 | e2
  ·intro e
   rw [e2] at e
   exact h.ap k hk e
  ·intro e
   rw [e2] at e
   simp only [ahV] at e
   have:=wG h.no hk
   omega
 ·have b1:Below w.heap.size w w2:=(h.bl.alloc h.bl.size o).grown hgrow (by omega) (fun j hj=>by have:=hX h.wh hj;omega)
  exact b1.setCell (by simp) _
end Go.Proofs.YtjafgdefcggjcaaGreatDoor

namespace Go.Proofs.YtjafgdefcggjcaaGreatDoor
open Go Go.V Go.RowKit Go.Shelf
theorem EU {w W2 wr:World} {F F':Nat→Prop} {a a':Rn} {us:List Value} {t:Nat} {nv wv:Value} (h:RunI w W2 wr F F' a us t nv wv) (h1:a'.c=a.c) (h2:a'.no=a.no) (h3:a'.wh=a.wh):RunI w W2 wr F F' a' us t nv wv:=by
 obtain⟨p1,p2,p3,p4,p5,p6,p7,p8,p9,p10⟩:=h
 exact⟨p1,by rw [h1];exact p2,p3,p4,by rw [h2];exact p5,by rw [h3];exact p6,p7,p8,p9,p10⟩
theorem aeT:noT.toList=[110,111]:=by
 rw [show noT.toList=noT.data.toList from by simp [ain]]
theorem aa3:fv.toList=[119,104,97,116]:=by
 rw [show fv.toList=fv.data.toList from by simp [ain]]
theorem agH {r:ByteArray}:(r.toList==[110,111])=decide (r=noT):=by
 rw [←aeT]
 by_cases h:r=noT
 ·rw [h,decide_eq_true rfl];simp
 ·rw [decide_eq_false h,beq_eq_false_iff_ne]
  exact fun e=>h (rS e)
theorem aeo {r:ByteArray}:(r.toList==[119,104,97,116])=decide (r=fv):=by
 rw [←aa3]
 by_cases h:r=fv
 ·rw [h,decide_eq_true rfl];simp
 ·rw [decide_eq_false h,beq_eq_false_iff_ne]
  exact fun e=>h (rS e)
set_option maxHeartbeats 4000000 in
set_option maxRecDepth 1000000 in
theorem Yc (s:ByteArray) (hs:s.size≤1048576) (w:World) (F:Nat→Prop) (hF:∀b,F b→b<w.heap.size) (hgl:gOk gl0 w F) (hok:okC s=true) :
  Calls Tryz.prog 41 #[.string s] w fun e w'=>∃W2 wr F' us t nv wv,w.heap.size+1<W2.heap.size∧RunI w W2 wr F F' (dD (aU s) (aU s).length) us t nv wv∧w'=wr.setCell ⟨w.heap.size+1,9,none⟩ (.int .i64 (aU s).length) ∧
   e = .returned (.tuple #[.pointer (some ⟨w.heap.size+1,0,none⟩),.string (dD (aU s) (aU s).length).out,.bool true]):=by
 have hok':=hok
 unfold okC at hok'
 simp only [ahy,decide_eq_true_eq] at hok'
 obtain⟨hE,h40⟩:=hok'
 have hE':=hE
 unfold mi at hE'
 simp only [ahy,decide_eq_true_eq] at hE'
 have hLz:∀l∈aU s,l.size≤1000000:=fun l hl=>by
  have:=fp 10 s l (List.mem_of_mem_take hl)
  omega
 have b1:Below w.heap.size w (wS w):=((aiy _ w).alloc (ahC _) _).alloc (by simp) _
 have hszS:(wS w).heap.size=w.heap.size+2:=by simp
 have k0:(wS w).heap[w.heap.size]?=some (.cells #[.int .i64 0] 3 (0,0)):=(heap_alloc_old _ _ (by simp)).trans (heap_alloc_new w _)
 have k1:(wS w).heap[w.heap.size+1]?=some (.cells (us0 w.heap.size).toArray 59 (0,0)):=by
  have:=heap_alloc_new (w.alloc (.cells #[.int .i64 0] 3)) (.cells (us0 w.heap.size).toArray 59)
  simpa using this
 have hst:=My w
 have hc1:=Pe (w:=wS w) (F:=F) (fun b hb=>ah2 (hF b hb) b1.size) (gT (fun _ h=>h) (fun b hb=>b1.block b (hF b hb)) hgl) s hs
 simp only [hE,hok,if_true] at hc1
 generalize aU s=L at *
 generalize hW1:wS w=W1 at *
 go_enter Tryz.func41,Tryz.ntmps41
 go_wp2_with (go_at_call 56;refine hst.mono ?_)
 rintro e _ ⟨rfl,rfl⟩
 go_wp2_with (go_at_call 55;refine hc1.mono ?_)
 rintro e W2 ⟨b2,A,c,rfl,hA⟩
 have hB2:=b1.trans (b2.mono b1.size)
 have k0:=(b2.block _ (by omega)).trans k0
 have k1:=(b2.block _ (by omega)).trans k1
 have hb2:w.heap.size+1<W2.heap.size:=by have:=b2.size;omega
 have hAA:∀(i:Nat) (h:i<L.length),∃b o,A=some ⟨b,o,none⟩∧b<W2.heap.size∧b≠w.heap.size+1∧W2.cell? ⟨b,o+i,none⟩=some (.string L[i]):=fun i h=>by
  obtain⟨b,o,h1,h2,h3,h4⟩:=hA (fun e=>by rw [e] at h;simp at h)
  exact⟨b,o,h1,h2,by omega,h4 i _ (ahH h)⟩
 clear hA hc1 hst
 go_wp2
 go_loopw [8,23] (fun v8 v23 wr=>∃(i:Nat) (F':Nat→Prop) (us:List Value) (t:Nat) (nv wv:Value),v8 = .string (dD L i).out∧v23 = .int .i64 i∧i≤L.length∧RunI w W2 wr F F' (dD L i) us t nv wv) (fun v8 v23 wr=>L.length - (match v23 with | .int _ n=>n.toNat | _=>0))
 case atStart =>
  refine⟨0,fun k=>F k∨k=w.heap.size,us0 w.heap.size,59,.slice none 0 0,.slice none 0 0,rfl,rfl,ahN _,⟨k1,?_,fun k hk=>.inl hk,fun k hk=>?_,ais _ _ _ _,ais _ _ _ _,(fun k hk=>by cases hk),hB2,ahC _,fun k hk _=>rfl⟩⟩
  ·refine Yw (c:=cn0) kO ?_ kO ⟨_,_,_,rfl⟩ ⟨_,_,_,rfl⟩
   simp only [RepC]
   refine⟨some ⟨w.heap.size,0,none⟩,1,[.int .i64 0],rfl,ahC _,nP [0],fun d hd=>?_,fun _=>⟨_,_,rfl,.inr rfl,fun j u hu=>?_⟩⟩
   ·obtain⟨n,_,rfl⟩:=air.1 hd
    rfl
   ·rw [ahL k0,aia]
    simpa using hu
  ·rcases hk with hk | rfl
   ·have:=hF k hk
    exact⟨.inl hk,by omega,by omega,(fun e=>by cases e),(fun e=>by cases e)⟩
   ·exact⟨.inr (ahC _),by omega,by omega,(fun e=>by cases e),(fun e=>by cases e)⟩
 case round =>
  obtain⟨i,F',us,t,nv,wv,rfl,rfl,hi,RI⟩:=hrel
  obtain⟨ro1,ro2,ro3,ro4⟩:=Bm L i
  by_cases hp:i<L.length
  ·have hpi:(i:Int)<(L.length:Int):=by omega
   obtain⟨b,o,rfl,hbz,hbn,hcell⟩:=hAA i hp
   have cw:wr.cell? ⟨b,o+i,none⟩=some (.string L[i]):=(World.cell?_of_block (RI.old b hbz hbn)).trans hcell
   have hcl:=aaQ (b:=w.heap.size+1) (fun k hk=>⟨(RI.fn k hk).2.1,(RI.fn k hk).2.2.1⟩) (gT RI.f0 (fun k hk=>RI.bl.block k (hF k hk)) hgl) RI.bx RI.rep ro1 L[i] (hLz _ (ahB hp))
   have hrun:dD L (i+1)=nB (dD L i) i L[i]:=by
    show nB (dD L i) i (L.getD i ⟨⟨[]⟩⟩)=_
    simp [hp]
   have hrz:=RU ro1 L[i]
   go_wp2_with (go_at_call 57;refine hcl.mono ?_)
   rintro e W3 ⟨rfl,F2,us2,t2,hl⟩
   have RI2:=aaN RI hb2 hl
   obtain⟨i0,hi0,hz0,hz1,hz2⟩:=info_parts VM
   have hno1:W3.ownsRow W2.heap.size 3 1 nv (dD L i).no.length ((dD L i).no.map (ahz .i64)):=RI2.no
   have hwh1:W3.ownsRow W2.heap.size 3 1 wv (dD L i).wh.length ((dD L i).wh.map (ahz .i64)):=RI2.wh
   obtain⟨nA,nn,nc,rfl⟩:=NC hno1
   obtain⟨wA,wn,wc,rfl⟩:=NC hwh1
   have hsz3:=RI2.sz
   obtain⟨sV,tV,fV,hus,r3,r4,r6,r7,r8⟩:=OR RI2.rep
   have c7:W3.cell? ⟨w.heap.size+1,7,none⟩=some (.slice nA nn nc):=by
    rw [ahL RI2.bx,hus]
    rfl
   have c8:W3.cell? ⟨w.heap.size+1,8,none⟩=some (.slice wA wn wc):=by
    rw [ahL RI2.bx,hus]
    rfl
   generalize hrep:(dY (dD L i).c L[i]).1=rp at *
   have hq1:=agH (r:=rp)
   have hq2:=aeo (r:=rp)
   by_cases hno:rp=noT
   ·rw [decide_eq_true hno] at hq1
    subst hus
    go_wp2_with (first
     | (at_builtin;refine wpList_append_own_at _ rfl _ _ 38 rfl W2.heap.size 3 i0 (.int .i64 0) 1 8 Tryz.underlying38 hi0 hz0 hz1 hz2 rfl (by decide) _ _ _ rfl (hno1.alloc _) ⟨W3.heap.size,0,none⟩ 1 1 [.int .i64 ((i:Int)+1)] rfl rfl (cell_one_new _ _ _) (by intro u hu;simp at hu;subst hu;rfl) (by unfold maxLen;omega) (by omega) (by simp;omega) ?_;intro v' w2 hown' hgrow hnil hat;obtain⟨g',cap',rfl⟩:=nY hown';have hbk:w2.heap[w.heap.size+1]?=_:=eA RI2.bx hgrow (fun e=>by have:=hX RI2.no e;omega);have d7:w2.cell? ⟨w.heap.size+1,7,none⟩=some (.slice nA nn nc):=(by rw [ahL hbk];rfl);have e7:w2.frozen? ⟨w.heap.size+1,7,none⟩=false:=aic hbk 7)
     | go_in)
    obtain⟨us3,t3,RI3⟩:=aef (z:=(i:Int)+1) RI2 hb2 hown' hgrow hat
    refine⟨⟨i+1,F2,us3,t3,_,_,?_,congrArg (ahz .i64) (by omega),by omega,EU RI3 ?_ ?_ ?_⟩,?_⟩
    ·rw [hrun]
     unfold nB
     rw [hrep,hno]
    ·rw [hrun]
     rfl
    ·rw [hrun]
     unfold nB
     dsimp only
     rw [hrep,if_pos hno,show((i+1:Nat):Int)=(i:Int)+1 by omega]
    ·rw [hrun]
     unfold nB
     dsimp only
     rw [hrep,if_neg (fun e=>by rw [hno] at e;revert e;decide)]
    ·show L.length - ((i:Int)+1).toNat<L.length - (i:Int).toNat
     omega
   ·rw [decide_eq_false hno] at hq1
    by_cases hwh:rp=fv
    ·rw [decide_eq_true hwh] at hq2
     subst hus
     go_wp2_with (first
      | (at_builtin;refine wpList_append_own_at _ rfl _ _ 38 rfl W2.heap.size 3 i0 (.int .i64 0) 1 8 Tryz.underlying38 hi0 hz0 hz1 hz2 rfl (by decide) _ _ _ rfl (hwh1.alloc _) ⟨W3.heap.size,0,none⟩ 1 1 [.int .i64 ((i:Int)+1)] rfl rfl (cell_one_new _ _ _) (by intro u hu;simp at hu;subst hu;rfl) (by unfold maxLen;omega) (by omega) (by simp;omega) ?_;intro v' w2 hown' hgrow hnil hat;obtain⟨g',cap',rfl⟩:=nY hown';have hbk:w2.heap[w.heap.size+1]?=_:=eA RI2.bx hgrow (fun e=>by have:=hX RI2.wh e;omega);have d7:w2.cell? ⟨w.heap.size+1,8,none⟩=some (.slice wA wn wc):=(by rw [ahL hbk];rfl);have e7:w2.frozen? ⟨w.heap.size+1,8,none⟩=false:=aic hbk 8)
      | go_in)
     obtain⟨us3,t3,RI3⟩:=aez (z:=(i:Int)+1) RI2 hb2 hown' hgrow hat
     refine⟨⟨i+1,F2,us3,t3,_,_,?_,congrArg (ahz .i64) (by omega),by omega,EU RI3 ?_ ?_ ?_⟩,?_⟩
     ·rw [hrun]
      unfold nB
      rw [hrep,hwh]
     ·rw [hrun]
      rfl
     ·rw [hrun]
      unfold nB
      dsimp only
      rw [hrep,if_neg hno]
     ·rw [hrun]
      unfold nB
      dsimp only
      rw [hrep,if_pos hwh,show((i+1:Nat):Int)=(i:Int)+1 by omega]
     ·show L.length - ((i:Int)+1).toNat<L.length - (i:Int).toNat
      omega
    ·rw [decide_eq_false hwh] at hq2
     go_wp2
     refine⟨⟨i+1,F2,us2,t2,_,_,?_,congrArg (ahz .i64) (by omega),by omega,EU RI2 ?_ ?_ ?_⟩,?_⟩
     ·rw [hrun]
      unfold nB
      rw [hrep]
     ·rw [hrun]
      rfl
     ·rw [hrun]
      unfold nB
      dsimp only
      rw [hrep,if_neg hno]
     ·rw [hrun]
      unfold nB
      dsimp only
      rw [hrep,if_neg hwh]
     ·show L.length - ((i:Int)+1).toNat<L.length - (i:Int).toNat
      omega
  ·have hpi:¬(i:Int)<(L.length:Int):=by omega
   obtain rfl:i=L.length:=by omega
   obtain⟨sV,tV,fV,hus,r3,r4,r6,r7,r8⟩:=OR RI.rep
   have c9:wr.cell? ⟨w.heap.size+1,9,none⟩=some (.int .i64 0):=by
    rw [ahL RI.bx,hus]
    rfl
   have f9:wr.frozen? ⟨w.heap.size+1,9,none⟩=false:=aic RI.bx 9
   go_wp2
   go_ret3
   exact⟨W2,hb2,wr,⟨F',us,t,nv,wv,RI⟩,rfl,rfl⟩
end Go.Proofs.YtjafgdefcggjcaaGreatDoor

namespace Go.Proofs.YtjafgdefcggjcaaGreatDoor
open Go Go.V Go.RowKit Go.Shelf
set_option maxHeartbeats 4000000 in
set_option maxRecDepth 1000000 in
theorem acD (s:ByteArray) (hs:s.size≤1048576) (w:World) (F:Nat→Prop) (hF:∀b,F b→b<w.heap.size) (hgl:gOk gl0 w F) (hok:okC s=false) :
  Calls Tryz.prog 41 #[.string s] w fun e w'=>Below (wS w).heap.size (wS w) w'∧e = .returned (.tuple #[.pointer (some ⟨w.heap.size+1,0,none⟩),.string ⟨#[]⟩,.bool false]):=by
 have b1:Below w.heap.size w (wS w):=((aiy _ w).alloc (ahC _) _).alloc (by simp) _
 have hst:=My w
 have hc1:=Pe (w:=wS w) (F:=F) (fun b hb=>ah2 (hF b hb) b1.size) (gT (fun _ h=>h) (fun b hb=>b1.block b (hF b hb)) hgl) s hs
 simp only [hok] at hc1
 generalize (if mi s=true then aU s else [])=L at hc1
 generalize hW1:wS w=W1 at *
 go_enter Tryz.func41,Tryz.ntmps41
 go_wp2_with (go_at_call 56;refine hst.mono ?_)
 rintro e _ ⟨rfl,rfl⟩
 go_wp2_with (go_at_call 55;refine hc1.mono ?_)
 rintro e W2 ⟨b2,A,c,rfl,hA⟩
 go_wp2
 go_ret3
 exact⟨b2,rfl⟩
theorem ae1 {w:World} {G:Nat→Prop} {base e:Nat} {v:Value} {l:List Int} (h:w.ownsRow base e 1 v l.length (l.map (ahz .i64))) (hG:∀k,v.ownBlock=some k→G k):RepC w G (ai l) [v]:=by
 obtain⟨h1,⟨rfl,h2⟩ | ⟨g,cap,cur,rfl,h2,h3,h4,h5,h6,h7⟩⟩:=h
 ·rw [ahE h2]
  exact kO
 ·simp only [RepC]
  refine⟨_,cap,l.map (ahz .i64),by rw [ahP],by rw [ahP];exact h4,nP _,fun d hd=>?_,fun _=>⟨g,0,rfl,hG g rfl,fun j u hu=>?_⟩⟩
  ·obtain⟨n,_,rfl⟩:=air.1 hd
   rfl
  ·rw [ahL h3,aia]
   rw [←h7,List.getElem?_take] at hu
   split at hu
   ·simpa using hu
   ·cases hu
def cnP (a:Rn) (n:Int):D:=.ptr [I a.c.m.1,I a.c.m.2.1,I a.c.m.2.2,sls a.c.s,ai a.c.t,T a.c.j,fos a.c.f,ai a.no,ai a.wh,I n]
theorem aas {w:World} {G:Nat→Prop} {a:Rn} {n:Int} {b t:Nat} {sV tV fV nv wv:Value} (hb:w.heap[b]?=some (.cells #[.int .i64 a.c.m.1,.int .i64 a.c.m.2.1,.int .i64 a.c.m.2.2,sV,tV,.string a.c.j,fV,nv,wv,.int .i64 n] t (0,0))) (hG:G b)
  (h3:RepC w G (sls a.c.s) [sV]) (h4:RepC w G (ai a.c.t) [tV]) (h6:RepC w G (fos a.c.f) [fV]) (h7:RepC w G (ai a.no) [nv]) (h8:RepC w G (ai a.wh) [wv]):bP w G (cnP a n) (.pointer (some ⟨b,0,none⟩)):=by
 simp only [cnP,bP,RepC]
 refine⟨b,0,[.int .i64 a.c.m.1,.int .i64 a.c.m.2.1,.int .i64 a.c.m.2.2,sV,tV,.string a.c.j,fV,nv,wv,.int .i64 n],rfl,?_,rfl,hG,fun j u hu=>?_⟩
 ·refine aw.2 ⟨[_],_,rfl,kM rfl,aw.2 ⟨[_],_,rfl,kM rfl,aw.2 ⟨[_],_,rfl,kM rfl,aw.2 ⟨[_],_,rfl,h3,aw.2 ⟨[_],_,rfl,h4,aw.2 ⟨[_],_,rfl,kM rfl,aw.2 ⟨[_],_,rfl,h6,aw.2 ⟨[_],_,rfl,h7,aw.2 ⟨[_],_,rfl,h8,aw.2 ⟨[_],[],rfl,kM rfl,aV.2 rfl⟩⟩⟩⟩⟩⟩⟩⟩⟩⟩
 ·rw [ahL hb,aia]
  simpa using hu
def mh (s:ByteArray):Rn:=if okC s=true then dD (aU s) (aU s).length else dD [] 0
def wm (ds:List D):Option Out:=match ds with
 | [d]=>(zQ d).bind fun s=>if s.size≤1048576 then some (.ret [cnP (mh s) (if okC s=true then((aU s).length:Int) else 0),T (mh s).out,B (okC s)] []) else none
 | _=>none
theorem yq (s:ByteArray) (hs:s.size≤1048576):wm [T s]=some (.ret [cnP (mh s) (if okC s=true then((aU s).length:Int) else 0),T (mh s).out,B (okC s)] []):=by
 have e:wm [T s]=(zQ (T s)).bind fun s=>if s.size≤1048576 then some (.ret [cnP (mh s) (if okC s=true then((aU s).length:Int) else 0),T (mh s).out,B (okC s)] []) else none:=rfl
 rw [e,show zQ (T s)=some s from rfl,ahK,if_pos hs]
@[reducible] def kq:FS:={pm:=[.dat 0],rm:=[.dat 2,.dat 0,.dat 0],f:=wm}
set_option maxRecDepth 100000 in
theorem ng:au gl0 Tryz.prog 41 kq:=by
 have he:∀args w,(callFunc 41 args).run Tryz.prog w = .ok (.enter 41 args) w:=aib Tryz.func41 (by kernel_rfl) rfl
 refine bT he fun ds rs us hd args w F ow hg ha hF _=>?_
 obtain⟨d,y,rfl,h2,h3⟩:=mX ha
 replace hd:wm [d]=some (.ret rs us):=hd
 obtain⟨s,hs,hd'⟩:=Option.bind_eq_some_iff.1 hd
 clear hd
 obtain rfl:=ES hs
 split at hd'
 case isFalse=>cases hd'
 rename_i hz
 cases hd'
 obtain⟨rfl,_⟩:=El h3
 rw [FK h2]
 cases hok:okC s with
 | false =>
  refine(acD s hz w F (fun b hb=>(hF b hb).1) hg hok).mono ?_
  rintro e w' ⟨hB,rfl⟩
  have b1:Below w.heap.size w (wS w):=((aiy _ w).alloc (ahC _) _).alloc (by simp) _
  have hszS:(wS w).heap.size=w.heap.size+2:=by simp
  have k0:(wS w).heap[w.heap.size]?=some (.cells #[.int .i64 0] 3 (0,0)):=(heap_alloc_old _ _ (by simp)).trans (heap_alloc_new w _)
  have k1:(wS w).heap[w.heap.size+1]?=some (.cells (us0 w.heap.size).toArray 59 (0,0)):=by
   have:=heap_alloc_new (w.alloc (.cells #[.int .i64 0] 3)) (.cells (us0 w.heap.size).toArray 59)
   simpa using this
  have k0:=(hB.block _ (by omega)).trans k0
  have k1:=(hB.block _ (by omega)).trans k1
  have hB2:=b1.trans (hB.mono b1.size)
  have hR:mh s=dD [] 0:=by unfold mh;rw [hok];rfl
  rw [hR]
  let F':Nat→Prop:=fun k=>F k∨(w.heap.size≤k∧k<w'.heap.size)
  have hsz':=hB.size
  refine⟨_,rfl,F',fun _=>none,[.pointer (some ⟨w.heap.size+1,0,none⟩),.string ⟨#[]⟩,.bool false],rfl,
   ⟨hB2.os,hB2.tape,hB2.output,hB2.size,fun b hb _=>hB2.block b hb,fun b hb=>.inl hb,fun b hb=>?_,fun b j h=>(by cases h),rfl,rfl,fun j=>?_,trivial⟩⟩
  ·rcases hb with hb | hb
   ·exact⟨.inl hb,ah2 (hF b hb).1 hB2.size,rfl⟩
   ·exact⟨.inr hb.1,hb.2,rfl⟩
  ·match j with
   | 0 =>
    refine .inr (show bP w' F' _ _ from aas (a:=dD [] 0) (n:=0) k1 (.inr ⟨by omega,by omega⟩) kO ?_ kO kO kO)
    simp only [RepC]
    refine⟨some ⟨w.heap.size,0,none⟩,1,[.int .i64 0],rfl,ahC _,nP [0],fun d hd=>?_,fun _=>⟨_,_,rfl,.inr ⟨ahC _,by omega⟩,fun j u hu=>?_⟩⟩
    ·obtain⟨n,_,rfl⟩:=air.1 hd
     rfl
    ·rw [ahL k0,aia]
     simpa using hu
   | 1=>exact .inr (show bP w' _ (T _) _ from cb.2 ⟨rfl,rfl⟩)
   | 2=>exact .inr (show bP w' _ (B _) _ from cb.2 ⟨rfl,rfl⟩)
   | j+3=>exact .inl rfl
 | true =>
  refine(Yc s hz w F (fun b hb=>(hF b hb).1) hg hok).mono ?_
  rintro e w' ⟨W2,wr,F2,us,t,nv,wv,hb2,RI,rfl,rfl⟩
  have hR:mh s=dD (aU s) (aU s).length:=by unfold mh;rw [hok];rfl
  rw [hR,if_pos rfl]
  generalize dD (aU s) (aU s).length=a at *
  obtain⟨sV,tV,fV,rfl,r3,r4,r6,-,-⟩:=OR RI.rep
  have hset:=heap_setCell_same _ (w.heap.size+1) 9 _ _ (.int .i64 (aU s).length) RI.bx
  have hB2:Below w.heap.size w (wr.setCell ⟨w.heap.size+1,9,none⟩ (.int .i64 (aU s).length)):=RI.bl.setCell (by simp) _
  have hszs:(wr.setCell ⟨w.heap.size+1,9,none⟩ (.int .i64 (aU s).length)).heap.size=wr.heap.size:=by simp [ail]
  have hkeep:∀k,k≠w.heap.size+1→(wr.setCell ⟨w.heap.size+1,9,none⟩ (.int .i64 (aU s).length)).heap[k]?=wr.heap[k]?:=fun k hk=>heap_setCell_other _ _ _ _ (by simpa using hk)
  generalize wr.setCell ⟨w.heap.size+1,9,none⟩ (.int .i64 (aU s).length)=w' at *
  let F':Nat→Prop:=fun k=>F2 k∨(w.heap.size≤k∧k<w'.heap.size)
  have hws:=RI.bl.size
  have hbz:=(ahZ.1 RI.bx).1
  have hmono:∀(d:D) (vs:List Value),RepC wr F2 d vs→RepC w' F' d vs:=fun d vs h=>RepC_mono (fun k hk=>.inl hk) (fun k hk=>hkeep k (RI.fn k hk).2.2.1) d vs h
  have hrow:∀(v:Value) (l:List Int),wr.ownsRow W2.heap.size 3 1 v l.length (l.map (ahz .i64))→RepC w' F' (ai l) [v]:=fun v l h=>by
   have h':w'.ownsRow W2.heap.size 3 1 v l.length (l.map (ahz .i64)):=su h fun k hk=>hkeep k (by have:=hX h hk;omega)
   exact ae1 h' fun k hk=>.inr ⟨by have:=hX h' hk;omega,wG h' hk⟩
  refine⟨_,rfl,F',fun _=>none,[.pointer (some ⟨w.heap.size+1,0,none⟩),.string a.out,.bool true],rfl,
   ⟨hB2.os,hB2.tape,hB2.output,hB2.size,fun b hb _=>hB2.block b hb,fun b hb=>.inl (RI.f0 b hb),fun b hb=>?_,fun b j h=>(by cases h),rfl,rfl,fun j=>?_,trivial⟩⟩
  ·rcases hb with hb | hb
   ·obtain⟨g1,g2,-⟩:=RI.fn b hb
    exact⟨g1,by omega,rfl⟩
   ·exact⟨.inr hb.1,hb.2,rfl⟩
  ·match j with
   | 0=>exact .inr (show bP w' F' _ _ from aas hset (.inr ⟨by omega,by omega⟩) (hmono _ _ r3) (hmono _ _ r4) (hmono _ _ r6) (hrow nv a.no RI.no) (hrow wv a.wh RI.wh))
   | 1=>exact .inr (show bP w' _ (T _) _ from cb.2 ⟨rfl,rfl⟩)
   | 2=>exact .inr (show bP w' _ (B _) _ from cb.2 ⟨rfl,rfl⟩)
   | j+3=>exact .inl rfl
end Go.Proofs.YtjafgdefcggjcaaGreatDoor

end
