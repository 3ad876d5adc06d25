/-
  A part of the proof: contracts and plain forms of functions beneath the statement, made small by a program (names shortened, what is not needed left out).
-/
import Derived.Test.YtccaheogjpfhjaaGreatRows
import Derived.Test.YtccaheogjpfhjaaGreatM7
import Derived.StillTailTactics
import Derived.Deep.RegionHeld
import Derived.Laws.MakeOwn
import Derived.Maps.AppendAt
open Go.IntKind renaming i64 → ZE
open List renaming range → ZF, mem_map → ZG, mem_range → ZI, setIfInBounds_toArray → ZJ, findSome?_cons → ZK, set_cons_zero → ZL, set_cons_succ → ZM, mem_cons → ZN, mem_singleton → ZP, findIdx_le_length → ZZ, length_map → aae, getElem?_eq_getElem → aaf, eq_nil_of_length_eq_zero → aak, length_append → aam, findSome?_nil → aap, getD_eq_getElem?_getD → aaq, nodup_append → aar, getElem?_map → aas, mem_append → aau, singleton_append → aax, mem_append_left → aaz, getElem?_range → aaA, length_cons → aaD, getElem_mem → aaF, filter_cons → aaG, nil_append → aaK, nodup_cons → aaL, range_succ → aaM
open Array renaming getElem?_setIfInBounds_ne → ZH, getElem?_setIfInBounds → aal
open Int renaming toNat_natCast → ZO, natCast_mul → ZW, eq_ofNat_of_zero_le → aat
open Nat renaming le_refl → ZQ, zero_le → ZS, div_lt_of_lt_mul → aai, mul_comm → aaj, mod_lt → aay, lt_of_lt_of_le → aaB, div_add_mod → aaH
open Go.Proofs renaming enters_of → ZR
open Option.some renaming injEq → ZT
open Classical renaming propDecidable → ZU, choose → aag
open Go.World renaming cell?_setCell_far → ZV, setCell → aaP
open Go.Value renaming int → ZX, bool → aaI
open Go.RowKit.Below renaming refl → ZY
open Option renaming bind_some → aaa, map_some → aad
open Go.Lib renaming cell_of_heap → aab, frozen_of_heap → aan
open Bool renaming and_eq_true → aac, false_eq_true → aao
open Go.Act renaming put → aah
open List.cons renaming injEq → aav
open Go.Builtin renaming append_ → aaw, firstCells → aaC, lenOf → aaR
open Go.Value.bool renaming injEq → aaE
open Go.Value.int renaming injEq → aaJ
open Go.Instr renaming makeSlice → aaN
open Go.AllReadyH renaming cons → aaO, nil → aaQ
set_option maxRecDepth 100000
set_option linter.unusedSimpArgs false
set_option linter.unusedVariables false
noncomputable section
namespace Go.Proofs.YtccaheogjpfhjaaGreat
open Go Go.V
set_option maxRecDepth 100000
theorem MW (a b:Nat):((a:Int)).tmod (b:Int)=((a % b:Nat):Int):=(Int.ofNat_tmod a b).symm
theorem Nb (a b:Nat):((a:Int)).tdiv (b:Int)=((a / b:Nat):Int):=(Int.ofNat_tdiv a b).symm
abbrev bC (wd:Nat) (i:Nat) (at_:Nat) (t:Bool):Pl:=((i:Int),((at_ % wd:Nat):Int),((at_ / wd:Nat):Int),t)
def qe (l:Ps) (wd ht:Nat) (f:Gr) (p:Pl):Option Gr:=if jo wd ht f l p=true then some (qf f l p) else none
set_option maxHeartbeats 2000000 in
theorem Lk (wd ht:Nat) (hw1:1≤wd) (hh1:1≤ht) (hw8:wd≤8) (hh8:ht≤8) (l:Ps) (hl:ij l=true) (f:Gr) (hf:GOK wd ht f) (i:Nat) (hi:i<l.length) (t:Bool) (at_:Nat) (hat:at_<wd*ht) :
  nE [ints (aV wd ht f),I (wd:Int),I (ht:Int),pce l[i],B t,I (at_:Int),I (i:Int)]=some (.ret (tl wd ht (qe l wd ht f (bC wd i at_ t))) []):=by
 have b0:=MM hw8 hh8;have hflen:(aV wd ht f).length≤64:=by rw [iN];exact b0
 have hown:=nQ (aV wd ht f) (by omega);obtain⟨s1,s2,s3,s4,s5,s6⟩:=NE hl (p:=bC wd i at_ t) (by show(0:Int)≤(i:Int);omega) (by show(i:Int)≤(l.length:Int) - 1;omega);have hsz:szI l (bC wd i at_ t)=(if t=true then l[i].2 else l[i].1,if t=true then l[i].1 else l[i].2):=by
  unfold szI;simp only [ZO];rw [aaq,aaf hi];cases t<;>rfl
 have hsd:=Hz l[i] t;rw [show(if t=true then l[i].2 else l[i].1)=(szI l (bC wd i at_ t)).1 by rw [hsz],show(if t=true then l[i].1 else l[i].2)=(szI l (bC wd i at_ t)).2 by rw [hsz],←s1,←s2] at hsd;have hroom:jo wd ht f l (bC wd i at_ t)=@decide _ (ZU (nv wd ht f l (bC wd i at_ t))):=rfl;have hno:¬nv wd ht f l (bC wd i at_ t)→qe l wd ht f (bC wd i at_ t)=none:=fun h=>by
  unfold qe;rw [hroom,@decide_eq_false _ (ZU _) h];rfl
 have hyes:nv wd ht f l (bC wd i at_ t)→qe l wd ht f (bC wd i at_ t)=some (mkA f (at_ % wd) (at_ / wd) (szN l (bC wd i at_ t)).1 (szN l (bC wd i at_ t)).2 (i:Int)):=fun h=>by
  unfold qe;rw [hroom,@decide_eq_true _ (ZU _) h];rfl
 have hbox:bE 2 (pce l[i])=some (pce l[i]):=by simp
 have hfld:ba true 2 0 (pce l[i])=some (pce l[i]):=by simp
 have htm:=MW at_ wd;have htd:=Nb at_ wd;have hdm:=aaH at_ wd;have hXl:at_ % wd<wd:=aay _ (by omega);have hYl:at_ / wd<ht:=aai hat;unfold nv at hno hyes;generalize (szN l (bC wd i at_ t)).1=a at *;generalize (szN l (bC wd i at_ t)).2=b at *;generalize hR:qe l wd ht f (bC wd i at_ t)=R at *;simp only at hno hyes;clear hroom hsz s1 s2 hR;generalize at_ % wd=X at *;generalize at_ / wd=Y at *;have hw0:¬wd=0:=by omega
 have hwX:ZE.wrap ((X:Int)+(a:Int))=X+a:=ae (by omega) (by omega);have hwY:ZE.wrap ((Y:Int)+(b:Int))=Y+b:=ae (by omega) (by omega);have hwY0:ZE.wrap (Y:Int)=Y:=ae (by omega) (by omega);rw [MF];by_cases c5:(wd:Int)<(X:Int)+(a:Int)
 ·rw [hno (fun h=>by omega)]
  simp -implicitDefEqProofs [hbox,hfld,hsd,hw0,htm,htd,hwX,c5,hwY0,tl,-Mp,-kF]
 by_cases c6:(ht:Int)<(Y:Int)+(b:Int)
 ·rw [hno (fun h=>by omega)]
  simp -implicitDefEqProofs [hbox,hfld,hsd,hw0,htm,htd,hwX,c5,hwY0,hwY,c6,tl,-Mp,-kF]
 simp -implicitDefEqProofs [hbox,hfld,hsd,hw0,htm,htd,hwX,c5,hwY0,hwY,c6,hown,-Mp,-kF];refine bu (fun r'=>r'=some (.ret (tl wd ht R) []))
  (fun dy:Nat=>[I (wd:Int),I (at_:Int),I (i:Int),I (a:Int),I (b:Int),ints (aV wd ht (mkP f X Y a (i:Int) (Y+dy) X)),I (dy:Int)])
  (fun dy=>dy≤b∧∀y' x:Nat,Y≤y'→y'<Y+dy→X≤x→x<X+a→f y' x = -1) (fun dy=>b - dy)
  (fun o=>(o = .ret [ints [],B false] []∧R=none)∨(o = .ext 0 [ints (aV wd ht (mkA f X Y a b (i:Int)))]∧∀y' x:Nat,Y≤y'→y'<Y+b→X≤x→x<X+a→f y' x = -1))
  (fun dy hdy=>?_) 0 ⟨ZS _,fun y' x h1 h2=>by omega⟩ (by rw [Nat.add_zero,Kw];rfl) (fun o ho=>?_)
 ·obtain⟨d1,d2⟩:=hdy
  have hwdy:ZE.wrap ((dy:Int)+1)=(dy:Int)+1:=ae (by omega) (by omega);by_cases e1:dy<b
  ·have e1':(dy:Int)<(b:Int):=by omega
   obtain⟨q2,hq2⟩:∃q2,q2=dy*wd:=⟨_,rfl⟩
   have b2:=MM (a:=dy) (b:=wd) (by omega) hw8;have w2:ZE.wrap ((dy:Int)*(wd:Int))=(q2:Int):=by rw [hq2,ZW,ae]<;>rw [←ZW]<;>omega
   obtain⟨q3,hq3⟩:∃q3,q3=at_+q2:=⟨_,rfl⟩
   have w3:ZE.wrap ((at_:Int)+(q2:Int))=(q3:Int):=by rw [ae (by omega) (by omega)];omega
   simp -implicitDefEqProofs [e1'];refine bu (fun r'=>(∃a':Nat,r'=some (.nrm [I (wd:Int),I (at_:Int),I (i:Int),I (a:Int),I (b:Int),ints (aV wd ht (mkP f X Y a (i:Int) (Y+a') X)),I (a':Int)])∧(a'≤b∧∀y' x:Nat,Y≤y'→y'<Y+a'→X≤x→x<X+a→f y' x = -1)∧b - a'<b - dy) ∨
     ∃o,r'=some o∧o.ends=true∧((o = .ret [ints [],B false] []∧R=none)∨(o = .ext 0 [ints (aV wd ht (mkA f X Y a b (i:Int)))]∧∀y' x:Nat,Y≤y'→y'<Y+b→X≤x→x<X+a→f y' x = -1)))
    (fun dx:Nat=>[I (wd:Int),I (at_:Int),I (i:Int),I (a:Int),I (b:Int),ints (aV wd ht (mkP f X Y a (i:Int) (Y+dy) (X+dx))),I (dy:Int),I (dx:Int)])
    (fun dx=>dx≤a∧∀x:Nat,X≤x→x<X+dx→f (Y+dy) x = -1) (fun dx=>a - dx)
    (fun o=>(o = .ret [ints [],B false] []∧R=none)∨(o = .ext 2 [I (wd:Int),I (at_:Int),I (i:Int),I (a:Int),I (b:Int),ints (aV wd ht (mkP f X Y a (i:Int) (Y+dy) (X+a))),I (dy:Int)]∧∀x:Nat,X≤x→x<X+a→f (Y+dy) x = -1))
    (fun dx hdx=>?_) 0 ⟨ZS _,fun x h1 h2=>by omega⟩ rfl (fun o ho=>?_)
   ·obtain⟨g1,g2⟩:=hdx
    have hwdx:ZE.wrap ((dx:Int)+1)=(dx:Int)+1:=ae (by omega) (by omega);by_cases e2:dx<a
    ·have e2':(dx:Int)<(a:Int):=by omega
     obtain⟨q4,hq4⟩:∃q4,q4=q3+dx:=⟨_,rfl⟩
     have w4:ZE.wrap ((q3:Int)+(dx:Int))=(q4:Int):=by rw [ae (by omega) (by omega)];omega
     have hq5:q4=(Y+dy)*wd+(X+dx):=by
      rw [hq4,hq3,hq2,Nat.add_mul,←hdm,aaj wd Y];omega
     have r1:=Tg (wd:=wd) (ht:=ht) (y:=Y+dy) (x:=X+dx) (p:=q4) (mkP f X Y a (i:Int) (Y+dy) (X+dx)) (by omega) (by omega) hq5;have r2:=Tt (wd:=wd) (ht:=ht) (y:=Y+dy) (x:=X+dx) (p:=q4) (mkP f X Y a (i:Int) (Y+dy) (X+dx)) (by omega) (by omega) hq5;have r3:=UD (wd:=wd) (ht:=ht) (y:=Y+dy) (x:=X+dx) (p:=q4) (mkP f X Y a (i:Int) (Y+dy) (X+dx)) (i:Int) (by omega) (by omega) hq5;have hv:mkP f X Y a (i:Int) (Y+dy) (X+dx) (Y+dy) (X+dx)=f (Y+dy) (X+dx):=by
      unfold mkP;rw [if_neg (by omega)]
     rw [hv] at r2;rw [NH f X Y a (i:Int) (Y+dy) (X+dx) (by omega) (by omega) (by omega)] at r3;have hge:=(hf (Y+dy) (X+dx) (by omega) (by omega)).1;by_cases e3:f (Y+dy) (X+dx) = -1
     ·refine .inl ⟨dx+1,?_,⟨by omega,fun x h1 h2=>?_⟩,by omega⟩
      ·rw [e3] at r2
       simp -implicitDefEqProofs [e2',w2,w3,w4,r1,r2,r3,hwdx,-dm,-kP];rfl
      ·by_cases e4:x=X+dx
       ·rw [e4];exact e3
       ·exact g2 x h1 (by omega)
     ·have e4:0≤f (Y+dy) (X+dx):=by omega
      refine .inr ⟨.ret [ints [],B false] [],?_,rfl,.inl ⟨rfl,hno fun h=>e3 (h.2.2.2.2 (Y+dy) (X+dx) (by omega) (by omega) (by omega) (by omega))⟩⟩
      simp -implicitDefEqProofs [e2',w2,w3,w4,r1,r2,e4,-dm,-kP]
    ·have e2':¬(dx:Int)<(a:Int):=by omega
     have e5:dx=a:=by omega
     subst e5;refine .inr ⟨_,?_,?_,.inr ⟨rfl,g2⟩⟩
     ·simp -implicitDefEqProofs
     ·rfl
   ·rcases ho with ⟨rfl,h2⟩ | ⟨rfl,h2⟩
    ·exact .inr ⟨_,by simp -implicitDefEqProofs,rfl,.inl ⟨rfl,h2⟩⟩
    ·refine .inl ⟨dy+1,?_,⟨by omega,fun y' x g1 g2 g3 g4=>?_⟩,by omega⟩
     ·rw [QA f X Y a (i:Int) (Y+dy) (by omega)]
      simp -implicitDefEqProofs [hwdy];rfl
     ·by_cases e3:y'=Y+dy
      ·rw [e3];exact h2 x g3 g4
      ·exact d2 y' x g1 (by omega) g3 g4
  ·have e1':¬(dy:Int)<(b:Int):=by omega
   have e5:dy=b:=by omega
   subst e5;refine .inr ⟨_,?_,?_,.inr ⟨rfl,d2⟩⟩
   ·rw [Qh]
    simp -implicitDefEqProofs
   ·rfl
 ·rcases ho with ⟨rfl,h2⟩ | ⟨rfl,h2⟩
  ·rw [h2]
   simp -implicitDefEqProofs [tl]
  ·have hroomP:WS f (X:Int) (Y:Int) a b:=fun y x g1 g2 g3 g4=>h2 y x (by omega) (by omega) (by omega) (by omega)
   rw [hyes ⟨by omega,by omega,by omega,by omega,hroomP⟩];simp -implicitDefEqProofs [tl]
set_option maxRecDepth 100000
def bk (G:List Int):Nat:=G.findIdx fun v=>decide (v<0)
def nJ (rec:Gr→List Int→Option (List Pl)) (l:Ps) (wd ht:Nat) (f:Gr) (used:List Int) (at_ i:Nat) (t:Bool):Option (List Pl) :=
 if t=true∧(l.getD i (0,0)).1=(l.getD i (0,0)).2 then none else
 match qe l wd ht f (bC wd i at_ t) with
 | none=>none
 | some g=>(rec g (used++[(i:Int)])).map (bC wd i at_ t::·)
def dc (l:Ps) (wd ht:Nat):Nat→Gr→List Int→Option (List Pl)
 | 0,_,_=>none
 | n+1,f,used =>
  if bk (aV wd ht f)=wd*ht then(if used.length=l.length then some [] else none)
  else(ZF l.length).findSome? fun i:Nat=>if (i:Int)∈used then none else [false,true].findSome? (nJ (dc l wd ht n) l wd ht f used (bk (aV wd ht f)) i)
def iQ:Option (List Pl)→List D
 | none=>[pls [],B false]
 | some q=>[pls q,B true]
theorem xe {β:Type} {body:List D→Option Out} (l:List β) (st:Nat→List D) (o:β→Option Out) (fin:Out) (hs:∀(i:Nat) (hi:i<l.length),body (st i)=some ((o l[i]).getD (.nrm (st (i+1))))) (he:body (st l.length)=some fin) (h1:∀x r,o x=some r→r.ends=true) (h2:fin.ends=true) {s0:List D} (h:s0=st 0) :
  aQ body s0=some ((l.findSome? o).getD fin):=by
 rw [h];have key:∀(n i:Nat),i+n=l.length→Runs body (st i) (((l.drop i).findSome? o).getD fin):=by
  intro n;induction n with
  | zero =>
   intro i hi;have:i=l.length:=by omega
   subst this;rw [List.drop_length];exact Runs.one he h2
  | succ n ih =>
   intro i hi;have hlt:i<l.length:=by omega
   have hb:=hs i hlt;rw [List.drop_eq_getElem_cons hlt,ZK];cases hp:o l[i] with
   | none =>
    rw [hp] at hb;exact .nrm hb (ih (i+1) (by omega))
   | some r =>
    rw [hp] at hb;exact Runs.one hb (h1 _ _ hp)
 exact(key l.length 0 (by omega)).loop
theorem gM {α β:Type} {o:α→Option β}:∀{l:List α} {r:β},l.findSome? o=some r→∃x∈l,o x=some r
 | [],r,h=>by simp at h
 | x::l,r,h=>by
  rw [ZK] at h;cases hx:o x with
  | none =>
   rw [hx] at h;obtain⟨y,h1,h2⟩:=gM h;exact⟨y,by simp [h1],h2⟩
  | some s =>
   rw [hx] at h;exact⟨x,by simp,by rw [hx];exact h⟩
theorem sw {α β γ:Type} (f:α→Option β) (g:β→γ):∀l:List α,(l.findSome? fun x=>(f x).map g)=(l.findSome? f).map g
 | []=>rfl
 | x::l=>by
  rw [ZK,ZK];cases f x with
  | none=>exact sw f g l
  | some y=>rfl
theorem EB (l:Ps) (wd ht:Nat) (hw1:1≤wd) (hw8:wd≤8) (hh8:ht≤8):∀(n:Nat) (f:Gr) (used:List Int) (q:List Pl),dc l wd ht n f used=some q→q.length≤n∧∀p∈q,(0≤p.1∧p.1<l.length)∧(0≤p.2.1∧p.2.1≤8)∧0≤p.2.2.1∧p.2.2.1≤64
 | 0,f,used,q,h=>by cases h
 | n+1,f,used,q,h=>by
  simp only [dc] at h;split at h
  ·split at h
   ·cases h
    exact⟨ZS _,fun p hp=>by cases hp⟩
   ·cases h
  ·rename_i hne
   obtain⟨i,hi,h⟩:=gM h;have hi:=ZI.1 hi;split at h
   ·cases h
   ·obtain⟨t,ht',h⟩:=gM h
    unfold nJ at h;split at h
    ·cases h
    ·split at h
     ·cases h
     ·rename_i g hg
      have hat:bk (aV wd ht f)≤64:=by
       have h1:bk (aV wd ht f)≤(aV wd ht f).length:=ZZ;rw [iN] at h1;have:=MM hw8 hh8;omega
      cases hr:dc l wd ht n g (used++[(i:Int)]) with
      | none=>rw [hr] at h;cases h
      | some q' =>
       rw [hr] at h;simp only [aad,ZT] at h;subst h;obtain⟨k1,k2⟩:=EB l wd ht hw1 hw8 hh8 n _ _ _ hr;refine⟨by simp only [aaD];omega,fun p hp=>?_⟩
       rcases ZN.1 hp with rfl | hp
       ·have h1:bk (aV wd ht f) % wd<wd:=aay _ (by omega)
        have h2:bk (aV wd ht f) / wd≤bk (aV wd ht f):=Nat.div_le_self _ _;show((0:Int)≤(i:Int)∧(i:Int)<l.length)∧((0:Int)≤((bk (aV wd ht f) % wd:Nat):Int)∧((bk (aV wd ht f) % wd:Nat):Int)≤8)∧(0:Int)≤((bk (aV wd ht f) / wd:Nat):Int)∧((bk (aV wd ht f) / wd:Nat):Int)≤64
        generalize bk (aV wd ht f) % wd=X at *;generalize bk (aV wd ht f) / wd=Y at *;omega
       ·exact k2 p hp
theorem KT:∀(n:Nat) (x0 x1 x2 x3 x4:D),LeO (dH n [x0,x1,x2,x3,x4]) (dH (n+1) [x0,x1,x2,x3,x4])
 | 0,x0,x1,x2,x3,x4=>LeO.none _
 | n+1,x0,x1,x2,x3,x4=>by
  have ih:=KT n;rw [me (n+1),me n]
  repeat' first
   | with_reducible exact LeO.refl _
   | exact ih _ _ _ _ _
   | apply LeO.ifD
   | apply LeO.callK
   | apply LeO.outK
   | apply LeO.loop
   | apply LeO.ifN
   | apply LeO.bind
   | intro _
theorem YR (a b c:Int) (t:Bool):cO [(0,1),(1,1),(2,1),(3,1)] [D.v (ZX ZE 0),D.v (ZX ZE 0),D.v (ZX ZE 0),D.v (aaI false)] [I a,I b,I c,B t]=some (plD (a,b,c,t)):=by
 simp [cO,iG]
theorem YN (p:Pl):ay 4 [plD p]=some (pls [p]):=by simp [ay,eA]
theorem Xb (q:List Pl):dq (pls q)=some (pls q):=fj fun p=>rfl
theorem Xe {q r:List Pl} (h:q.length+r.length≤1048577):bY 4 32 (pls q) (pls r)=some (pls (q++r)):=by
 rw [bv,if_pos (by simp only [aae];omega)];simp
theorem SJ {l:Ps} (hl:ij l=true) {wd ht:Nat} {f g:Gr} (hf:GOK wd ht f) {i:Nat} (hi:i<l.length) {at_:Nat} {t:Bool} (h:qe l wd ht f (bC wd i at_ t)=some g):GOK wd ht g:=by
 unfold qe at h;split at h
 ·cases h
  refine Xz hl hf (q:=none) ?_
  unfold Jy;have h1:(0:Int)≤(i:Int)∧(i:Int)≤(l.length:Int) - 1:=by omega
  simp [h1]
 ·cases h
theorem QD.has {z:D} {q:List Int} (h:QD z q) (hl:q.length≤1000) (n:Int):gK [z,I n]=some (.ret [B (decide (n∈q))] []):=by
 rcases h with rfl | ⟨rfl,rfl⟩
 ·exact zx q n (by omega)
 ·rw [Js]
  simp
theorem HZ (q:List Pl) (b:Bool):aF (D.tup [pls q,B b]) 0=some (pls q)∧aF (cv (D.tup [pls q,B b]) 0) 1=some (B b):=⟨rfl,rfl⟩
set_option maxHeartbeats 2000000 in
theorem Bs (wd ht:Nat) (hw1:1≤wd) (hh1:1≤ht) (hw8:wd≤8) (hh8:ht≤8) (l:Ps) (hl:ij l=true):∀(k:Nat) (f:Gr) (used:List Int) (z:D),GOK wd ht f→used.Nodup→(∀u∈used,0≤u∧u<l.length)→QD z used→used.length+k=l.length →
  dH (k+1) [ints (aV wd ht f),I (wd:Int),I (ht:Int),pcs l,z]=some (.ret (iQ (dc l wd ht (k+1) f used)) []):=by
 intro k;induction k with
 | zero =>
  intro f used z hf hnd hin hz hk;have h8:=oz hl;have hrow:=hz.row (by omega);have b0:=MM hw8 hh8;have hall:∀i:Nat,i<l.length→(i:Int)∈used:=fun i hi=>by
   refine Fi (N:=(ZF l.length).map fun n:Nat=>(n:Int)) hnd (fun n hn=>?_) (by simp;omega) (i:Int) (ZG.2 ⟨i,ZI.2 hi,rfl⟩)
   have:=hin n hn;exact ZG.2 ⟨n.toNat,ZI.2 (by omega),by omega⟩
  have hlG:(aV wd ht f).length=wd*ht:=iN wd ht f;rw [me];rw [show dc l wd ht (0+1) f used=if bk (aV wd ht f)=wd*ht then(if used.length=l.length then some [] else none)
   else(ZF l.length).findSome? fun i:Nat=>if (i:Int)∈used then none else [false,true].findSome? (nJ (dc l wd ht 0) l wd ht f used (bk (aV wd ht f)) i) from rfl]
  have hfa:bk (aV wd ht f)≤(aV wd ht f).length:=ZZ;have hbef:∀i (h:i<(aV wd ht f).length),i<bk (aV wd ht f)→¬(aV wd ht f)[i]<0:=fun i h hi=>by
   have:=List.not_of_lt_findIdx hi;simpa using this
  have haft:∀(h:bk (aV wd ht f)<(aV wd ht f).length),(aV wd ht f)[bk (aV wd ht f)]<0:=fun h=>by
   exact of_decide_eq_true (List.findIdx_getElem (p:=fun v=>decide (v<0)) (xs:=aV wd ht f) (w:=h))
  generalize bk (aV wd ht f)=a at *;generalize aV wd ht f=G at *;refine ax _ (dn a (fun i=>[ints G,I (wd:Int),I (ht:Int),pcs l,z,I (i:Int)]) (.ext 0 [ints G,I (wd:Int),I (ht:Int),pcs l,z,I (a:Int)]) (fun i hi=>?_) ?_ rfl rfl) ?_
  ·have hw:ZE.wrap ((i:Int)+1)=(i:Int)+1:=ae (by omega) (by omega)
   have hi2:i<G.length:=by omega
   have hi':(i:Int)<(G.length:Int):=by omega
   have hri:aI 1 (ints G) (I (i:Int))=some [I G[i]]:=by simp [hi2]
   have hb:=hbef i hi2 hi;have hb':0≤G[i]:=by omega
   generalize G[i]=v at *;simp -implicitDefEqProofs [hi',hri,hb',hw]
  ·by_cases ha:a<G.length
   ·have ha':(a:Int)<(G.length:Int):=by omega
    have hri:aI 1 (ints G) (I (a:Int))=some [I G[a]]:=by simp [ha]
    have hb:=haft ha;have hb':¬0≤G[a]:=by omega
    generalize G[a]=v at *;simp -implicitDefEqProofs [ha',hri,hb']
   ·have ha':¬(a:Int)<(G.length:Int):=by omega
    simp -implicitDefEqProofs [ha']
  ·by_cases ha:a=wd*ht
   ·have ha':(a:Int)=(G.length:Int):=by omega
    have e:used.length=l.length:=by omega
    rw [if_pos ha,if_pos e];simp -implicitDefEqProofs [ha',hrow.len,e,iQ]
   ·have ha':¬(a:Int)=(G.length:Int):=by omega
    rw [if_neg ha];have hnone:((ZF l.length).findSome? fun i:Nat=>if (i:Int)∈used then none else [false,true].findSome? (nJ (dc l wd ht 0) l wd ht f used a i))=none:=by
     rw [List.findSome?_eq_none_iff];intro i hi;rw [if_pos (hall i (ZI.1 hi))]
    rw [hnone];simp -implicitDefEqProofs [ha'];refine ax _ (dn l.length (fun i=>[ints G,I (wd:Int),I (ht:Int),pcs l,z,I (a:Int),pcs l,I (l.length:Int),I (i:Int)]) (.ext 2 []) (fun i hi=>?_) ?_ rfl rfl) ?_
    ·have hw:ZE.wrap ((i:Int)+1)=(i:Int)+1:=ae (by omega) (by omega)
     have hi':(i:Int)<(l.length:Int):=by omega
     have hri:=ED hi;have hh:=hz.has (by omega) (i:Int);rw [decide_eq_true (hall i hi)] at hh;simp -implicitDefEqProofs [hi',hri,hh,hw]
    ·simp -implicitDefEqProofs
    ·simp -implicitDefEqProofs [iQ]
 | succ k ih =>
  intro f used z hf hnd hin hz hk;have h8:=oz hl;have hrow:=hz.row (by omega);have b0:=MM hw8 hh8;have hlG:(aV wd ht f).length=wd*ht:=iN wd ht f;have hput:=fun i hi t at_ hat=>Lk wd ht hw1 hh1 hw8 hh8 l hl f hf i hi t at_ hat
  have hpok:∀(i:Nat),i<l.length→∀at_ t g,qe l wd ht f (bC wd i at_ t)=some g→GOK wd ht g:=fun i hi at_ t g h=>SJ hl hf hi h
  rw [me];rw [show dc l wd ht (k+1+1) f used=if bk (aV wd ht f)=wd*ht then(if used.length=l.length then some [] else none)
   else(ZF l.length).findSome? fun i:Nat=>if (i:Int)∈used then none else [false,true].findSome? (nJ (dc l wd ht (k+1)) l wd ht f used (bk (aV wd ht f)) i) from rfl]
  have hfa:bk (aV wd ht f)≤(aV wd ht f).length:=ZZ;have hbef:∀i (h:i<(aV wd ht f).length),i<bk (aV wd ht f)→¬(aV wd ht f)[i]<0:=fun i h hi=>by
   have:=List.not_of_lt_findIdx hi;simpa using this
  have haft:∀(h:bk (aV wd ht f)<(aV wd ht f).length),(aV wd ht f)[bk (aV wd ht f)]<0:=fun h=>by
   exact of_decide_eq_true (List.findIdx_getElem (p:=fun v=>decide (v<0)) (xs:=aV wd ht f) (w:=h))
  generalize bk (aV wd ht f)=a at *;generalize aV wd ht f=G at *;refine ax _ (dn a (fun i=>[ints G,I (wd:Int),I (ht:Int),pcs l,z,I (i:Int)]) (.ext 0 [ints G,I (wd:Int),I (ht:Int),pcs l,z,I (a:Int)]) (fun i hi=>?_) ?_ rfl rfl) ?_
  ·have hw:ZE.wrap ((i:Int)+1)=(i:Int)+1:=ae (by omega) (by omega)
   have hi2:i<G.length:=by omega
   have hi':(i:Int)<(G.length:Int):=by omega
   have hri:aI 1 (ints G) (I (i:Int))=some [I G[i]]:=by simp [hi2]
   have hb:=hbef i hi2 hi;have hb':0≤G[i]:=by omega
   generalize G[i]=v at *;simp -implicitDefEqProofs [hi',hri,hb',hw]
  ·by_cases ha:a<G.length
   ·have ha':(a:Int)<(G.length:Int):=by omega
    have hri:aI 1 (ints G) (I (a:Int))=some [I G[a]]:=by simp [ha]
    have hb:=haft ha;have hb':¬0≤G[a]:=by omega
    generalize G[a]=v at *;simp -implicitDefEqProofs [ha',hri,hb']
   ·have ha':¬(a:Int)<(G.length:Int):=by omega
    simp -implicitDefEqProofs [ha']
  ·by_cases ha:a=wd*ht
   ·have ha':(a:Int)=(G.length:Int):=by omega
    have e:¬used.length=l.length:=by omega
    have e':¬(used.length:Int)=(l.length:Int):=by omega
    rw [if_pos ha,if_neg e];simp -implicitDefEqProofs [ha',hrow.len,e',iQ]
   ·have ha':¬(a:Int)=(G.length:Int):=by omega
    have halt:a<wd*ht:=by omega
    rw [if_neg ha];simp -implicitDefEqProofs [ha'];refine ax _ (xe (ZF l.length) (fun i=>[ints G,I (wd:Int),I (ht:Int),pcs l,z,I (a:Int),pcs l,I (l.length:Int),I (i:Int)]) (fun i:Nat=>(if (i:Int)∈used then none else [false,true].findSome? (nJ (dc l wd ht (k+1)) l wd ht f used a i)).map fun q=>.ret [pls q,B true] []) (.ext 2 []) (fun i hi=>?_) ?_ (fun x r h=>?_) rfl rfl) ?_
    ·rw [List.getElem_range]
     have hi:i<l.length:=by simpa using hi
     have hw:ZE.wrap ((i:Int)+1)=(i:Int)+1:=ae (by omega) (by omega);have hi':(i:Int)<(l.length:Int):=by omega
     have hri:=ED hi;have hh:=hz.has (by omega) (i:Int);have hgd:l.getD i (0,0)=l[i]:=by rw [aaq,aaf hi];rfl
     by_cases hu:(i:Int)∈used
     ·rw [decide_eq_true hu] at hh
      rw [if_pos hu];simp -implicitDefEqProofs [hi',hri,hh,hw]
     ·rw [decide_eq_false hu] at hh
      rw [if_neg hu];have hm2:ay 1 [D.v (aaI false),D.v (aaI true)]=some (.arr 1 [B false,B true]):=by simp [ay,eA]
      have hused:∀g:Gr,GOK wd ht g→dH (k+1) [ints (aV wd ht g),I (wd:Int),I (ht:Int),pcs l,ints (used++[(i:Int)])]=some (.ret (iQ (dc l wd ht (k+1) g (used++[(i:Int)]))) []):=fun g hg=>by
       refine ih g (used++[(i:Int)]) (ints (used++[(i:Int)])) hg ?_ (fun u hu'=>?_) (.inl rfl) (by rw [aam];simp;omega)
       ·exact aar.2 ⟨hnd,by simp,fun x hx y hy e=>hu (by rw [ZP.1 hy] at e;exact e ▸ hx)⟩
       ·rcases aau.1 hu' with h | h
        ·exact hin u h
        ·rw [ZP.1 h]
         omega
      have hpt:=fun t=>hput i hi t a halt
      have hpk:=hpok i hi a;have hown:=hz.own (by omega);have ho:=EA (i:Int);have hap:=AK (l:=used) (m:=[(i:Int)]) (by simp;omega);have htm:=MW a wd;have htd:=Nb a wd;have hYa:a / wd≤a:=Nat.div_le_self _ _;obtain⟨X,hX⟩:∃X,X=a % wd:=⟨_,rfl⟩
      obtain⟨Y,hY⟩:∃Y,Y=a / wd:=⟨_,rfl⟩
      rw [←hX] at htm;rw [←hY] at htd hYa;have hwd0:¬wd=0:=by omega
      have hwq:ZE.wrap (Y:Int)=(Y:Int):=ae (by omega) (by omega);have htry:∀t,nJ (dc l wd ht (k+1)) l wd ht f used a i t=if t=true∧l[i].1=l[i].2 then none else
       match qe l wd ht f (bC wd i a t) with
       | none=>none
       | some g=>(dc l wd ht (k+1) g (used++[(i:Int)])).map (bC wd i a t::·):=fun t=>by
       unfold nJ;rw [hgd]
      have hfok:∀g q,dc l wd ht (k+1) g (used++[(i:Int)])=some q→q.length≤8:=fun g q h=>by
       have:=(EB l wd ht hw1 hw8 hh8 (k+1) _ _ _ h).1;omega
      obtain⟨S,hS⟩:∃S,S=[false,true].findSome? (nJ (dc l wd ht (k+1)) l wd ht f used a i):=⟨_,rfl⟩
      rw [←hS];simp -implicitDefEqProofs [hi',hri,hh,hm2];generalize hpc:l[i]=pc at *;generalize dc l wd ht (k+1)=rec at *;refine ax _ (xe [false,true] (fun j=>[ints G,I (wd:Int),I (ht:Int),pcs l,z,I (a:Int),I (i:Int),pce pc,pcs l,I (l.length:Int),I (i:Int),.arr 1 [B false,B true],I 2,I (j:Int)]) (fun t=>(nJ rec l wd ht f used a i t).map fun q=>.ret [pls q,B true] []) (.ext 4 [ints G,I (wd:Int),I (ht:Int),pcs l,z,I (a:Int),pcs l,I (l.length:Int),I (i:Int)]) (fun j hj=>?_) ?_ (fun x r h=>?_) rfl rfl) ?_
      ·have hj2:j<2:=by simpa using hj
       have hwj:ZE.wrap ((j:Int)+1)=(j:Int)+1:=ae (by omega) (by omega);have hj':(j:Int)<2:=by omega
       have hrj:aI 1 (.arr 1 [B false,B true]) (I (j:Int))=some [B [false,true][j]]:=by
        show aI 1 (.arr 1 ([false,true].map B)) (I (j:Int))=_
        rw [gu,aas,aaf hj];rfl
       generalize [false,true][j]=t at *;rw [htry t];have hptt:=hpt t;have hfld:ba true 2 0 (pce pc)=some (pce pc):=by simp
       by_cases hsq:t=true∧pc.1=pc.2
       ·rw [if_pos hsq]
        obtain⟨rfl,hsq⟩:=hsq;simp -implicitDefEqProofs [hj',hrj,hsq,hwj,-gu]
       ·rw [if_neg hsq]
        have hgate:(t=true→¬pc.1=pc.2):=fun h1 h2=>hsq ⟨h1,h2⟩
        cases hpo:qe l wd ht f (bC wd i a t) with
        | none =>
         rw [hpo] at hptt;obtain⟨u1,u2,u3⟩:=OI [] false;cases t
         ·simp -implicitDefEqProofs [hj',hrj,hwj,hfld,hptt,tl,u1,u3,-gu,-kr,-iT,-kF]
         ·have hne:=hgate rfl
          simp -implicitDefEqProofs [hj',hrj,hne,hwj,hfld,hptt,tl,u1,u3,-gu,-kr,-iT,-kF]
        | some g =>
         rw [hpo] at hptt;have hrec:=hused g (hpk t g hpo);have hfk:=hfok g;obtain⟨u1,u2,u3⟩:=OI (aV wd ht g) true;have hb:=YR (i:Int) (X:Int) (Y:Int) t;have hmk:=YN ((i:Int),(X:Int),(Y:Int),t);have hpe:bC wd i a t=((i:Int),(X:Int),(Y:Int),t):=by rw [hX,hY]
         dsimp only;rw [hpe];generalize rec g (used++[(i:Int)])=res at *;cases res with
         | none =>
          obtain⟨v1,v2⟩:=HZ [] false;cases t
          ·simp -implicitDefEqProofs [hj',hrj,hwj,hfld,hptt,tl,u1,u3,hown,ho,hap,hrec,iQ,v1,v2,-gu,-kr,-iT,-kF,-bv]
          ·have hne:=hgate rfl
           simp -implicitDefEqProofs [hj',hrj,hne,hwj,hfld,hptt,tl,u1,u3,hown,ho,hap,hrec,iQ,v1,v2,-gu,-kr,-iT,-kF,-bv]
         | some q =>
          obtain⟨v1,v2⟩:=HZ q true;have hq8:=hfk q rfl;have hck:=Xb q;have hpa:=Xe (q:=[((i:Int),(X:Int),(Y:Int),t)]) (r:=q) (by simp;omega);rw [aax] at hpa;cases t
          ·simp -implicitDefEqProofs [hj',hrj,hwj,hfld,hptt,tl,u1,u3,hown,ho,hap,hrec,iQ,v1,v2,htm,htd,hwd0,hwq,hb,hmk,hck,hpa,-gu,-kr,-iT,-kF,-bv]
          ·have hne:=hgate rfl
           simp -implicitDefEqProofs [hj',hrj,hne,hwj,hfld,hptt,tl,u1,u3,hown,ho,hap,hrec,iQ,v1,v2,htm,htd,hwd0,hwq,hb,hmk,hck,hpa,-gu,-kr,-iT,-kF,-bv]
      ·simp -implicitDefEqProofs
      ·cases hx:nJ rec l wd ht f used a i x with
       | none=>rw [hx] at h;cases h
       | some q=>rw [hx] at h;cases h;rfl
      ·rw [sw,←hS]
       cases S with
       | none=>simp -implicitDefEqProofs [hw]
       | some q=>simp -implicitDefEqProofs
    ·simp -implicitDefEqProofs
    ·cases hx:(if (x:Int)∈used then none else [false,true].findSome? (nJ (dc l wd ht (k+1)) l wd ht f used a x)) with
     | none=>rw [hx] at h;cases h
     | some q=>rw [hx] at h;cases h;rfl
    ·rw [sw]
     cases ((ZF l.length).findSome? fun i:Nat=>if (i:Int)∈used then none else [false,true].findSome? (nJ (dc l wd ht (k+1)) l wd ht f used a i)) with
     | none=>simp -implicitDefEqProofs [iQ]
     | some q=>simp -implicitDefEqProofs [iQ]
open Go Go.Proofs Go.V Go.RowKit
set_option maxRecDepth 100000
theorem Pj {G:List Int} {p:Nat} (hp:p<G.length) (h1:G[p]<0) (h2:∀j (hj:j<p),¬G[j]<0):bk G=p:=by
 unfold bk;rw [List.findIdx_eq hp];exact⟨by simpa using h1,fun j hj=>by simpa using h2 j hj⟩
theorem Lv {G:List Int} (h:∀j (hj:j<G.length),¬G[j]<0):bk G=G.length:=by
 unfold bk;rw [List.findIdx_eq_length];intro x hx;obtain⟨j,hj,rfl⟩:=List.getElem_of_mem hx;simpa using h j hj
theorem OD {wd ht:Nat} (f:Gr) {i:Nat} (hi:i<(aV wd ht f).length):(aV wd ht f)[i]=f (i / wd) (i % wd):=by
 have h:(aV wd ht f)[i]?=some (f (i / wd) (i % wd)):=by
  have hi':i<wd*ht:=by rw [iN] at hi;exact hi
  unfold aV;rw [aas,aaA hi'];rfl
 exact(List.getElem?_eq_some_iff.1 h).2
def NT (wd:Nat) (f:Gr) (y x:Nat):Prop:=∀y' x',(y'<y∨(y'=y∧x'<x))→x'<wd→f y' x' ≠ -1
theorem Hd {wd ht:Nat} {f:Gr} (hf:GOK wd ht f) (hw:0<wd) {y x:Nat} (h:NT wd f y x) (hx:x≤wd) (hp:y*wd+x≤wd*ht):∀j (hj:j<(aV wd ht f).length),j<y*wd+x→¬(aV wd ht f)[j]<0:=by
 intro j hj hjp;rw [OD f hj];rw [iN] at hj;have h1:j % wd<wd:=aay _ hw;have h2:j / wd<ht:=aai hj;have h3:=aaH j wd;have hl:j / wd<y∨(j / wd=y∧j % wd<x):=by
  rcases Nat.lt_trichotomy (j / wd) y with h4 | h4 | h4
  ·exact .inl h4
  ·refine .inr ⟨h4,?_⟩
   rw [h4,aaj] at h3;omega
  ·exfalso
   have h5:(y+1)*wd≤(j / wd)*wd:=Nat.mul_le_mul_right _ h4;rw [Nat.add_mul,Nat.one_mul] at h5;rw [aaj] at h3;omega
 have h6:=h _ _ hl h1;have h7:=(hf _ _ h2 h1).1;omega
def oU (wd ht a:Nat):List D:=if a=wd*ht then [I 0,I 0,B false] else [I ((a % wd:Nat):Int),I ((a / wd:Nat):Int),B true]
set_option maxHeartbeats 1000000 in
theorem CU (wd ht:Nat) (hw1:1≤wd) (hw8:wd≤8) (hh8:ht≤8) (f:Gr) (hf:GOK wd ht f):lQ [iA (eU wd ht f)]=some (.ret (oU wd ht (bk (aV wd ht f))) []):=by
 have hl1:((eU wd ht f).map ints).length=ht:=by simp [HA]
 have hfl:(aV wd ht f).length=wd*ht:=iN wd ht f;rw [Db];simp only [aS,hl1,aaa];refine bu (fun r=>r=some (.ret (oU wd ht (bk (aV wd ht f))) [])) (fun y:Nat=>[iA (eU wd ht f),I (ht:Int),I (y:Int)]) (fun y=>y≤ht∧NT wd f y 0) (fun y=>ht - y)
  (fun o=>(o = .ext 0 []∧bk (aV wd ht f)=wd*ht)∨o = .ret (oU wd ht (bk (aV wd ht f))) []) (fun y hy=>?_) 0 ⟨ZS _,fun y' x' h=>by omega⟩ rfl (fun o ho=>?_)
 ·obtain⟨y1,y2⟩:=hy
  have hwy:ZE.wrap ((y:Int)+1)=(y:Int)+1:=ae (by omega) (by omega);by_cases d1:y<ht
  ·have d1':(y:Int)<(ht:Int):=by omega
   have hry:=EN (wd:=wd) f (y:=y) (ht:=ht) d1;have hlr:(((ZF wd).map fun x=>f y x).map I).length=wd:=by simp
   simp -implicitDefEqProofs [d1',hry];refine bu (fun r'=>(∃a':Nat,r'=some (.nrm [iA (eU wd ht f),I (ht:Int),I (a':Int)])∧(a'≤ht∧NT wd f a' 0)∧ht - a'<ht - y)∨∃o,r'=some o∧o.ends=true∧((o = .ext 0 []∧bk (aV wd ht f)=wd*ht)∨o = .ret (oU wd ht (bk (aV wd ht f))) []))
    (fun x:Nat=>[I (y:Int),iA (eU wd ht f),I (ht:Int),I (y:Int),ints ((ZF wd).map fun x=>f y x),I (wd:Int),I (x:Int)]) (fun x=>x≤wd∧NT wd f y x) (fun x=>wd - x)
    (fun o=>(o = .ext 2 [iA (eU wd ht f),I (ht:Int),I (y:Int)]∧NT wd f (y+1) 0)∨o = .ret (oU wd ht (bk (aV wd ht f))) []) (fun x hx=>?_) 0 ⟨ZS _,y2⟩ rfl (fun o ho=>?_)
   ·obtain⟨x1,x2⟩:=hx
    have hwx:ZE.wrap ((x:Int)+1)=(x:Int)+1:=ae (by omega) (by omega);by_cases e1:x<wd
    ·have e1':(x:Int)<(wd:Int):=by omega
     have hrx:=SM (wd:=wd) (fun x=>f y x) (x:=x) e1;by_cases e2:f y x = -1
     ·have hp:y*wd+x<wd*ht:=NQ d1 e1
      have hfa:bk (aV wd ht f)=y*wd+x:=Pj (by omega) (by
       rw [OD f (by omega)];obtain⟨k1,k2⟩:=Cf (y:=y) e1;rw [k1,k2,e2];decide) (fun j hj=>Hd hf (by omega) x2 (by omega) (by omega) j (by omega) hj)
      obtain⟨k1,k2⟩:=Cf (y:=y) e1;refine .inr ⟨.ret [I (x:Int),I (y:Int),B true] [],?_,rfl,.inr ?_⟩
      ·simp -implicitDefEqProofs [e1',hrx,e2]
      ·rw [hfa]
       unfold oU;rw [if_neg (by omega),k1,k2]
     ·refine .inl ⟨x+1,?_,⟨by omega,fun y' x' h1 h2=>?_⟩,by omega⟩
      ·simp -implicitDefEqProofs [e1',hrx,e2,hwx]
      ·by_cases e3:y'=y∧x'=x
       ·obtain⟨rfl,rfl⟩:=e3
        exact e2
       ·exact x2 y' x' (by omega) h2
    ·have e1':¬(x:Int)<(wd:Int):=by omega
     refine .inr ⟨_,?_,?_,.inl ⟨rfl,fun y' x' h1 h2=>x2 y' x' (by omega) h2⟩⟩
     ·simp -implicitDefEqProofs [e1']
     ·rfl
   ·rcases ho with ⟨rfl,h2⟩ | rfl
    ·exact .inl ⟨y+1,by simp -implicitDefEqProofs [hwy],⟨by omega,h2⟩,by omega⟩
    ·exact .inr ⟨_,by simp -implicitDefEqProofs,rfl,.inr rfl⟩
  ·have d1':¬(y:Int)<(ht:Int):=by omega
   have hye:y=ht:=by omega
   subst hye;refine .inr ⟨.ext 0 [],by simp -implicitDefEqProofs,rfl,.inl ⟨rfl,?_⟩⟩
   rw [←hfl];refine Lv fun j hj=>Hd hf (by omega) y2 (ZS _) (by rw [aaj];omega) j hj ?_
   rw [hfl,aaj] at hj;omega
 ·rcases ho with ⟨rfl,h2⟩ | rfl
  ·rw [h2]
   simp -implicitDefEqProofs [oU]
  ·simp -implicitDefEqProofs
structure BRow (W:World) (u n:Nat) (v:Nat→Bool):Prop where
 out:∃cur,W.heap[u]?=some (.cells cur 4 (0,0))∧n≤cur.size∧∀i,i<n→cur[i]?=some (.bool (v i))
section
variable {W W':World} {u n:Nat} {v:Nat→Bool}
theorem BRow.cell (h:BRow W u n v) {i:Nat} (hi:i<n):W.cell? ⟨u,i,none⟩=some (.bool (v i)):=by
 obtain⟨cur,h1,_,h2⟩:=h.out;rw [aab h1];exact h2 i hi
theorem BRow.fz (h:BRow W u n v) (i:Nat):W.frozen? ⟨u,i,none⟩=false:=by
 obtain⟨cur,h1,_⟩:=h.out;exact aan h1 i
theorem BRow.lt (h:BRow W u n v):u<W.heap.size:=by
 obtain⟨cur,h1,_⟩:=h.out;exact aG h1
theorem BRow.kept (h:BRow W u n v) (hk:W'.heap[u]?=W.heap[u]?):BRow W' u n v:=by
 obtain⟨cur,h1,h2⟩:=h.out;exact⟨cur,hk.trans h1,h2⟩
theorem BRow.below (h:BRow W u n v) (hb:Below W.heap.size W W'):BRow W' u n v:=h.kept (hb.block u h.lt)
theorem BRow.set (h:BRow W u n v) (x:Nat) (b:Bool):BRow (W.setCell ⟨u,x,none⟩ (.bool b)) u n fun i=>if i=x then b else v i:=by
 obtain⟨cur,h1,h2,h3⟩:=h.out;refine⟨cur.setIfInBounds x (.bool b),heap_setCell_same _ _ _ _ _ _ h1,by simpa using h2,fun c hc=>?_⟩
 by_cases e:c=x
 ·subst e
  simp [show c<cur.size by omega]
 ·rw [ZH (fun h=>e h.symm),if_neg e]
  exact h3 c hc
theorem BRow.congr (h:BRow W u n v) {v':Nat→Bool} (he:∀i,i<n→v i=v' i):BRow W u n v':=by
 obtain⟨cur,h1,h2,h3⟩:=h.out;exact⟨cur,h1,h2,fun i hi=>by rw [h3 i hi,he i hi]⟩
end
structure PRow (W:World) (q n:Nat) (pl:Nat→Pl):Prop where
 out:∃cur,W.heap[q]?=some (.cells cur 76 (0,0))∧n*4≤cur.size∧∀i,i<n→cur[i*4]?=some (.int .i64 (pl i).1)∧cur[i*4+1]?=some (.int .i64 (pl i).2.1)∧cur[i*4+2]?=some (.int .i64 (pl i).2.2.1)∧cur[i*4+3]?=some (.bool (pl i).2.2.2)
section
variable {W W':World} {q n:Nat} {pl:Nat→Pl}
theorem PRow.fz (h:PRow W q n pl) (i:Nat):W.frozen? ⟨q,i,none⟩=false:=by
 obtain⟨cur,h1,_⟩:=h.out;exact aan h1 i
theorem PRow.lt (h:PRow W q n pl):q<W.heap.size:=by
 obtain⟨cur,h1,_⟩:=h.out;exact aG h1
theorem PRow.cell (h:PRow W q n pl) {i:Nat} (hi:i<n):W.cell? ⟨q,i*4,none⟩=some (.int .i64 (pl i).1)∧W.cell? ⟨q,i*4+1,none⟩=some (.int .i64 (pl i).2.1)∧W.cell? ⟨q,i*4+2,none⟩=some (.int .i64 (pl i).2.2.1)∧W.cell? ⟨q,i*4+3,none⟩=some (.bool (pl i).2.2.2):=by
 obtain⟨cur,h1,_,h2⟩:=h.out;obtain⟨k1,k2,k3,k4⟩:=h2 i hi;refine⟨?_,?_,?_,?_⟩<;>rw [aab h1]<;>assumption
theorem PRow.kept (h:PRow W q n pl) (hk:W'.heap[q]?=W.heap[q]?):PRow W' q n pl:=by
 obtain⟨cur,h1,h2⟩:=h.out;exact⟨cur,hk.trans h1,h2⟩
theorem PRow.below (h:PRow W q n pl) (hb:Below W.heap.size W W'):PRow W' q n pl:=h.kept (hb.block q h.lt)
def Ep (W:World) (q x:Nat) (p:Pl):World:=(((W.setCell ⟨q,x*4,none⟩ (.int .i64 p.1)).setCell ⟨q,x*4+1,none⟩ (.int .i64 p.2.1)).setCell ⟨q,x*4+2,none⟩ (.int .i64 p.2.2.1)).setCell ⟨q,x*4+3,none⟩ (.bool p.2.2.2)
theorem PRow.put (h:PRow W q n pl) (x:Nat) (p:Pl):PRow (Ep W q x p) q n fun i=>if i=x then p else pl i:=by
 obtain⟨cur,h1,h2,h3⟩:=h.out;refine⟨(((cur.setIfInBounds (x*4) (.int .i64 p.1)).setIfInBounds (x*4+1) (.int .i64 p.2.1)).setIfInBounds (x*4+2) (.int .i64 p.2.2.1)).setIfInBounds (x*4+3) (.bool p.2.2.2),?_,by simpa using h2,fun c hc=>?_⟩
 ·exact heap_setCell_same _ _ _ _ _ _ (heap_setCell_same _ _ _ _ _ _ (heap_setCell_same _ _ _ _ _ _ (heap_setCell_same _ _ _ _ _ _ h1)))
 ·obtain⟨k1,k2,k3,k4⟩:=h3 c hc
  by_cases e:c=x
  ·subst e
   simp only [if_true];have g1:c*4<cur.size:=by omega
   have g2:c*4+1<cur.size:=by omega
   have g3:c*4+2<cur.size:=by omega
   have g4:c*4+3<cur.size:=by omega
   refine⟨?_,?_,?_,?_⟩<;>simp [aal,g1,g2,g3,g4]
  ·have n1:∀a b:Nat,a<4→b<4→¬x*4+a=c*4+b:=fun a b ha hb he=>e (by omega)
   simp only [if_neg e];have m1:=n1 0 0 (by omega) (by omega);have m2:=n1 0 1 (by omega) (by omega);have m3:=n1 0 2 (by omega) (by omega);have m4:=n1 0 3 (by omega) (by omega);refine⟨?_,?_,?_,?_⟩
   all_goals
    rw [ZH (by omega),ZH (by omega),ZH (by omega),ZH (by omega)];assumption
theorem yt {W:World} {q x:Nat} {p:Pl} {b:Nat} (h:b≠q):(Ep W q x p).heap[b]?=W.heap[b]?:=by
 unfold Ep;rw [heap_setCell_other _ _ _ _ h,heap_setCell_other _ _ _ _ h,heap_setCell_other _ _ _ _ h,heap_setCell_other _ _ _ _ h]
end
structure KeptX (bs:Nat→Nat) (ht u q:Nat) (W W':World):Prop where
 os:W'.os=W.os
 tape:W'.tape=W.tape
 output:W'.output=W.output
 size:W.heap.size≤W'.heap.size
 block:∀b,b<W.heap.size→(∀y,y<ht→b≠bs y)→b≠u→b≠q→W'.heap[b]?=W.heap[b]?
section
variable {bs:Nat→Nat} {ht u q:Nat} {W W' W'':World}
theorem KeptX.of (h:Below W.heap.size W W'):KeptX bs ht u q W W':=⟨h.os,h.tape,h.output,h.size,fun b hb _ _ _=>h.block b hb⟩
theorem KeptX.ofG (h:KeptG bs ht W W'):KeptX bs ht u q W W':=⟨h.os,h.tape,h.output,h.size,fun b hb hn _ _=>h.block b hb hn⟩
theorem KeptX.trans (h:KeptX bs ht u q W W') (h':KeptX bs ht u q W' W''):KeptX bs ht u q W W'' :=
 ⟨h'.os.trans h.os,h'.tape.trans h.tape,h'.output.trans h.output,Nat.le_trans h.size h'.size,fun b hb hn hu hq=>(h'.block b (aaB hb h.size) hn hu hq).trans (h.block b hb hn hu hq)⟩
theorem KeptX.setU {x:Nat} {v:Value}:KeptX bs ht u q W (W.setCell ⟨u,x,none⟩ v) :=
 ⟨rfl,rfl,rfl,by simp [aaP],fun b _ _ hu _=>heap_setCell_other W ⟨u,x,none⟩ b v hu⟩
theorem KeptX.putQ {x:Nat} {p:Pl}:KeptX bs ht u q W (Ep W q x p) :=
 ⟨rfl,rfl,rfl,by simp [Ep,aaP],fun b _ _ _ hq=>yt hq⟩
theorem KeptX.below (h:KeptX bs ht u q W W') {B:Nat} (hB:B≤W.heap.size) (hb:∀y,y<ht→B≤bs y) (hu:B≤u) (hq:B≤q):Below B W W' :=
 ⟨h.os,h.tape,h.output,h.size,fun b hlt=>h.block b (by omega) (fun y hy e=>by have:=hb y hy;omega) (by omega) (by omega)⟩
end
end Go.Proofs.YtccaheogjpfhjaaGreat

namespace Go.Proofs.YtccaheogjpfhjaaGreat
open Go Go.Proofs Go.V Go.RowKit Go.Lib
set_option maxRecDepth 100000
def vR (rec:Gr→List Int→Option (List Pl)) (l:Ps) (wd ht:Nat) (f:Gr) (used:List Int) (at_ i:Nat) (t:Bool):Option (List Pl) :=
 match qe l wd ht f (bC wd i at_ t) with
 | none=>none
 | some g=>(rec g (used++[(i:Int)])).map (bC wd i at_ t::·)
theorem Xo {l:Ps} {i:Nat} (h:(l.getD i (0,0)).1=(l.getD i (0,0)).2) (wd at_:Nat):szI l (bC wd i at_ true)=szI l (bC wd i at_ false):=by
 unfold szI;simp only [ZO,if_true,aao,if_false];exact Prod.ext h.symm h
theorem Yi {l:Ps} {i:Nat} (h:(l.getD i (0,0)).1=(l.getD i (0,0)).2) (wd ht:Nat) (f:Gr) (at_:Nat):qe l wd ht f (bC wd i at_ true)=qe l wd ht f (bC wd i at_ false):=by
 have e:szN l (bC wd i at_ true)=szN l (bC wd i at_ false):=by unfold szN;rw [Xo h]
 have eR:nv wd ht f l (bC wd i at_ true)=nv wd ht f l (bC wd i at_ false):=by unfold nv;rw [e]
 have eP:qf f l (bC wd i at_ true)=qf f l (bC wd i at_ false):=by unfold qf;rw [e]
 have eB:jo wd ht f l (bC wd i at_ true)=jo wd ht f l (bC wd i at_ false):=congrArg (fun P=>@decide P (ZU P)) eR;unfold qe;rw [eP,eB]
theorem VV (rec:Gr→List Int→Option (List Pl)) (l:Ps) (wd ht:Nat) (f:Gr) (used:List Int) (at_ i:Nat):[false,true].findSome? (nJ rec l wd ht f used at_ i)=[false,true].findSome? (vR rec l wd ht f used at_ i):=by
 have h0:nJ rec l wd ht f used at_ i false=vR rec l wd ht f used at_ i false:=by
  unfold nJ vR;rw [if_neg (by simp)]
  all_goals rfl
 by_cases hs:(l.getD i (0,0)).1=(l.getD i (0,0)).2
 ·have h1:nJ rec l wd ht f used at_ i true=none:=by
   unfold nJ;rw [if_pos ⟨rfl,hs⟩]
  have h2:vR rec l wd ht f used at_ i false=none→vR rec l wd ht f used at_ i true=none:=by
   unfold vR;rw [Yi hs];cases qe l wd ht f (bC wd i at_ false) with
   | none=>exact fun h=>h
   | some g =>
    intro h;simp only [Option.map_eq_none_iff] at h ⊢;exact h
  simp only [ZK,aap,h0,h1];cases hx:vR rec l wd ht f used at_ i false with
  | none=>rw [h2 hx]
  | some q=>rfl
 ·have h1:nJ rec l wd ht f used at_ i true=vR rec l wd ht f used at_ i true:=by
   unfold nJ vR;rw [if_neg (fun h=>hs h.2)]
   all_goals rfl
  simp only [ZK,aap,h0,h1]
theorem BRow.ne_g {W:World} {u n:Nat} {v:Nat→Bool} (h:BRow W u n v) {B g cap wd ht:Nat} {bs cs:Nat→Nat} {f:Gr} (hG:Grd W B g cap bs cs wd ht f) {y:Nat} (hy:y<ht):u≠bs y:=by
 obtain⟨cur,h1,_⟩:=h.out;obtain⟨_,_,cur',h2,_⟩:=hG.row y hy;intro e;rw [e,h2] at h1;simp at h1
theorem PRow.ne_g {W:World} {q n:Nat} {pl:Nat→Pl} (h:PRow W q n pl) {B g cap wd ht:Nat} {bs cs:Nat→Nat} {f:Gr} (hG:Grd W B g cap bs cs wd ht f) {y:Nat} (hy:y<ht):q≠bs y:=by
 obtain⟨cur,h1,_⟩:=h.out;obtain⟨_,_,cur',h2,_⟩:=hG.row y hy;intro e;rw [e,h2] at h1;simp at h1
theorem BRow.ne_q {W:World} {u q n m:Nat} {v:Nat→Bool} {pl:Nat→Pl} (h:BRow W u n v) (hP:PRow W q m pl):u≠q:=by
 obtain⟨cur,h1,_⟩:=h.out;obtain⟨cur',h2,_⟩:=hP.out;intro e;rw [e,h2] at h1;simp at h1
theorem Tm {α:Type} {o:Bool→Option α} {t:Bool} {r:α} (h:∀t':Bool,t'.toNat<t.toNat→o t'=none) (ht:o t=some r):[false,true].findSome? o=some r:=by
 cases t
 ·simp only [ZK,ht]
 ·simp only [ZK,h false (by decide),ht]
theorem TC {α:Type} {o:Bool→Option α} (h:∀t':Bool,t'.toNat<2→o t'=none):[false,true].findSome? o=none:=by
 simp only [ZK,aap,h false (by decide),h true (by decide)]
theorem Tu {wd ht:Nat} {f:Gr} {l:Ps} {p:Pl} (h:nv wd ht f l p):∀y x,mkA (qf f l p) p.2.1.toNat p.2.2.1.toNat (szN l p).1 (szN l p).2 (-1) y x=f y x:=by
 obtain⟨h1,h2,h3,h4,h5⟩:=h;intro y x;unfold qf mkA;by_cases e:p.2.2.1.toNat≤y∧y<p.2.2.1.toNat+(szN l p).2∧p.2.1.toNat≤x∧x<p.2.1.toNat+(szN l p).1
 ·rw [if_pos e]
  exact(h5 y x (by omega) (by omega) (by omega) (by omega)).symm
 ·rw [if_neg e,if_neg e]
def PY (l:Ps) (wd ht:Nat) (B g cap:Nat) (bs cs:Nat→Nat) (u q:Nat) (used:List Int) (f:Gr) (pl:Nat→Pl) (r:Option (List Pl)) (e:Ending) (w':World):Prop:=match r with
 | none=>e = .returned (.bool false)∧Grd w' B g cap bs cs wd ht f∧BRow w' u l.length (fun i=>decide ((i:Int)∈used))∧∃pl',PRow w' q l.length pl'∧∀i:Nat,(i:Int)∈used→pl' i=pl i
 | some qq=>e = .returned (.bool true)∧∃pl',PRow w' q l.length pl'∧(∀p∈qq,pl' p.1.toNat=p)∧∀i:Nat,(i:Int)∈used→pl' i=pl i
set_option maxHeartbeats 2000000 in
set_option maxRecDepth 1000000 in
theorem SF (l:Ps) (hl:ij l=true) (wd ht:Nat) (hw1:1≤wd) (hh1:1≤ht) (hw8:wd≤8) (hh8:ht≤8) (w0:World) (g cap u cu q cq:Nat) (bs cs:Nat→Nat) (pA:Option Addr) (pc:Nat) (hu:w0.heap.size≤u) (hq:w0.heap.size≤q)
    (hcu:l.length≤cu) (hcq:l.length≤cq)
    (hFst:∀(W:World) (f:Gr),Below w0.heap.size w0 W→GOK wd ht f→Grd W w0.heap.size g cap bs cs wd ht f→Calls Tryz.prog 70 #[.slice (some ⟨g,0,none⟩) ht cap] W fun e W'=>∃x y ok,e = .returned (.tuple #[.int .i64 x,.int .i64 y,.bool ok])∧[I x,I y,B ok]=oU wd ht (bk (aV wd ht f))∧Below W.heap.size W W')
    (hRoom:∀(W:World) (f:Gr) (p:Pl),Below w0.heap.size w0 W→GOK wd ht f→Grd W w0.heap.size g cap bs cs wd ht f→0≤p.1→p.1≤(l.length:Int) - 1→(0≤p.2.1∧p.2.1≤64)→(0≤p.2.2.1∧p.2.2.1≤64)→Calls Tryz.prog 71 #[.slice (some ⟨g,0,none⟩) ht cap,.slice pA l.length pc,FN p] W fun e W'=>e = .returned (.bool (jo wd ht f l p))∧Below W.heap.size W W')
    (hMark:∀(W:World) (f:Gr) (p:Pl) (n:Int),Below w0.heap.size w0 W→Grd W w0.heap.size g cap bs cs wd ht f→0≤p.1→p.1≤(l.length:Int) - 1→0≤p.2.1→0≤p.2.2.1→p.2.1+(szN l p).1≤wd→p.2.2.1+(szN l p).2≤ht→Calls Tryz.prog 72 #[.slice (some ⟨g,0,none⟩) ht cap,.slice pA l.length pc,FN p,.int .i64 n] W fun e W' =>
      e = .returned (.tuple #[])∧Grd W' w0.heap.size g cap bs cs wd ht (mkA f p.2.1.toNat p.2.2.1.toNat (szN l p).1 (szN l p).2 n)∧KeptG bs ht W W')
    (k:Nat)
    (ih:∀(m:Nat),m<k→∀(w:World) (f:Gr) (used:List Int) (pl:Nat→Pl),Below w0.heap.size w0 w→Grd w w0.heap.size g cap bs cs wd ht f→GOK wd ht f→BRow w u l.length (fun i=>decide ((i:Int)∈used))→PRow w q l.length pl→used.Nodup→(∀x∈used,0≤x∧x<l.length)→used.length+m=l.length →
      Calls Tryz.prog 29 #[.slice (some ⟨g,0,none⟩) ht cap,.slice pA l.length pc,.slice (some ⟨u,0,none⟩) l.length cu,.slice (some ⟨q,0,none⟩) l.length cq] w fun e w'=>KeptX bs ht u q w w'∧PY l wd ht w0.heap.size g cap bs cs u q used f pl (dc l wd ht (m+1) f used) e w')
    (w:World) (f:Gr) (used:List Int) (pl:Nat→Pl) (hB:Below w0.heap.size w0 w) (hG:Grd w w0.heap.size g cap bs cs wd ht f) (hf:GOK wd ht f) (hU:BRow w u l.length (fun i=>decide ((i:Int)∈used))) (hP:PRow w q l.length pl) (hnd:used.Nodup) (hin:∀x∈used,0≤x∧x<l.length) (hk:used.length+k=l.length) :
    Calls Tryz.prog 29 #[.slice (some ⟨g,0,none⟩) ht cap,.slice pA l.length pc,.slice (some ⟨u,0,none⟩) l.length cu,.slice (some ⟨q,0,none⟩) l.length cq] w fun e w'=>KeptX bs ht u q w w'∧PY l wd ht w0.heap.size g cap bs cs u q used f pl (dc l wd ht (k+1) f used) e w':=by
  have h8:=oz hl;have hbsB:∀y,y<ht→w0.heap.size≤bs y:=fun y hy=>(hG.row y hy).1
  have hub:∀y,y<ht→u≠bs y:=fun y hy=>hU.ne_g hG hy
  have hqb:∀y,y<ht→q≠bs y:=fun y hy=>hP.ne_g hG hy
  have huq:u≠q:=hU.ne_q hP;rw [show dc l wd ht (k+1) f used=if bk (aV wd ht f)=wd*ht then(if used.length=l.length then some [] else none)
      else(ZF l.length).findSome? fun i:Nat=>if (i:Int)∈used then none else [false,true].findSome? (nJ (dc l wd ht k) l wd ht f used (bk (aV wd ht f)) i) from rfl]
  obtain⟨FF,hFF⟩:∃FF:Nat→Option (List Pl),FF=fun i:Nat=>if (i:Int)∈used then none else [false,true].findSome? (nJ (dc l wd ht k) l wd ht f used (bk (aV wd ht f)) i):=⟨_,rfl⟩
  rw [←hFF];have HFF:Hid _:=hFF;clear hFF;have hfa:bk (aV wd ht f)≤wd*ht:=by rw [←iN wd ht f];exact ZZ
  have b0:=MM hw8 hh8
  go_enter Tryz.func29,Tryz.ntmps29
  have hc1:=hFst w f hB hf hG;generalize bk (aV wd ht f)=a at *;by_cases ha:a=wd*ht
  · rw [if_pos ha]
    rw [show oU wd ht a=[I 0,I 0,B false] by unfold oU;rw [if_pos ha]] at hc1;clear hFst hRoom hMark ih
    go_upto_region 2 with (go_at_call 70;refine hc1.mono ?_;rintro e w2 ⟨x,y,ok,rfl,hxy,hB2⟩)
    simp only [aav,D.v.injEq,aaJ,aaE,true_and,and_true] at hxy;obtain⟨rfl,rfl,rfl⟩:=hxy;have hU2:=hU.below hB2;have hG2:=hG.below hB2;have hP2:=hP.below hB2;have hK2:KeptX bs ht u q w w2:=KeptX.of hB2;clear hc1 hU hG hP hB hB2
    go_wp2
    go_loopw [28] (fun vi wr=>∃i:Nat,vi = .int .i64 i∧i≤l.length∧wr=w2∧∀j:Nat,j<i→(j:Int)∈used) (fun vi _=>l.length - (intOf vi).toNat)
    case atStart=>exact⟨0,rfl,ZS _,rfl,fun j hj=>by omega⟩
    case round =>
      obtain⟨i,rfl,hi,rfl,hall⟩:=hrel;by_cases hlt:i<l.length
      · have hi':(i:Int)<(l.length:Int):=by omega
        have hc:=hU2.cell hlt;by_cases hm:(i:Int)∈used
        · rw [decide_eq_true hm] at hc
          go_wp2
          refine⟨⟨i+1,congrArg (ZX .i64) (by omega),by omega,by trivial,fun j hj=>?_⟩,?_⟩
          · by_cases e:j=i
            · rw [e];exact hm
            · exact hall j (by omega)
          · show l.length - ((i:Int)+1).toNat<l.length - (i:Int).toNat
            omega
        · rw [decide_eq_false hm] at hc
          have hne:¬used.length=l.length:=fun e=>hm (Fi (N:=(ZF l.length).map fun n:Nat=>(n:Int)) hnd (fun n hn=>by
            have:=hin n hn;exact ZG.2 ⟨n.toNat,ZI.2 (by omega),by omega⟩) (by simp;omega) (i:Int) (ZG.2 ⟨i,ZI.2 hlt,rfl⟩))
          go_wp2
          go_ret
          exact⟨hK2,rfl,hG2,hU2,pl,hP2,fun j _=>rfl⟩
      · have hi':¬(i:Int)<(l.length:Int):=by omega
        have hie:i=l.length:=by omega
        have he:used.length=l.length:=by
          have h1:((ZF l.length).map fun n:Nat=>(n:Int)).Nodup:=List.Pairwise.map _ (fun(a b:Nat) (h:a≠b) (e:(a:Int)=b)=>h (by omega)) List.nodup_range;have h2:=h1.length_le_of_subset (l₂:=used) (fun x hx=>by
            obtain⟨j,hj,rfl⟩:=ZG.1 hx;exact hall j (by have:=ZI.1 hj;omega))
          simp at h2;omega
        go_wp2
        go_ret
        first | rw [if_pos he] | skip
        exact⟨hK2,rfl,pl,hP2,(fun p hp=>by cases hp),fun j _=>rfl⟩
  · rw [if_neg ha]
    rw [show oU wd ht a=[I ((a % wd:Nat):Int),I ((a / wd:Nat):Int),B true] by unfold oU;rw [if_neg ha]] at hc1;have hX:a % wd<wd:=aay _ (by omega);have hY:a / wd<ht:=aai (by omega);obtain⟨X,hXe⟩:∃X,X=a % wd:=⟨_,rfl⟩
    obtain⟨Y,hYe⟩:∃Y,Y=a / wd:=⟨_,rfl⟩
    have hpa:∀(i:Nat) (t:Bool),bC wd i a t=((i:Int),(X:Int),(Y:Int),t):=fun i t=>by rw [hXe,hYe]
    rw [←hXe] at hX hc1;rw [←hYe] at hY hc1;clear hFst hXe hYe
    go_upto_region 2 with (go_at_call 70;refine hc1.mono ?_;rintro e w2 ⟨x,y,ok,rfl,hxy,hB2⟩)
    simp only [aav,D.v.injEq,aaJ,aaE,true_and,and_true] at hxy;obtain⟨rfl,rfl,rfl⟩:=hxy;have hU2:=hU.below hB2;have hG2:=hG.below hB2;have hP2:=hP.below hB2;have hK2:KeptX bs ht u q w w2:=KeptX.of hB2;clear hc1 hU hG hP hB2
    go_wp2
    have hlu:u<w2.heap.size:=hU2.lt;have hlq:q<w2.heap.size:=hP2.lt;have hlb:∀y,y<ht→bs y<w2.heap.size:=fun y hy=>hG2.ltb hy
    have hlg:g<w2.heap.size:=hG2.ltg;have hwB:w0.heap.size≤w.heap.size:=hB.size
    go_loopw [37] (fun vi wr=>∃(i:Nat) (pl':Nat→Pl),vi = .int .i64 i∧i≤l.length∧Grd wr w0.heap.size g cap bs cs wd ht f∧BRow wr u l.length (fun i=>decide ((i:Int)∈used))∧PRow wr q l.length pl'∧(∀j:Nat,(j:Int)∈used→pl' j=pl j)∧KeptX bs ht u q w wr∧(ZF l.length).findSome? FF=(List.range' i (l.length - i)).findSome? FF) (fun vi _=>l.length - (intOf vi).toNat)
    case atStart=>exact⟨0,pl,rfl,ZS _,hG2,hU2,hP2,fun _ _=>rfl,hK2,by rw [List.range_eq_range'];rfl⟩
    case round =>
      clear hG2 hU2 hP2 hK2;obtain⟨i,pl',rfl,hi,hG,hU,hP,hag,hK,hF⟩:=hrel;by_cases hlt:i<l.length
      · have hi':(i:Int)<(l.length:Int):=by omega
        have hc:=hU.cell hlt;rw [show l.length - i=(l.length - (i+1))+1 by omega,List.range'_succ,ZK] at hF;by_cases hm:(i:Int)∈used
        · rw [decide_eq_true hm] at hc
          rw [show FF i=none by rw [HFF.out];simp only [if_pos hm]] at hF;have HF:Hid _:=hF;clear hF
          go_wp2
          refine⟨⟨i+1,pl',congrArg (ZX .i64) (by omega),by omega,hG,hU,hP,hag,hK,HF.out⟩,?_⟩
          show l.length - ((i:Int)+1).toNat<l.length - (i:Int).toNat
          omega
        · rw [decide_eq_false hm] at hc
          have hne:¬used.length=l.length:=fun e=>hm (Fi (N:=(ZF l.length).map fun n:Nat=>(n:Int)) hnd (fun n hn=>by
            have:=hin n hn;exact ZG.2 ⟨n.toNat,ZI.2 (by omega),by omega⟩) (by simp;omega) (i:Int) (ZG.2 ⟨i,ZI.2 hlt,rfl⟩))
          obtain⟨k',rfl⟩:∃k',k=k'+1:=⟨k - 1,by omega⟩
          have hFi:FF i=[false,true].findSome? (vR (dc l wd ht (k'+1)) l wd ht f used a i):=by
            rw [HFF.out];simp only [if_neg hm];exact VV _ _ _ _ _ _ _ _
          have HF:Hid _:=hF;have HFi:Hid _:=hFi;clear hF hFi;have p1:(wr.alloc (.cells #[.bool false,.bool true] 4 (0,0))).heap[wr.heap.size]?=some (.cells #[.bool false,.bool true] 4 (0,0)):=bF _ rfl;have b1:Below wr.heap.size wr (wr.alloc (.cells #[.bool false,.bool true] 4 (0,0))):=(ZY _ wr).alloc (ZQ _) _;have hMu:u<wr.heap.size:=hU.lt;have hMq:q<wr.heap.size:=hP.lt;have hMb:∀y,y<ht→bs y<wr.heap.size:=fun y hy=>hG.ltb hy
          have hKl:∀{W:World},Below wr.heap.size wr W→KeptX bs ht u q w W:=fun hb=>hK.trans (KeptX.of hb)
          have hG1:=hG.below b1;have hU1:=hU.below b1;have hP1:=hP.below b1;have hK1:=hK.trans (KeptX.of b1);clear hU hP hG hKl;have HK:Hid _:=hK;clear hK
          go_wp2
          clear b1 hc;generalize wr.alloc (.cells #[.bool false,.bool true] 4 (0,0))=W1 at *;obtain⟨M,hM⟩:∃M,M=wr.heap.size:=⟨_,rfl⟩
          rw [←hM] at p1 hMu hMq hMb ⊢;have HM:Hid _:=hM;clear hM
          go_loopw [46] (fun vj wq=>∃(j:Nat) (pl2:Nat→Pl),vj = .int .i64 j∧j≤2∧Grd wq w0.heap.size g cap bs cs wd ht f∧BRow wq u l.length (fun i=>decide ((i:Int)∈used))∧PRow wq q l.length pl2∧(∀j:Nat,(j:Int)∈used→pl2 j=pl j)∧KeptX bs ht u q w wq∧wq.heap[M]?=some (.cells #[.bool false,.bool true] 4 (0,0))∧∀t:Bool,t.toNat<j→vR (dc l wd ht (k'+1)) l wd ht f used a i t=none) (fun vj _=>2 - (intOf vj).toNat)
          case atStart=>exact⟨0,pl',rfl,by omega,hG1,hU1,hP1,hag,hK1,p1,fun t ht=>by omega⟩
          case round =>
            clear hG1 hU1 hP1 hK1 p1 hag;obtain⟨j,pl2,rfl,hj,hG,hU,hP,hag,hK,hp,hno⟩:=hrel;by_cases hj2:j<2
            · have hj2':(j:Int)<2:=by omega
              obtain⟨t,htj⟩:∃t:Bool,t.toNat=j:=by
                rcases Nat.lt_or_ge j 1 with h | h
                · exact⟨false,by simp;omega⟩
                · exact⟨true,by simp;omega⟩
              have hway:wr.cell? ⟨M,j,none⟩=some (.bool t):=by
                rw [aab hp,←htj];cases t<;>rfl
              have hMl:=aG hp;have P1:(wr.alloc (plO (i:Int) (X:Int) (Y:Int) t)).heap[wr.heap.size]?=some (plO (i:Int) (X:Int) (Y:Int) t):=bF _ rfl;have B1:Below wr.heap.size wr (wr.alloc (plO (i:Int) (X:Int) (Y:Int) t)):=(ZY _ wr).alloc (ZQ _) _;have hG1:=hG.below B1;have hU1:=hU.below B1;have hP1:=hP.below B1;have hK1:=hK.trans (KeptX.of B1);have hp1:=aJ B1 hp hMl;clear hU hP hG hp hK
              go_upto_region 18 with fail
              clear B1 hway;generalize hNe:wr.heap.size=N at *;generalize wr.alloc (plO (i:Int) (X:Int) (Y:Int) t)=W2 at *;have hNne:N≠u∧N≠q∧N≠M∧∀y,y<ht→N≠bs y:=⟨by omega,by omega,by omega,fun y hy=>by have:=hMb y hy;omega⟩
              have B2:Below w0.heap.size w0 W2:=hB.trans (hK1.below hwB hbsB hu hq);have hR:=hRoom W2 f ((i:Int),(X:Int),(Y:Int),t) B2 hf hG1 (by simp only;omega) (by simp only;omega) (by simp only;omega) (by simp only;omega);obtain⟨d0,d1,d2,d3⟩:=aN P1;have hN2:=aG P1;cases hr:jo wd ht f l ((i:Int),(X:Int),(Y:Int),t)
              · rw [hr] at hR
                have hnt:vR (dc l wd ht (k'+1)) l wd ht f used a i t=none:=by
                  unfold vR qe;rw [hpa,hr];rfl
                have HNT:Hid _:=hnt;clear hnt
                go_wp2_with (go_at_call 71;refine hR.mono ?_;rintro e w3 ⟨rfl,b3⟩)
                refine⟨⟨j+1,pl2,congrArg (ZX .i64) (by omega),by omega,hG1.below b3,hU1.below b3,hP1.below b3,hag,hK1.trans (KeptX.of b3),aJ b3 hp1 (by omega),fun t' ht'=>?_⟩,?_⟩
                · by_cases e:t'=t
                  · rw [e];exact HNT.out
                  · refine hno t' ?_
                    rw [←htj] at ht' ⊢;revert e ht';cases t<;>cases t'<;>simp
                · show 2 - ((j:Int)+1).toNat<2 - (j:Int).toNat
                  omega
              · rw [hr] at hR
                go_upto_region 19 with (go_at_call 71;refine hR.mono ?_;rintro e w3 ⟨rfl,b3⟩)
                have P3:=aJ b3 P1 hN2;have hroom:=(show nv wd ht f l ((i:Int),(X:Int),(Y:Int),t) by simpa [jo] using hr)
                have B3:Below w0.heap.size w0 w3:=B2.trans (b3.mono B2.size);have hp3:=aJ b3 hp1 (by omega);have hK3:=hK1.trans (KeptX.of b3);have hU3:=hU1.below b3;have hP3:=hP1.below b3;have hMk:=hMark w3 f ((i:Int),(X:Int),(Y:Int),t) (i:Int) B3 (hG1.below b3) (by simp only;omega) (by simp only;omega) (by simp only;omega) (by simp only;omega) hroom.2.2.1 hroom.2.2.2.1;have hN3:=aG P3;have hput:qe l wd ht f (bC wd i a t)=some (qf f l ((i:Int),(X:Int),(Y:Int),t)):=by
                  unfold qe;rw [hpa,if_pos hr]
                have hgok:GOK wd ht (qf f l ((i:Int),(X:Int),(Y:Int),t)):=SJ hl hf hlt hput;obtain⟨e0,e1,e2,e3⟩:=aN P3;clear hR P1 d0 d1 d2 d3 hG1 hU1 hP1 hp1 hK1 hr b3;have HR:Hid _:=hroom;have HPUT:Hid _:=hput;clear hroom hput
                go_upto_region 20 with (go_at_call 72;refine hMk.mono ?_;rintro e w4 ⟨rfl,hG4,k4⟩)
                have P4:w4.heap[N]?=some (plO (i:Int) (X:Int) (Y:Int) t):=(k4.block N hN3 hNne.2.2.2).trans P3;have hp4:w4.heap[M]?=some (.cells #[.bool false,.bool true] 4 (0,0)):=(k4.block M (aG hp3) (fun y hy e=>by have:=hMb y hy;omega)).trans hp3;have hK4:=hK3.trans (KeptX.ofG k4);have hU4:=hU3.kept (k4.block u hU3.lt hub);have hP4:=hP3.kept (k4.block q hP3.lt hqb);clear P3 e0 e1 e2 e3 hMk hp3 hK3 hU3 hP3 hN3;have G5:=hG4.below (bM w4);have U5:=hU4.below (bM w4);have Q5:=hP4.below (bM w4);have K5:=hK4.trans (KeptX.of (bM w4));have P5:=aJ (bM w4) P4 (aG P4);have p5:=aJ (bM w4) hp4 (aG hp4);have c5:=U5.cell hlt;have f5:=U5.fz i;obtain⟨g0,g1,g2,g3⟩:=Q5.cell hlt;have x0:=Q5.fz (i*4);have x1:=Q5.fz (i*4+1);have x2:=Q5.fz (i*4+2);have x3:=Q5.fz (i*4+3);obtain⟨d0,d1,d2,d3⟩:=aN P5;obtain⟨z0,z1,z2,z3⟩:=aN P4;have HP4:Hid _:=hP4;have HG4:Hid _:=hG4;have HU4:Hid _:=hU4;have HK4:Hid _:=hK4;have HN4:Hid _:=P4;have HM4:Hid _:=hp4;clear hG4 hU4 hP4 hK4 P4 hp4 k4;have n1:u≠N:=fun e=>hNne.1 e.symm
                have n2:q≠N:=fun e=>hNne.2.1 e.symm
                refine wp_region_held_drew (S:=fun X2=>X2.cell? ⟨N,0,none⟩=some (.int .i64 (i:Int))∧X2.cell? ⟨N,1,none⟩=some (.int .i64 (X:Int))∧X2.cell? ⟨N,2,none⟩=some (.int .i64 (Y:Int))∧X2.cell? ⟨N,3,none⟩=some (.bool t)) (by kernel_rfl) (show _ from⟨d0,d1,d2,d3⟩) (fun hHeld=>?_)
                change wpAnyH _ _ _ _ _ 9 (Array.replicate 9 false) _ _
                refine ac (i:=0) (d:=65) (v:=?va0) rfl rfl (by kernel_rfl) (by kernel_rfl) (by kernel_rfl) (fun _ _ _ h=>h) (by rfl) ?ya0 hHeld ?ra0
                case ya0=>(intro w0 hSw;obtain⟨hSw0,hSw1,hSw2,hSw3⟩:=hSw;go_simp;try with_reducible rfl)
                (try simp only [aah,ZJ,ZL,ZM])
                refine ac (i:=1) (d:=66) (v:=?va1) rfl rfl (by kernel_rfl) (by kernel_rfl) (by kernel_rfl) (fun _ _ _ h=>h) (by rfl) ?ya1 hHeld ?ra1
                case ya1=>(intro w0 hSw;obtain⟨hSw0,hSw1,hSw2,hSw3⟩:=hSw;go_simp;try with_reducible rfl)
                (try simp only [aah,ZJ,ZL,ZM])
                refine ac (i:=2) (d:=67) (v:=?va2) rfl rfl (by kernel_rfl) (by kernel_rfl) (by kernel_rfl) (fun _ _ _ h=>h) (by rfl) ?ya2 hHeld ?ra2
                case ya2=>(intro w0 hSw;obtain⟨hSw0,hSw1,hSw2,hSw3⟩:=hSw;go_simp;try with_reducible rfl)
                (try simp only [aah,ZJ,ZL,ZM])
                refine ac (i:=3) (d:=68) (v:=?va3) rfl rfl (by kernel_rfl) (by kernel_rfl) (by kernel_rfl) (fun _ _ _ h=>h) (by rfl) ?ya3 hHeld ?ra3
                case ya3=>(intro w0 hSw;obtain⟨hSw0,hSw1,hSw2,hSw3⟩:=hSw;go_simp;try with_reducible rfl)
                (try simp only [aah,ZJ,ZL,ZM])
                refine ac (i:=4) (d:=69) (v:=?va4) rfl rfl (by kernel_rfl) (by kernel_rfl) (by kernel_rfl) (fun _ _ _ h=>h) (by rfl) ?ya4 hHeld ?ra4
                case ya4=>(intro w0 hSw;obtain⟨hSw0,hSw1,hSw2,hSw3⟩:=hSw;go_simp;try with_reducible rfl)
                (try simp only [aah,ZJ,ZL,ZM])
                refine ac (i:=5) (d:=70) (v:=?va5) rfl rfl (by kernel_rfl) (by kernel_rfl) (by kernel_rfl) (fun _ _ _ h=>h) (by rfl) ?ya5 hHeld ?ra5
                case ya5=>(intro w0 hSw;obtain⟨hSw0,hSw1,hSw2,hSw3⟩:=hSw;go_simp;try with_reducible rfl)
                (try simp only [aah,ZJ,ZL,ZM])
                refine wpAnyH_ready (rs:=[6]) (by kernel_rfl) (by simp) ?_
                refine aaO (o:=_) rfl (fun K hK=>?_) aaQ
                go_simp
                refine hK.out _ _ (show _ from⟨?_,?_,?_,?_⟩) (fun hHeld=>?_)
                · exact(ZV w4 ⟨u,i,none⟩ ⟨N,0,none⟩ _ n1).trans z0
                · exact(ZV w4 ⟨u,i,none⟩ ⟨N,1,none⟩ _ n1).trans z1
                · exact(ZV w4 ⟨u,i,none⟩ ⟨N,2,none⟩ _ n1).trans z2
                · exact(ZV w4 ⟨u,i,none⟩ ⟨N,3,none⟩ _ n1).trans z3
                clear hK K
                (try simp only [aah,ZJ,ZL,ZM])
                refine ac (i:=7) (d:=71) (v:=?va7) rfl rfl (by kernel_rfl) (by kernel_rfl) (by kernel_rfl) (fun _ _ _ h=>h) (by rfl) ?ya7 hHeld ?ra7
                case ya7=>(intro w0 hSw;obtain⟨hSw0,hSw1,hSw2,hSw3⟩:=hSw;go_simp;try with_reducible rfl)
                (try simp only [aah,ZJ,ZL,ZM])
                refine wpAnyH_ready (rs:=[8]) (by kernel_rfl) (by simp) ?_
                refine aaO (o:=_) rfl (fun K hK=>?_) aaQ
                obtain⟨v0,v1,v2,v3⟩:=HP4.out.cell hlt;have v4:=HP4.out.fz (i*4);have v5:=HP4.out.fz (i*4+1);have v6:=HP4.out.fz (i*4+2);have v7:=HP4.out.fz (i*4+3)
                go_simp
                have o1:∀b,b≠u→b≠q→(Ep (w4.setCell ⟨u,i,none⟩ (.bool true)) q i ((i:Int),(X:Int),(Y:Int),t)).drew.heap[b]?=w4.heap[b]?:=fun b h1 h2=>(yt h2).trans (heap_setCell_other _ ⟨u,i,none⟩ _ _ h1)
                have P7:=(o1 N hNne.1 hNne.2.1).trans HN4.out;have hMne:M≠u∧M≠q:=⟨by omega,by omega⟩
                have p7:=(o1 M hMne.1 hMne.2).trans HM4.out;obtain⟨y0,y1,y2,y3⟩:=aN P7;refine hK.out _ _ (show _ from⟨y0,y1,y2,y3⟩) (fun hHeld=>?_)
                clear hK K;have G7:=HG4.out.kept (o1 g (fun e=>by
                  obtain⟨cur,k1,_⟩:=HG4.out.out;obtain⟨cur',k2,_⟩:=HU4.out.out;rw [e,k2] at k1;simp at k1) (fun e=>by
                  obtain⟨cur,k1,_⟩:=HG4.out.out;obtain⟨cur',k2,_⟩:=HP4.out.out;rw [e,k2] at k1;simp at k1)) (fun y hy=>o1 _ (fun e=>hub y hy e.symm) (fun e=>hqb y hy e.symm))
                have U7:BRow (Ep (w4.setCell ⟨u,i,none⟩ (.bool true)) q i ((i:Int),(X:Int),(Y:Int),t)).drew u l.length (fun x=>decide ((x:Int)∈used++[(i:Int)])):=(((HU4.out.set i true).kept (W':=(Ep (w4.setCell ⟨u,i,none⟩ (.bool true)) q i ((i:Int),(X:Int),(Y:Int),t)).drew) (yt huq)).congr fun x hx=>by
                  by_cases e:x=i
                  · simp [e]
                  · have:¬(x:Int)=(i:Int):=by omega
                    simp [e,this])
                have Q7:PRow (Ep (w4.setCell ⟨u,i,none⟩ (.bool true)) q i ((i:Int),(X:Int),(Y:Int),t)).drew q l.length (fun x=>if x=i then((i:Int),(X:Int),(Y:Int),t) else pl2 x) :=
                  ((HP4.out.kept (heap_setCell_other _ ⟨u,i,none⟩ _ _ (fun e=>huq e.symm))).put i ((i:Int),(X:Int),(Y:Int),t)).kept rfl
                have K7:KeptX bs ht u q w (Ep (w4.setCell ⟨u,i,none⟩ (.bool true)) q i ((i:Int),(X:Int),(Y:Int),t)).drew :=
                  (HK4.out.trans (KeptX.setU.trans KeptX.putQ)).trans (KeptX.of (bM _))
                have o1:=True.intro;clear v0 v1 v2 v3 v4 v5 v6 v7 HP4 HG4 HU4 HK4 HN4 HM4 y0 y1 y2 y3 G5 U5 Q5 K5 P5 p5 c5 f5 g0 g1 g2 g3 x0 x1 x2 x3 d0 d1 d2 d3 z0 z1 z2 z3 hHeld
                (try simp only [aah,ZJ,ZL,ZM])
                change wpAnyH _ _ _ _ _ _ _ _ (Ep (w4.setCell ⟨u,i,none⟩ (.bool true)) q i ((i:Int),(X:Int),(Y:Int),t)).drew
                generalize (Ep (w4.setCell ⟨u,i,none⟩ (.bool true)) q i ((i:Int),(X:Int),(Y:Int),t)).drew=W7 at *;refine wpAnyH_done (by kernel_rfl) ?_ _
                have B7:Below w0.heap.size w0 W7:=hB.trans (K7.below hwB hbsB hu hq);have hI:=ih k' (by omega) W7 (qf f l ((i:Int),(X:Int),(Y:Int),t)) (used++[(i:Int)]) (fun x=>if x=i then((i:Int),(X:Int),(Y:Int),t) else pl2 x) B7 G7 hgok U7 Q7
                  (aar.2 ⟨hnd,by simp,fun x hx y hy=>by
                    simp only [ZP] at hy;subst hy;exact fun e=>hm (e ▸ hx)⟩)
                  (fun x hx=>by
                    rcases aau.1 hx with h | h
                    · exact hin x h
                    · simp only [ZP] at h
                      omega)
                  (by simp;omega)
                have hN7:=aG P7;have hM7:=aG p7;clear G7 U7 Q7;obtain⟨fr,hfr⟩:∃fr,fr=dc l wd ht (k'+1) (qf f l ((i:Int),(X:Int),(Y:Int),t)) (used++[(i:Int)]):=⟨_,rfl⟩
                rw [←hfr] at hI;cases fr with
                | some qq =>
                  have HI:Hid _:=hfr;clear hfr
                  go_wp2_with (go_at_call 29;refine hI.mono ?_;rintro e w8 ⟨K8,rfl,pl3,Q8,hq8,ag8⟩)
                  go_ret
                  have hti:vR (dc l wd ht (k'+1)) l wd ht f used a i t=some (((i:Int),(X:Int),(Y:Int),t)::qq):=by
                    unfold vR;rw [HPUT.out];simp only [←HI.out,aad,hpa]
                  have hFi:FF i=some (((i:Int),(X:Int),(Y:Int),t)::qq):=by
                    rw [HFi.out];exact Tm (fun t' ht'=>hno t' (by omega)) hti
                  have hF:=HF.out;rw [hFi] at hF;refine⟨K7.trans K8,?_⟩
                  rw [hF];have ai:=ag8 i (by simp);simp only [if_true] at ai;refine⟨rfl,pl3,Q8,fun p' hp'=>?_,fun x hx=>?_⟩
                  · rcases ZN.1 hp' with rfl | h
                    · simpa using ai
                    · exact hq8 p' h
                  · have h1:=ag8 x (aaz _ hx)
                    have h2:¬x=i:=fun e=>hm (e ▸ hx)
                    simp only [if_neg h2] at h1;exact h1.trans (hag x hx)
                | none =>
                  have HI:Hid _:=hfr;clear hfr
                  go_upto_region 23 with (go_at_call 29;refine hI.mono ?_;rintro e w8 ⟨K8,rfl,G8,U8,pl3,Q8,ag8⟩)
                  have P8:=(K8.block N hN7 hNne.2.2.2 hNne.1 hNne.2.1).trans P7;have p8:=(K8.block M hM7 (fun y hy e=>by have:=hMb y hy;omega) (by omega) (by omega)).trans p7;have K8':=K7.trans K8;have B8:Below w0.heap.size w0 w8:=hB.trans (K8'.below hwB hbsB hu hq);have hroom:=HR.out;have hMk:=hMark w8 (qf f l ((i:Int),(X:Int),(Y:Int),t)) ((i:Int),(X:Int),(Y:Int),t) (-1) B8 G8 (by simp only;omega) (by simp only;omega) (by simp only;omega) (by simp only;omega) hroom.2.2.1 hroom.2.2.2.1;obtain⟨y0,y1,y2,y3⟩:=aN P8;have hN8:=aG P8;have hM8:=aG p8;clear hroom K8 hI P7 p7
                  go_upto_region 24 with (go_at_call 72;refine hMk.mono ?_;rintro e w9 ⟨rfl,G9,k9⟩)
                  replace G9:=G9.congr fun y x _ _=>Tu (wd:=wd) (ht:=ht) (f:=f) (l:=l) (p:=((i:Int),(X:Int),(Y:Int),t)) HR.out y x
                  have p9:=(k9.block M hM8 (fun y hy e=>by have:=hMb y hy;omega)).trans p8;have K9:=K8'.trans (KeptX.ofG k9);have U9:=U8.kept (k9.block u U8.lt hub);have Q9:=Q8.kept (k9.block q Q8.lt hqb);have c9:=U9.cell hlt;have f9:=U9.fz i;clear y0 y1 y2 y3 hMk K8' U8 Q8 P8 p8 k9 G8;have HG9:Hid _:=G9;have HU9:Hid _:=U9;have HQ9:Hid _:=Q9;have HK9:Hid _:=K9;have HM9:Hid _:=p9;have HA9:Hid _:=ag8;clear G9 U9 Q9 K9 p9 ag8
                  go_wp2
                  have o1:∀b,b≠u→(w9.setCell ⟨u,i,none⟩ (.bool false)).heap[b]?=w9.heap[b]?:=fun b h1=>heap_setCell_other _ ⟨u,i,none⟩ _ _ h1
                  refine⟨⟨j+1,pl3,congrArg (ZX .i64) (by omega),by omega,HG9.out.kept (o1 g (fun e=>by
                    obtain⟨cur,k1,_⟩:=HG9.out.out;obtain⟨cur',k2,_⟩:=HU9.out.out;rw [e,k2] at k1;simp at k1)) (fun y hy=>o1 _ (fun e=>hub y hy e.symm)),(HU9.out.set i false).congr fun x hx=>?_,HQ9.out.kept (o1 q fun e=>huq e.symm),fun x hx=>?_,HK9.out.trans KeptX.setU,(o1 M (by omega)).trans HM9.out,fun t' ht'=>?_⟩,?_⟩
                  · by_cases e:x=i
                    · simp [e,hm]
                    · have:¬(x:Int)=(i:Int):=by omega
                      simp [e,this]
                  · have h1:=HA9.out x (aaz _ hx)
                    have h2:¬x=i:=fun e=>hm (e ▸ hx)
                    simp only [if_neg h2] at h1;exact h1.trans (hag x hx)
                  · by_cases e:t'=t
                    · rw [e]
                      unfold vR;rw [HPUT.out];simp only [←HI.out,Option.map_none]
                    · refine hno t' ?_
                      rw [←htj] at ht' ⊢;revert e ht';cases t<;>cases t'<;>simp
                  · show 2 - ((j:Int)+1).toNat<2 - (j:Int).toNat
                    omega
            · have hj2':¬(j:Int)<2:=by omega
              have hF:=HF.out;rw [HFi.out,TC fun t' ht'=>hno t' (by omega)] at hF;have HF':Hid _:=hF;clear hF;have hM':=hp
              go_wp2
              refine⟨⟨i+1,pl2,congrArg (ZX .i64) (by omega),by omega,hG,hU,hP,hag,hK,HF'.out⟩,?_⟩
              show l.length - ((i:Int)+1).toNat<l.length - (i:Int).toNat
              omega
      · have hi':¬(i:Int)<(l.length:Int):=by omega
        have hie:l.length - i=0:=by omega
        rw [hie] at hF;have HF:Hid _:=hF;clear hF
        go_wp2
        go_ret
        refine⟨hK,?_⟩
        rw [HF.out];exact⟨rfl,hG,hU,pl',hP,hag⟩
end Go.Proofs.YtccaheogjpfhjaaGreat

namespace Go.Proofs.YtccaheogjpfhjaaGreat
open Go Go.V
set_option maxRecDepth 100000
def DI (l:Ps):Int:=l.foldl (fun a p=>a+p.1*p.2) 0
theorem QG {l:Ps} (hl:ij l=true) {p:Int × Int} (hp:p∈l):1≤p.1∧p.1≤8∧1≤p.2∧p.2≤8:=by
 unfold ij at hl;simp only [aac,List.all_eq_true] at hl;have h2:=hl.1 p hp;simp only [bD,aac,decide_eq_true_eq] at h2;omega
theorem Jp (l:Ps) (hl:ij l=true):mE [pcs l]=some (.ret [I (DI l)] []):=by
 have h8:=oz hl;rw [JB];simp only [aS,aae,aaa];refine ax _ (co l (fun i (a:Int)=>[I a,pcs l,I (l.length:Int),I (i:Int)]) (fun i a=>0≤a∧a≤64*(i:Int)) (fun _ a p=>a+p.1*p.2) (fun a=>.ext 0 [I a]) 0 (fun i a hi ha=>?_) (fun a ha=>?_) (fun _=>rfl) ⟨by omega,by omega⟩ rfl) ?_
 ·have hw:ZE.wrap ((i:Int)+1)=(i:Int)+1:=ae (by omega) (by omega)
  have hi':(i:Int)<(l.length:Int):=by omega
  have hri:=ED hi;obtain⟨s1,s2,s3,s4⟩:=QG hl (aaF hi);generalize l[i]=p at *;obtain⟨a1,a2⟩:=ha;have m1:0≤p.1*p.2:=Int.mul_nonneg (by omega) (by omega);have m2:p.1*p.2≤8*8:=Int.mul_le_mul s2 s4 (by omega) (by omega);have w1:ZE.wrap (p.1*p.2)=p.1*p.2:=ae (by omega) (by omega);have w2:ZE.wrap (a+p.1*p.2)=a+p.1*p.2:=ae (by omega) (by omega);refine⟨?_,by omega,by omega⟩
  simp -implicitDefEqProofs [hi',hri,w1,w2,hw]
 ·simp
 ·rw [eC]
  simp [DI]
def Lo (l:Ps) (q:List Pl):List Pl:=(ZF l.length).foldl (fun o (i:Nat)=>o++q.filter fun x=>decide (x.1=(i:Int))) []
theorem Nq (q:List Pl) (n:Int):∀o:List Pl,q.foldl (fun o x=>if x.1=n then o++[x] else o) o=o++q.filter fun x=>decide (x.1=n):=by
 induction q with
 | nil=>intro o;simp
 | cons x q ih =>
  intro o;rw [List.foldl_cons,ih,aaG];by_cases h:x.1=n
  ·simp [h]
  ·simp [h]
def Dh (l:Ps) (wd ht:Nat):Option (List Pl):=if DI l=((wd*ht:Nat):Int) then(dc l wd ht (l.length+1) (fun _ _=>-1) []).map (Lo l) else none
set_option maxHeartbeats 2000000 in
theorem GO (wd ht:Nat) (hw1:1≤wd) (hh1:1≤ht) (hw8:wd≤8) (hh8:ht≤8) (l:Ps) (hl:ij l=true):kH [I (wd:Int),I (ht:Int),pcs l]=some (.ret (iQ (Dh l wd ht)) []):=by
 have h8:=oz hl;obtain⟨n0,hn0⟩:∃n0,n0=wd*ht:=⟨_,rfl⟩
 have b0:=MM hw8 hh8;have w0:ZE.wrap ((wd:Int)*(ht:Int))=(n0:Int):=by rw [hn0,ZW,ae]<;>rw [←ZW]<;>omega
 have hA:=Jp l hl;rw [FW,hA];unfold Dh;rw [←hn0];by_cases hc:¬DI l=(n0:Int)
 ·rw [if_neg hc]
  simp -implicitDefEqProofs [w0,hc,iQ]
 rw [Decidable.not_not] at hc;rw [if_pos hc];have hmk:Nj 1 8 (D.v (ZX ZE 0)) (I (n0:Int)) (I (n0:Int))=some (.arr 1 (List.replicate n0 (I 0))):=by
  rw [NR,if_pos (by omega)]
 have hfl:(aV wd ht fun _ _=>-1).length=n0:=by rw [iN,hn0]
 have hrun:=Bs wd ht hw1 hh1 hw8 hh8 l hl l.length (fun _ _=>-1) [] (.arr 0 []) (GOK.free wd ht) List.nodup_nil (fun u hu=>by cases hu) (.inr ⟨rfl,rfl⟩) (by simp);have hfill:qF [ints (aV wd ht fun _ _=>-1),I (wd:Int),I (ht:Int),pcs l,.arr 0 []]=some (.ret (iQ (dc l wd ht (l.length+1) (fun _ _=>-1) [])) []):=VK (fun n=>KT n _ _ _ _ _) _ hrun;have hfok:=fun q h=>(EB l wd ht hw1 hw8 hh8 (l.length+1) (fun _ _=>-1) [] q h).1
 simp -implicitDefEqProofs only [bd,aE,mf,w0,aaa,nG,hc,decide_true,Bool.not_true,bt,aao,if_false,hmk,kg,cI,aS,List.length_replicate];refine ax _ (dn n0 (fun i=>[I (wd:Int),I (ht:Int),pcs l,.ref 0 0,.arr 1 (om I (I 0) (aV wd ht fun _ _=>-1) i),I (n0:Int),I (i:Int)]) (.ext 0 [I (wd:Int),I (ht:Int),pcs l,.ref 0 0,ints (aV wd ht fun _ _=>-1)]) (fun i hi=>?_) ?_ rfl ?_) ?_
 ·have hw:ZE.wrap ((i:Int)+1)=(i:Int)+1:=ae (by omega) (by omega)
  have hi':(i:Int)<(n0:Int):=by omega
  have hi2:i<(aV wd ht fun _ _=>-1).length:=by omega
  have hlen:=Mi (f:=I) (z:=I 0) (l:=aV wd ht fun _ _=>-1) (i:=i) (by omega);have hg:=Rq (f:=I) (z:=I 0) hi2;have hx:(aV wd ht fun _ _=>-1)[i]?=some (-1):=by
   unfold aV;rw [aas,aaA (by omega)];rfl
  have hs:=Ru (f:=I) (z:=I 0) hx;have hst:=AX (z:=1) (w:=.int .i64 0) (v:=.int .i64 (-1)) hg;rw [hs] at hst;have hrf:dE 1 (.arr 1 (om I (I 0) (aV wd ht fun _ _=>-1) i)) (I (i:Int))=some (.ref i 0):=by rw [dm,if_pos (by omega)]
  generalize om I (I 0) (aV wd ht fun _ _=>-1) i=L at *;simp -implicitDefEqProofs [hi',hrf,hst,hw,-dm]
 ·have h:=PQ (f:=I) (z:=I 0) (l:=aV wd ht fun _ _=>-1)
  rw [hfl] at h;simp -implicitDefEqProofs [h]
 ·have h:=Pd (f:=I) (z:=I 0) (l:=aV wd ht fun _ _=>-1)
  rw [hfl] at h;rw [h];rfl
 generalize dc l wd ht (l.length+1) (fun _ _=>-1) []=res at *;cases res with
 | none =>
  obtain⟨v1,v2⟩:=HZ [] false;simp -implicitDefEqProofs [hfill,iQ,v1,v2,-kr,-iT]
 | some q =>
  have hq:=hfok q rfl;obtain⟨v1,v2⟩:=HZ q true;simp -implicitDefEqProofs [hfill,iQ,v1,v2,-kr,-iT];refine ax _ (co (ZF l.length) (fun i (o:List Pl)=>[pls q,pls o,I (l.length:Int),I (i:Int)]) (fun i o=>o.length≤9*i) (fun _ o (i:Nat)=>o++q.filter fun x=>decide (x.1=(i:Int))) (fun o=>.ext 2 [pls o]) [] (fun i o hi ho=>?_) (fun o ho=>?_) (fun _=>rfl) (ZS _) rfl) ?_
  ·rw [List.getElem_range]
   have hi:i<l.length:=by simpa using hi
   have hw:ZE.wrap ((i:Int)+1)=(i:Int)+1:=ae (by omega) (by omega);have hi':(i:Int)<(l.length:Int):=by omega
   have hfl:=List.length_filter_le (fun x:Pl=>decide (x.1=(i:Int))) q;refine⟨?_,by rw [aam];omega⟩
   simp -implicitDefEqProofs only [aE,aX,bp,hi',decide_true,aaa,bt,if_true,aS,aae];refine ax _ (co q (fun j (o:List Pl)=>[pls q,pls o,I (i:Int),I (l.length:Int),I (i:Int),pls q,I (q.length:Int),I (j:Int)]) (fun j o'=>o'.length≤o.length+j) (fun _ o x=>if x.1=(i:Int) then o++[x] else o) (fun o=>.ext 4 [pls q,pls o,I (l.length:Int),I (i:Int)]) o (fun j o' hj ho'=>?_) (fun o ho=>?_) (fun _=>rfl) (ZQ _) rfl) ?_
   ·have hwj:ZE.wrap ((j:Int)+1)=(j:Int)+1:=ae (by omega) (by omega)
    have hj':(j:Int)<(q.length:Int):=by omega
    have hrj:=YX hj;generalize q[j]=x at *;obtain⟨n,X,Y,t⟩:=x;have hmk2:=YN (n,X,Y,t);have hck:=Xb [(n,X,Y,t)];have hap:=Xe (q:=o') (r:=[(n,X,Y,t)]) (by simp;omega);by_cases c:n=(i:Int)
    ·subst c
     exact⟨by simp -implicitDefEqProofs [hj',hrj,hmk2,hck,hap,hwj,-bv],by simp;omega⟩
    ·exact⟨by simp -implicitDefEqProofs [hj',hrj,c,hwj],by simp [c];omega⟩
   ·simp -implicitDefEqProofs
   ·rw [eC,Nq]
    simp -implicitDefEqProofs [hw]
  ·simp -implicitDefEqProofs
  ·rw [eC]
   simp -implicitDefEqProofs [Lo]
open Go Go.Proofs Go.V Go.RowKit Go.Lib
set_option maxRecDepth 100000
theorem RQ (l:Ps) (hl:ij l=true) (wd ht:Nat) (hw1:1≤wd) (hh1:1≤ht) (hw8:wd≤8) (hh8:ht≤8) (w0:World) (g cap u cu q cq:Nat) (bs cs:Nat→Nat) (pA:Option Addr) (pc:Nat) (hu:w0.heap.size≤u) (hq:w0.heap.size≤q)
  (hcu:l.length≤cu) (hcq:l.length≤cq)
  (hFst:∀(W:World) (f:Gr),Below w0.heap.size w0 W→GOK wd ht f→Grd W w0.heap.size g cap bs cs wd ht f→Calls Tryz.prog 70 #[.slice (some ⟨g,0,none⟩) ht cap] W fun e W'=>∃x y ok,e = .returned (.tuple #[.int .i64 x,.int .i64 y,.bool ok])∧[I x,I y,B ok]=oU wd ht (bk (aV wd ht f))∧Below W.heap.size W W')
  (hRoom:∀(W:World) (f:Gr) (p:Pl),Below w0.heap.size w0 W→GOK wd ht f→Grd W w0.heap.size g cap bs cs wd ht f→0≤p.1→p.1≤(l.length:Int) - 1→(0≤p.2.1∧p.2.1≤64)→(0≤p.2.2.1∧p.2.2.1≤64)→Calls Tryz.prog 71 #[.slice (some ⟨g,0,none⟩) ht cap,.slice pA l.length pc,FN p] W fun e W'=>e = .returned (.bool (jo wd ht f l p))∧Below W.heap.size W W')
  (hMark:∀(W:World) (f:Gr) (p:Pl) (n:Int),Below w0.heap.size w0 W→Grd W w0.heap.size g cap bs cs wd ht f→0≤p.1→p.1≤(l.length:Int) - 1→0≤p.2.1→0≤p.2.2.1→p.2.1+(szN l p).1≤wd→p.2.2.1+(szN l p).2≤ht→Calls Tryz.prog 72 #[.slice (some ⟨g,0,none⟩) ht cap,.slice pA l.length pc,FN p,.int .i64 n] W fun e W' =>
   e = .returned (.tuple #[])∧Grd W' w0.heap.size g cap bs cs wd ht (mkA f p.2.1.toNat p.2.2.1.toNat (szN l p).1 (szN l p).2 n)∧KeptG bs ht W W') :
  ∀(k:Nat) (w:World) (f:Gr) (used:List Int) (pl:Nat→Pl),Below w0.heap.size w0 w→Grd w w0.heap.size g cap bs cs wd ht f→GOK wd ht f→BRow w u l.length (fun i=>decide ((i:Int)∈used))→PRow w q l.length pl→used.Nodup→(∀x∈used,0≤x∧x<l.length)→used.length+k=l.length →
   Calls Tryz.prog 29 #[.slice (some ⟨g,0,none⟩) ht cap,.slice pA l.length pc,.slice (some ⟨u,0,none⟩) l.length cu,.slice (some ⟨q,0,none⟩) l.length cq] w fun e w'=>KeptX bs ht u q w w'∧PY l wd ht w0.heap.size g cap bs cs u q used f pl (dc l wd ht (k+1) f used) e w':=by
 intro k;induction k using Nat.strongRecOn with
 | ind k ih =>
  intro w f used pl hB hG hf hU hP hnd hin hk;exact SF l hl wd ht hw1 hh1 hw8 hh8 w0 g cap u cu q cq bs cs pA pc hu hq hcu hcq hFst hRoom hMark k ih w f used pl hB hG hf hU hP hnd hin hk
theorem Cq (l:Ps) (wd ht:Nat):∀(n:Nat) (f:Gr) (used:List Int) (q:List Pl),used.Nodup→(∀x∈used,0≤x∧x<l.length)→dc l wd ht n f used=some q →
  (used++q.map (·.1)).Nodup∧(∀x∈used++q.map (·.1),0≤x∧x<l.length)∧(used++q.map (·.1)).length=l.length
 | 0,f,used,q,_,_,h=>by simp [dc] at h
 | n+1,f,used,q,hnd,hin,h=>by
  rw [dc] at h;split at h
  ·split at h
   ·cases h
    simp only [List.map_nil,List.append_nil];exact⟨hnd,hin,by assumption⟩
   ·cases h
  ·obtain⟨i,hi,h1⟩:=gM h
   split at h1
   ·cases h1
   ·rename_i hm
    obtain⟨t,_,h2⟩:=gM h1;unfold nJ at h2;split at h2
    ·cases h2
    ·split at h2
     ·cases h2
     ·rename_i g _
      cases hr:dc l wd ht n g (used++[(i:Int)]) with
      | none=>rw [hr] at h2;cases h2
      | some q' =>
       rw [hr] at h2;simp only [aad,ZT] at h2;subst h2;have hi':=ZI.1 hi;have k:=Cq l wd ht n g (used++[(i:Int)]) q' (aar.2 ⟨hnd,by simp,fun x hx y hy=>by
        simp only [ZP] at hy;subst hy;exact fun e=>hm (e ▸ hx)⟩) (fun x hx=>by
        rcases aau.1 hx with h | h
        ·exact hin x h
        ·simp only [ZP] at h
         omega) hr
       simp only [List.append_assoc,aax] at k;exact k
theorem Ni {l:Ps} {wd ht n:Nat} {f:Gr} {q:List Pl} (h:dc l wd ht n f []=some q) {pl:Nat→Pl} (hp:∀p∈q,pl p.1.toNat=p):Lo l q=(ZF l.length).map pl:=by
 obtain⟨h1,h2,h3⟩:=Cq l wd ht n f [] q (by simp) (by simp) h;simp only [aaK] at h1 h2 h3;have hall:∀i:Nat,i<l.length→(q.filter fun x=>decide (x.1=(i:Int)))=[pl i]:=by
  intro i hi;have hm:(i:Int)∈q.map (·.1):=Fi (N:=(ZF l.length).map fun n:Nat=>(n:Int)) h1 (fun n hn=>by
   have:=h2 n hn;exact ZG.2 ⟨n.toNat,ZI.2 (by omega),by omega⟩) (by simp;simpa using h3) (i:Int) (ZG.2 ⟨i,ZI.2 hi,rfl⟩)
  obtain⟨p,hpq,hpi⟩:=ZG.1 hm;have hpl:pl i=p:=by
   have:=hp p hpq;rw [hpi] at this;simpa using this
  rw [hpl];clear hp hpl h2 h3 h hm;induction q with
  | nil=>cases hpq
  | cons x q ih =>
   simp only [List.map_cons,aaL] at h1;rw [aaG];rcases ZN.1 hpq with rfl | hpq
   ·simp only [hpi,decide_true,if_true]
    congr 1
    rw [List.filter_eq_nil_iff];intro y hy;simp only [decide_eq_true_eq];intro e;exact h1.1 (ZG.2 ⟨y,hy,by rw [e,hpi]⟩)
   ·have hx:¬x.1=(i:Int):=fun e=>h1.1 (ZG.2 ⟨p,hpq,by rw [e,hpi]⟩)
    simp only [hx,decide_false,aao,if_false];exact ih h1.2 hpq
 unfold Lo;have key:∀n,n≤l.length→(ZF n).foldl (fun o (i:Nat)=>o++q.filter fun x=>decide (x.1=(i:Int))) []=(ZF n).map pl:=by
  intro n;induction n with
  | zero=>intro _;rfl
  | succ n ih =>
   intro hn;rw [qP,ih (by omega),hall n (by omega),aaM,List.map_append];rfl
 exact key _ (ZQ _)
set_option maxRecDepth 100000
theorem OL (l:Ps) (hl:ij l=true):pM [pcs l]=some (.ret [I (DI l)] []):=by
 have h8:=oz hl;rw [MT];simp only [aS,aae,aaa];refine ax _ (co l (fun i (a:Int)=>[I a,pcs l,I (l.length:Int),I (i:Int)]) (fun i a=>0≤a∧a≤64*(i:Int)) (fun _ a p=>a+p.1*p.2) (fun a=>.ext 0 [I a]) 0 (fun i a hi ha=>?_) (fun a ha=>?_) (fun _=>rfl) ⟨by omega,by omega⟩ rfl) ?_
 ·have hw:ZE.wrap ((i:Int)+1)=(i:Int)+1:=ae (by omega) (by omega)
  have hi':(i:Int)<(l.length:Int):=by omega
  have hri:=ED hi;obtain⟨s1,s2,s3,s4⟩:=QG hl (aaF hi);generalize l[i]=p at *;obtain⟨a1,a2⟩:=ha;have m1:0≤p.1*p.2:=Int.mul_nonneg (by omega) (by omega);have m2:p.1*p.2≤8*8:=Int.mul_le_mul s2 s4 (by omega) (by omega);have w1:ZE.wrap (p.1*p.2)=p.1*p.2:=ae (by omega) (by omega);have w2:ZE.wrap (a+p.1*p.2)=a+p.1*p.2:=ae (by omega) (by omega);refine⟨?_,by omega,by omega⟩
  simp -implicitDefEqProofs [hi',hri,w1,w2,hw]
 ·simp
 ·rw [eC]
  simp [DI]
theorem FL (wi hi:Int) (l:Ps) (h:l.length≤1048576):kK [I wi,I hi,pcs l]=some (.ret [B (bD wi&&bD hi&&ij l)] []):=by
 rw [FR];have h1:=fi wi;have h2:=fi hi;have h3:=rC l h;cases e1:bD wi
 ·simp -implicitDefEqProofs [h1,e1]
 ·cases e2:bD hi
  ·simp -implicitDefEqProofs [h1,h2,e1,e2]
  ·simp -implicitDefEqProofs [h1,h2,h3,e1,e2]
def nk (wi hi:Int) (l:Ps):Option (List Pl):=if (bD wi&&bD hi&&ij l)=true then Dh l wi.toNat hi.toNat else none
theorem WP:(Tryz.prog.info? 76).map (fun i=>(i.zero,i.size,i.bytes))=some (some (plV 0 0 0 false),4,32):=by kernel_rfl
theorem XU:(Tryz.prog.info? 4).map (fun i=>(i.zero,i.size,i.bytes))=some (some (.bool false),1,1):=by kernel_rfl
theorem LO {W:World} {u n:Nat} (h:W.heap[u]?=some (.cells (madeCells #[.bool false] n) 4 (0,0))):BRow W u n (fun _=>false) :=
 ⟨_,h,by rw [size_madeCells];omega,fun i hi=>by simp [madeCells,hi,Nat.mod_one]⟩
theorem XR {W:World} {q n:Nat} (h:W.heap[q]?=some (.cells (madeCells #[.int .i64 0,.int .i64 0,.int .i64 0,.bool false] (n*4)) 76 (0,0))):PRow W q n (fun _=>(0,0,0,false)) :=
 ⟨_,h,by rw [size_madeCells];omega,fun i hi=>by
  have g0:i*4<n*4:=by omega
  have g1:i*4+1<n*4:=by omega
  have g2:i*4+2<n*4:=by omega
  have g3:i*4+3<n*4:=by omega
  refine⟨?_,?_,?_,?_⟩<;>simp [madeCells,g0,g1,g2,g3,Nat.add_mod]⟩
set_option maxRecDepth 100000
def Xr (w:World) (l:Ps) (r:Option (List Pl)) (e:Ending) (w':World):Prop:=match r with
 | none=>∃A c,e = .returned (.tuple #[.slice A 0 c,.bool false])
 | some qq=>∃q cq pl,e = .returned (.tuple #[.slice (some ⟨q,0,none⟩) l.length cq,.bool true])∧w.heap.size≤q∧l.length≤cq∧PRow w' q l.length pl∧qq=(ZF l.length).map pl
set_option maxHeartbeats 4000000 in
set_option maxRecDepth 1000000 in
theorem Pg (w:World) (wi hi:Int) (l:Ps) (pA:Option Addr) (pc:Nat) (hl:l.length≤1048576)
    (hIs:∀W,Below w.heap.size w W→Calls Tryz.prog 27 #[.int .i64 wi,.int .i64 hi,.slice pA l.length pc] W fun e W'=>e = .returned (.bool (bD wi&&bD hi&&ij l))∧Below W.heap.size W W')
    (hAr:ij l=true→∀W,Below w.heap.size w W→Calls Tryz.prog 28 #[.slice pA l.length pc] W fun e W'=>e = .returned (.int .i64 (DI l))∧Below W.heap.size W W')
    (hFi:∀(wd ht:Nat) (W:World) (g cap u q:Nat) (bs cs:Nat→Nat),ij l=true→1≤wd→1≤ht→wd≤8→ht≤8→Below w.heap.size w W→w.heap.size≤u→w.heap.size≤q→Grd W w.heap.size g cap bs cs wd ht (fun _ _=>-1)→BRow W u l.length (fun _=>false)→PRow W q l.length (fun _=>(0,0,0,false)) →
      Calls Tryz.prog 29 #[.slice (some ⟨g,0,none⟩) ht cap,.slice pA l.length pc,.slice (some ⟨u,0,none⟩) l.length l.length,.slice (some ⟨q,0,none⟩) l.length l.length] W fun e w'=>KeptX bs ht u q W w'∧PY l wd ht w.heap.size g cap bs cs u q [] (fun _ _=>-1) (fun _=>(0,0,0,false)) (dc l wd ht (l.length+1) (fun _ _=>-1) []) e w') :
    Calls Tryz.prog 5 #[.int .i64 wi,.int .i64 hi,.slice pA l.length pc] w fun e w'=>Below w.heap.size w w'∧Xr w l (nk wi hi l) e w':=by
  obtain⟨ip,hip,hp0,hp1,hp2⟩:=info_parts WP;obtain⟨ib,hib,hb0,hb1,hb2⟩:=info_parts XU;have hc1:=hIs w (ZY _ w);unfold nk
  go_enter Tryz.func5,Tryz.ntmps5
  cases hok:(bD wi&&bD hi&&ij l)
  · rw [hok] at hc1
    rw [if_neg (by simp)];clear hIs hAr hFi
    go_wp2_with (go_at_call 27;refine hc1.mono ?_;rintro e w2 ⟨rfl,hB2⟩)
    go_ret2
    refine⟨hB2.alloc hB2.size _,_,_,rfl⟩
  · rw [hok] at hc1
    rw [if_pos rfl];simp only [bD,aac,decide_eq_true_eq] at hok;obtain⟨⟨⟨w1,w2⟩,h1,h2⟩,hok⟩:=hok;obtain⟨wd,rfl⟩:∃wd:Nat,wi=wd:=⟨wi.toNat,by omega⟩
    obtain⟨ht,rfl⟩:∃ht:Nat,hi=ht:=⟨hi.toNat,by omega⟩
    simp only [ZO];have hc2:=hAr hok;obtain⟨n0,hn0⟩:∃n0,n0=wd*ht:=⟨_,rfl⟩
    have b0:=MM (a:=wd) (b:=ht) (by omega) (by omega);have w0:ZE.wrap ((wd:Int)*(ht:Int))=(n0:Int):=by rw [hn0,ZW,ae]<;>rw [←ZW]<;>omega
    unfold Dh;rw [←hn0];clear hn0;by_cases ha:DI l=(n0:Int)
    · rw [if_pos ha]
      have hfi:=fun W g cap u q bs cs=>hFi wd ht W g cap u q bs cs hok (by omega) (by omega) (by omega) (by omega)
      clear hFi hAr hIs
      go_upto_region 3 with (first
        | (go_at_call 28;refine(hc2 _ hB2).mono ?_;rintro e w3 ⟨rfl,hB3⟩)
        | (go_at_call 27;refine hc1.mono ?_;rintro e w2 ⟨rfl,hB2⟩))
      have hB:Below w.heap.size w w3:=hB2.trans (hB3.mono hB2.size);have m1:∀W:World,(aaN 26 (.int .i64 (l.length:Int)) (.int .i64 (l.length:Int))).run Tryz.prog W = .ok (.slice (some ⟨W.heap.size,0,none⟩) l.length l.length) (W.alloc (.cells (madeCells #[.int .i64 0,.int .i64 0,.int .i64 0,.bool false] (l.length*4)) 76)):=fun W=>by
        have h:=run_make (P:=Tryz.prog) W 26 76 ip _ Tryz.underlying26 hip hp0 .i64 .i64 (l.length:Int) (l.length:Int) (by omega) (by omega) (by rw [hp2];omega) (by omega);rw [hp1] at h;simp only [ZO] at h;exact h
      have m2:∀W:World,(aaN 74 (.int .i64 (l.length:Int)) (.int .i64 (l.length:Int))).run Tryz.prog W = .ok (.slice (some ⟨W.heap.size,0,none⟩) l.length l.length) (W.alloc (.cells (madeCells #[.bool false] l.length) 4)):=fun W=>by
        have h:=run_make (P:=Tryz.prog) W 74 4 ib _ Tryz.underlying74 hib hb0 .i64 .i64 (l.length:Int) (l.length:Int) (by omega) (by omega) (by rw [hb2];omega) (by omega);rw [hb1] at h;simp only [ZO,Nat.mul_one] at h;exact h
      clear hB2 hB3 hc1 hc2
      go_upto_region 4 with fail
      obtain⟨q,hqe⟩:∃q,q=w3.heap.size:=⟨_,rfl⟩
      have B4:Below w.heap.size w (w3.alloc (.cells (madeCells #[.int .i64 0,.int .i64 0,.int .i64 0,.bool false] (l.length*4)) 76)).drew:=(hB.alloc hB.size _).trans ((bM _).mono (hB.alloc hB.size _).size);have P4:PRow (w3.alloc (.cells (madeCells #[.int .i64 0,.int .i64 0,.int .i64 0,.bool false] (l.length*4)) 76)).drew q l.length (fun _=>(0,0,0,false)):=(XR (bF _ hqe)).below (bM _);have hq:w.heap.size≤q:=by rw [hqe];exact hB.size
      have hem:=Hw wd ht (by omega) (by omega);rw [←hqe];clear hqe hB m1;generalize w3.alloc (.cells (madeCells #[.int .i64 0,.int .i64 0,.int .i64 0,.bool false] (l.length*4)) 76)=W3 at *;cases hr:dc l wd ht (l.length+1) (fun _ _=>-1) [] with
      | none =>
        rw [hr] at hfi
        go_region_held3 (fun _=>True) (trivial) (first
          | (go_at_call 29;first
              | (have bA:=B4.trans (b5.mono B4.size);refine(hfi _ g cap w5.heap.size q bs cs (bA.alloc bA.size _) bA.size hq ((hG.base B4.size).below ((ZY _ _).alloc (ZQ _) _)) (LO (bF _ rfl)) ((P4.below b5).below ((ZY _ _).alloc (ZQ _) _))).mono ?_;rintro e w7 ⟨k7,rfl,_⟩;have B7:=(bA.alloc bA.size _).trans (k7.below (bA.alloc bA.size _).size (fun y hy=>((hG.base B4.size).row y hy).1) bA.size hq))
              | (have bA:=B4.alloc B4.size (.cells (madeCells #[.bool false] l.length) 4);refine(hfi w5 g cap W3.drew.heap.size q bs cs (bA.trans (b5.mono bA.size)) B4.size hq (hG.base bA.size) (LO (aJ b5 (bF _ rfl) (aG (bF _ rfl)))) ((P4.below ((ZY _ _).alloc (ZQ _) _)).below b5)).mono ?_;rintro e w7 ⟨k7,rfl,_⟩;have B7:=(bA.trans (b5.mono bA.size)).trans (k7.below (bA.trans (b5.mono bA.size)).size (fun y hy=>((hG.base bA.size).row y hy).1) B4.size hq)))
          | (go_at_call 30;refine(hem _).mono ?_;rintro e w5 ⟨g,cap,bs,cs,rfl,hG,b5⟩))
        all_goals
          clear hG b5 k7
          go_wp2
          go_ret2
          refine⟨B7.alloc B7.size _,?_⟩
          rw [hr];exact⟨_,_,rfl⟩
      | some qq =>
        rw [hr] at hfi
        go_region_held3 (fun _=>True) (trivial) (first
          | (go_at_call 29;first
              | (have bA:=B4.trans (b5.mono B4.size);refine(hfi _ g cap w5.heap.size q bs cs (bA.alloc bA.size _) bA.size hq ((hG.base B4.size).below ((ZY _ _).alloc (ZQ _) _)) (LO (bF _ rfl)) ((P4.below b5).below ((ZY _ _).alloc (ZQ _) _))).mono ?_;rintro e w7 ⟨k7,rfl,pl7,Q7,hq7,_⟩;have B7:=(bA.alloc bA.size _).trans (k7.below (bA.alloc bA.size _).size (fun y hy=>((hG.base B4.size).row y hy).1) bA.size hq))
              | (have bA:=B4.alloc B4.size (.cells (madeCells #[.bool false] l.length) 4);refine(hfi w5 g cap W3.drew.heap.size q bs cs (bA.trans (b5.mono bA.size)) B4.size hq (hG.base bA.size) (LO (aJ b5 (bF _ rfl) (aG (bF _ rfl)))) ((P4.below ((ZY _ _).alloc (ZQ _) _)).below b5)).mono ?_;rintro e w7 ⟨k7,rfl,pl7,Q7,hq7,_⟩;have B7:=(bA.trans (b5.mono bA.size)).trans (k7.below (bA.trans (b5.mono bA.size)).size (fun y hy=>((hG.base bA.size).row y hy).1) B4.size hq)))
          | (go_at_call 30;refine(hem _).mono ?_;rintro e w5 ⟨g,cap,bs,cs,rfl,hG,b5⟩))
        all_goals
          clear hG b5 k7
          go_wp2
          go_ret2
          refine⟨B7,?_⟩
          rw [hr];exact⟨q,l.length,pl7,rfl,hq,ZQ _,Q7,Ni hr hq7⟩
    · rw [if_neg ha]
      clear hFi hIs hAr
      go_wp2_with (first
        | (go_at_call 28;refine(hc2 _ hB2).mono ?_;rintro e w3 ⟨rfl,hB3⟩)
        | (go_at_call 27;refine hc1.mono ?_;rintro e w2 ⟨rfl,hB2⟩))
      go_ret2
      refine⟨(hB2.trans (hB3.mono hB2.size)).alloc (hB2.trans (hB3.mono hB2.size)).size _,_,_,rfl⟩
set_option maxRecDepth 100000
def QR (p:Pl):List Value:=[.int .i64 p.1,.int .i64 p.2.1,.int .i64 p.2.2.1,.bool p.2.2.2]
theorem Nv {W:World} {F:Nat→Prop}:∀ps:List Pl,bW W F (ps.map plD) (ps.flatMap QR)
 | []=>aW.2 rfl
 | p::ps=>aA.2 ⟨QR p,ps.flatMap QR,by simp,by
   show RepC W F (.agg [I p.1,I p.2.1,I p.2.2.1,B p.2.2.2]) [.int .i64 p.1,.int .i64 p.2.1,.int .i64 p.2.2.1,.bool p.2.2.2]
   simp only [RepC];refine⟨?_,rfl⟩
   exact aA.2 ⟨[_],_,rfl,(by simp only [RepC];exact⟨trivial,rfl⟩),aA.2 ⟨[_],_,rfl,(by simp only [RepC];exact⟨trivial,rfl⟩),aA.2 ⟨[_],_,rfl,(by simp only [RepC];exact⟨trivial,rfl⟩),aA.2 ⟨[_],[],rfl,(by simp only [RepC];exact⟨trivial,rfl⟩),aW.2 rfl⟩⟩⟩⟩,Nv ps⟩
theorem Ng {g:Nat→List Value} (hg:∀i,(g i).length=4) {W:World} {q:Nat}:∀(n:Nat),(∀i,i<n→∀r u,(g i)[r]?=some u→W.cell? ⟨q,i*4+r,none⟩=some u)→((ZF n).flatMap g).length=n*4∧∀j u,((ZF n).flatMap g)[j]?=some u→W.cell? ⟨q,j,none⟩=some u
 | 0,_=>⟨rfl,fun j u h=>by simp at h⟩
 | n+1,h=>by
  obtain⟨h1,h2⟩:=Ng hg n (fun i hi=>h i (by omega));have e:(ZF (n+1)).flatMap g=(ZF n).flatMap g++g n:=by
   rw [aaM,List.flatMap_append];simp
  refine⟨by rw [e,aam,h1,hg];omega,fun j u hj=>?_⟩
  rw [e] at hj;by_cases hlt:j<n*4
  ·rw [List.getElem?_append_left (by omega)] at hj
   exact h2 j u hj
  ·rw [List.getElem?_append_right (by omega),h1] at hj
   have:=h n (by omega) (j - n*4) u hj;rwa [show n*4+(j - n*4)=j by omega] at this
theorem PRow.rep {W:World} {q n c:Nat} {pl:Nat→Pl} (h:PRow W q n pl) (hc:n≤c):bf W (fun b=>b=q) (pls ((ZF n).map pl)) (.slice (some ⟨q,0,none⟩) n c):=by
 show RepC W _ (pls ((ZF n).map pl)) [.slice (some ⟨q,0,none⟩) n c]
 simp only [RepC];have hl:(((ZF n).map pl).map plD).length=n:=by simp
 refine⟨some ⟨q,0,none⟩,c,((ZF n).map pl).flatMap QR,by rw [hl],by rw [hl];exact hc,Nv _,fun d hd=>?_,fun _=>⟨q,0,rfl,rfl,fun i u hu=>?_⟩⟩
 ·obtain⟨x,_,rfl⟩:=ZG.1 hd
  rfl
 ·rw [Nat.zero_add]
  rw [List.flatMap_map] at hu;refine(Ng (g:=fun i=>QR (pl i)) (fun i=>rfl) n (fun i hi r u hr=>?_)).2 i u hu
  obtain⟨k0,k1,k2,k3⟩:=h.cell hi
  match r,hr with
  | 0,hr=>cases hr;exact k0
  | 1,hr=>cases hr;exact k1
  | 2,hr=>cases hr;exact k2
  | 3,hr=>cases hr;exact k3
  | r+4,hr=>simp [QR] at hr
theorem RJ {vs:List Value} (h:vs.length=3):∃a b c,vs=[a,b,c]:=match vs,h with
 | [a,b,c],_=>⟨a,b,c,rfl⟩
theorem Ol {f:Nat} {pm:List Kd} {ff:List D→Option Out} {ds:List D} {a b c:Value} {args:Array Value} (he:∀args w,(callFunc f args).run Tryz.prog w = .ok (.enter f args) w) (hm:aw gl0 Tryz.prog f {pm:=pm,rm:=[.dat 0,.dat 0,.dat 0],f:=ff}) (hd:ff ds=some (.ret [.v a,.v b,.v c] [])) {w:World} {F:Nat→Prop}
  (ha:dU w F (fun _=>none) 0 pm ds args.toList) (hF:∀b,F b→b<w.heap.size):Calls Tryz.prog f args w fun e w'=>e = .returned (.tuple #[a,b,c])∧Below w.heap.size w w':=by
 refine(fF (ow:=fun _=>none) (F:=F) (ds:=ds) (rs:=[.v a,.v b,.v c]) (us:=[]) (args:=args) he hm hd ga ha (fun b hb=>⟨hF b hb,rfl⟩) (fun b i h=>by cases h)).mono ?_
 rintro e w' ⟨v,rfl,F',R,vs,rfl,hp⟩;have hl:=hp.len;obtain⟨u,u2,u3,rfl⟩:=RJ (hl.trans rfl);have h0:=hp.res 0;have h1:=hp.res 1;have h2:=hp.res 2;rcases h0 with h0 | h0
 ·cases h0
 rcases h1 with h1 | h1
 ·cases h1
 rcases h2 with h2 | h2
 ·cases h2
 obtain⟨hu,_⟩:=cX.1 h0;obtain⟨hu2,_⟩:=cX.1 h1;obtain⟨hu3,_⟩:=cX.1 h2;have hu':u=a:=hu;have hu2':u2=b:=hu2;have hu3':u3=c:=hu3;subst hu' hu2' hu3';exact⟨rfl,hp.os,hp.tape,hp.output,hp.size,fun b hb=>hp.keep b hb rfl⟩
open Classical in
def BS (ds:List D):Option Out:=if h:∃(x:Int × Int × Ps),ds=[I x.1,I x.2.1,pcs x.2.2]∧x.2.2.length≤1048576 then some (.ret (iQ (nk (aag h).1 (aag h).2.1 (aag h).2.2)) []) else none
theorem qQ (w h:Int) (l:Ps) (hl:l.length≤1048576):BS [I w,I h,pcs l]=some (.ret (iQ (nk w h l)) []):=by
 have hh:∃(x:Int × Int × Ps),[I w,I h,pcs l]=[I x.1,I x.2.1,pcs x.2.2]∧x.2.2.length≤1048576:=⟨(w,h,l),rfl,hl⟩
 unfold BS;rw [dif_pos hh];have h2:=(Classical.choose_spec hh).1;generalize aag hh=x at *;obtain⟨w',h',l'⟩:=x;simp only [aav,and_true] at h2;obtain⟨e1,e2,e3⟩:=h2;have e1':w=w':=by simpa using e1
 have e2':h=h':=by simpa using e2
 have e3':=TW (a:=l) (b:=l') e3;subst e1' e2' e3';rfl
@[reducible] def jh:FS:={pm:=[.dat 0,.dat 0,.dat 2],rm:=[.dat 1,.dat 0],f:=BS}
theorem PK {w:World} {F:Nat→Prop} {ow:Nat→Option Nat} {k1 k2 k3:Nat} {d1 d2 d3:D} {args:Array Value} (h:dU w F ow 0 [.dat k1,.dat k2,.dat k3] [d1,d2,d3] args.toList) (h1:d1 ≠ .bad) (h2:d2 ≠ .bad) (h3:d3 ≠ .bad) :
  ∃y1 y2 y3,args=#[y1,y2,y3]∧bf w (FB F 0 k1) d1 y1∧bf w (FB F 0 k2) d2 y2∧bf w (FB F 0 k3) d3 y3:=by
 obtain⟨l⟩:=args
 match l,h with
 | [y1,y2,y3],⟨ha,hb,hc,_⟩=>exact⟨y1,y2,y3,rfl,ha.resolve_left h1,hb.resolve_left h2,hc.resolve_left h3⟩
theorem CD:aw gl0 Tryz.prog 5 jh:=by
 have he:∀args w,(callFunc 5 args).run Tryz.prog w = .ok (.enter 5 args) w:=ZR Tryz.func5 (by kernel_rfl) rfl;refine kR he fun ds rs us hd args w F ow hg ha hF _=>?_
 have hd0:BS ds=some (.ret rs us):=hd;have hh:∃(x:Int × Int × Ps),ds=[I x.1,I x.2.1,pcs x.2.2]∧x.2.2.length≤1048576:=by
  unfold BS at hd0;split at hd0
  ·assumption
  ·cases hd0
 obtain⟨⟨wi,hi,l⟩,rfl,hl⟩:=hh;simp only at hl hd0 ha;rw [qQ wi hi l hl] at hd0;simp only [ZT,Out.ret.injEq] at hd0;obtain⟨rfl,rfl⟩:=hd0;obtain⟨y1,y2,y3,rfl,r1,r2,r3⟩:=PK ha (by simp) (by simp) (by simp);obtain⟨rfl,_⟩:=cX.1 r1;obtain⟨rfl,_⟩:=cX.1 r2;replace r3:bf w F (pcs l) y3:=r3;obtain⟨pA,pc,rfl⟩:=CZ r3;rw [aae] at r3 ⊢;have hp3:∀W,Below w.heap.size w W→bf W (fun b=>b<W.heap.size) (pcs l) (.slice pA l.length pc):=fun W hW=>aK (fun b hb=>aaB (hF b hb).1 hW.size) (fun b hb=>hW.block b (hF b hb).1) r3
 refine(Pg w wi hi l pA pc hl (fun W hW=>?_) (fun hok W hW=>?_) (fun wd ht W g cap u q bs cs hok hw1 hh1 hw8 hh8 hW hu hq hG hU hP=>?_)).mono ?_
 ·exact fd (ZR Tryz.func27 (by kernel_rfl) rfl) Hn kK rfl (FL wi hi l hl) rfl (F:=fun b=>b<W.heap.size) ga
   (show cR W _ _ (.dat 0) (I wi) (.int .i64 wi)∧cR W _ _ (.dat 0) (I hi) (.int .i64 hi)∧cR W _ _ (.dat 2) (pcs l) (.slice pA l.length pc)∧True from⟨.inr (cX.2 ⟨rfl,rfl⟩),.inr (cX.2 ⟨rfl,rfl⟩),.inr (hp3 W hW),trivial⟩) (fun b hb=>hb)
 ·exact fd (ZR Tryz.func28 (by kernel_rfl) rfl) Np pM rfl (OL l hok) rfl (F:=fun b=>b<W.heap.size) ga
   (show cR W _ _ (.dat 2) (pcs l) (.slice pA l.length pc)∧True from⟨.inr (hp3 W hW),trivial⟩) (fun b hb=>hb)
 ·refine(RQ l hok wd ht hw1 hh1 hw8 hh8 w g cap u l.length q l.length bs cs pA pc hu hq (ZQ _) (ZQ _) (fun X f hX hf hG=>?_) (fun X f p hX hf hG h0 h1 hx hy=>?_) (fun X f p n hX hG h0 h1 hx hy h2 h3=>?_) l.length W (fun _ _=>-1) [] (fun _=>(0,0,0,false)) hW hG (fun y x _ _=>⟨Int.le_refl (-1),(by decide:(-1:Int)<8)⟩) (hU.congr fun i _=>by simp) hP (by simp) (by simp) (by simp))
  ·have hw:=CU wd ht hw1 hw8 hh8 f hf
   obtain⟨x,y,ok,hfo⟩:∃x y ok,oU wd ht (bk (aV wd ht f))=[I x,I y,B ok]:=by
    unfold oU;split
    ·exact⟨_,_,_,rfl⟩
    ·exact⟨_,_,_,rfl⟩
   rw [hfo] at hw;refine(Ol (w:=X) (args:=#[.slice (some ⟨g,0,none⟩) ht cap]) (ds:=[iA (eU wd ht f)]) (F:=fun b=>b<X.heap.size) (ZR Tryz.func70 (by kernel_rfl) rfl) Dm hw
    (show cR X _ _ (.dat 2) (iA (eU wd ht f)) (.slice (some ⟨g,0,none⟩) ht cap)∧True from⟨.inr (aK (fun b hb=>(hG.blk b hb).2) (fun _ _=>rfl) hG.rep),trivial⟩) (fun b hb=>hb)).mono ?_
   rintro e W' ⟨rfl,hb⟩;exact⟨x,y,ok,rfl,hfo.symm,hb⟩
  ·exact fd (ZR Tryz.func71 (by kernel_rfl) rfl) xS jE rfl (wB wd ht f l p hok h0 h1 hw1 hh1 hw8 hh8 (by omega) (by omega)) rfl (F:=fun b=>b<X.heap.size) ga
    (show cR X _ _ (.dat 2) (iA (eU wd ht f)) (.slice (some ⟨g,0,none⟩) ht cap)∧cR X _ _ (.dat 2) (pcs l) (.slice pA l.length pc)∧cR X _ _ (.dat 0) (plD p) (FN p)∧True from⟨.inr (aK (fun b hb=>(hG.blk b hb).2) (fun _ _=>rfl) hG.rep),.inr (hp3 X hX),.inr (Lm p),trivial⟩) (fun b hb=>hb)
  ·obtain⟨k,x,y,t⟩:=p
   simp only at h0 h1 hx hy h2 h3;obtain⟨x,rfl⟩:∃x':Nat,x=x':=⟨x.toNat,by omega⟩
   obtain⟨y,rfl⟩:∃y':Nat,y=y':=⟨y.toNat,by omega⟩
   refine Cu X w.heap.size g cap wd ht bs cs f hG hw8 hh8 (.slice pA l.length pc) k x y (szN l (k,(x:Int),(y:Int),t)).1 (szN l (k,(x:Int),(y:Int),t)).2 t n (by omega) (by omega) (fun Y hY=>?_)
   have hs:=qp l (k,(x:Int),(y:Int),t) h0 h1;obtain⟨s1,s2,_⟩:=NE (p:=(k,(x:Int),(y:Int),t)) hok h0 h1;rw [←s1,←s2] at hs;exact qa (ds:=[pcs l,plD (k,(x:Int),(y:Int),t)]) (F:=fun b=>b<Y.heap.size) (ZR Tryz.func116 (by kernel_rfl) rfl) qE hs
    (show cR Y _ _ (.dat 2) (pcs l) (.slice pA l.length pc)∧cR Y _ _ (.dat 0) (plD (k,(x:Int),(y:Int),t)) (FN (k,(x:Int),(y:Int),t))∧True from⟨.inr (hp3 Y (hX.trans (hY.mono hX.size))),.inr (Lm _),trivial⟩) (fun b hb=>hb)
 ·rintro e w' ⟨hB,hres⟩
  cases hr:nk wi hi l with
  | none =>
   rw [hr] at hres;obtain⟨A,c,rfl⟩:=hres;refine⟨_,rfl,?_⟩
   obtain⟨F',R,hpost⟩:=rU (S:=jh) (args:=#[.int .i64 wi,.int .i64 hi,.slice pA l.length pc]) (d:=pls []) (K:=fun _=>False) (fl:=[.bool false]) (v:=.slice A 0 c) (w':=w') (by
    show RepC _ _ (.arr 4 []) [.slice A 0 c]
    simp only [RepC];refine⟨A,c,[],rfl,ZS _,aW.2 rfl,(fun d hd=>by cases hd),fun h=>absurd rfl h⟩) (fun b hb=>hb.elim) hB hF rfl rfl rfl (fun x hx=>by rw [ZP.1 hx];rfl)
   exact⟨F',R,_,rfl,hpost⟩
  | some qq =>
   rw [hr] at hres;obtain⟨q,cq,pl,rfl,hq,hcq,hP,rfl⟩:=hres;refine⟨_,rfl,?_⟩
   obtain⟨F',R,hpost⟩:=rU (S:=jh) (args:=#[.int .i64 wi,.int .i64 hi,.slice pA l.length pc]) (d:=pls ((ZF l.length).map pl)) (K:=fun b=>b=q) (fl:=[.bool true]) (v:=.slice (some ⟨q,0,none⟩) l.length cq) (w':=w') (hP.rep hcq) (fun b hb=>by rw [hb];exact⟨hq,hP.lt⟩) hB hF rfl rfl rfl (fun x hx=>by rw [ZP.1 hx];rfl);exact⟨F',R,_,rfl,hpost⟩
end Go.Proofs.YtccaheogjpfhjaaGreat

namespace Go.Proofs.YtccaheogjpfhjaaGreat
open Go Go.V
set_option maxRecDepth 100000
def cov (l:Ps) (p:Pl) (y x:Nat):Prop:=(p.2.2.1.toNat≤y∧y<p.2.2.1.toNat+(szN l p).2)∧p.2.1.toNat≤x∧x<p.2.1.toNat+(szN l p).1
def inP (wd ht:Nat) (l:Ps) (p:Pl):Prop:=0≤p.2.1∧0≤p.2.2.1∧p.2.1+(szN l p).1≤wd∧p.2.2.1+(szN l p).2≤ht
open Classical in
theorem AG (f:Gr) (l:Ps) (p:Pl) (y x:Nat):qf f l p y x=if cov l p y x then p.1 else f y x:=by
 unfold qf mkA cov;by_cases h:(p.2.2.1.toNat≤y∧y<p.2.2.1.toNat+(szN l p).2)∧p.2.1.toNat≤x∧x<p.2.1.toNat+(szN l p).1
 ·rw [if_pos h,if_pos ⟨h.1.1,h.1.2,h.2.1,h.2.2⟩]
 ·rw [if_neg h,if_neg fun h'=>h ⟨⟨h'.1,h'.2.1⟩,h'.2.2.1,h'.2.2.2⟩]
open Classical in
theorem MY {wd ht:Nat} {f:Gr} {l:Ps} {p:Pl}:jo wd ht f l p=true↔inP wd ht l p∧∀y x,cov l p y x→f y x = -1:=by
 unfold jo;rw [decide_eq_true_eq];constructor
 ·rintro⟨h1,h2,h3,h4,h5⟩
  refine⟨⟨h1,h2,h3,h4⟩,fun y x hc=>h5 y x ?_ ?_ ?_ ?_⟩
  ·have:=hc.1.1;omega
  ·have:=hc.1.2;omega
  ·have:=hc.2.1;omega
  ·have:=hc.2.2;omega
 ·rintro⟨⟨h1,h2,h3,h4⟩,h5⟩
  exact⟨h1,h2,h3,h4,fun y x a b c d=>h5 y x ⟨⟨by omega,by omega⟩,by omega,by omega⟩⟩
structure FilP (wd ht:Nat) (l:Ps) (f:Gr) (q:List Pl):Prop where
 inn:∀p∈q,inP wd ht l p∧0≤p.1
 fre:∀p∈q,∀y x,cov l p y x→f y x = -1
 dis:∀p∈q,∀p'∈q,p≠p'→∀y x,cov l p y x→¬cov l p' y x
 all:∀y x,y<ht→x<wd→f y x = -1→∃p∈q,cov l p y x
theorem Ri {wd ht:Nat} {f:Gr} (h:bk (aV wd ht f)=wd*ht) {y x:Nat} (hy:y<ht) (hx:x<wd):¬f y x<0:=by
 intro hn;have hm:f y x∈aV wd ht f:=by
  unfold aV;exact ZG.2 ⟨y*wd+x,ZI.2 (NQ hy hx),by rw [(Cf hx).1,(Cf hx).2]⟩
 have hlt:(aV wd ht f).findIdx (fun v=>decide (v<0))<(aV wd ht f).length:=List.findIdx_lt_length.2 ⟨_,hm,by simpa using hn⟩;rw [iN] at hlt;have h':(aV wd ht f).findIdx (fun v=>decide (v<0))=wd*ht:=h;omega
theorem Ok (l:Ps) (wd ht:Nat):∀(n:Nat) (f:Gr) (used:List Int) (q:List Pl),dc l wd ht n f used=some q→FilP wd ht l f q
 | 0,f,used,q,h=>by simp [dc] at h
 | n+1,f,used,q,h=>by
  rw [dc] at h;split at h
  ·rename_i h0
   split at h
   ·cases h
    exact⟨(fun p hp=>by cases hp),(fun p hp=>by cases hp),(fun p hp=>by cases hp),fun y x hy hx e=>absurd (show f y x<0 by omega) (Ri h0 hy hx)⟩
   ·cases h
  ·obtain⟨i,hi,h1⟩:=gM h
   split at h1
   ·cases h1
   ·obtain⟨t,_,h2⟩:=gM h1
    unfold nJ at h2;split at h2
    ·cases h2
    ·obtain⟨p,hpe⟩:∃p,bC wd i (bk (aV wd ht f)) t=p:=⟨_,rfl⟩
     have hp0:0≤p.1:=by
      rw [←hpe];show(0:Int)≤(i:Int)
      omega
     rw [hpe] at h2;split at h2
     ·cases h2
     ·rename_i g hg
      cases hr:dc l wd ht n g (used++[(i:Int)]) with
      | none=>rw [hr] at h2;cases h2
      | some q' =>
       rw [hr] at h2;simp only [aad,ZT] at h2;subst h2;unfold qe at hg;split at hg
       ·rename_i hroom
        cases hg;obtain⟨r1,r2⟩:=MY.1 hroom;obtain⟨k1,k2,k3,k4⟩:=Ok l wd ht n _ _ _ hr;have hsep:∀p'∈q',∀y x,cov l p' y x→¬cov l p y x∧f y x = -1:=fun p' hp' y x hc=>by
         have hk:=k2 p' hp' y x hc;rw [AG] at hk;by_cases hcp:cov l p y x
         ·rw [if_pos hcp] at hk
          omega
         ·rw [if_neg hcp] at hk
          exact⟨hcp,hk⟩
        refine⟨fun p' hp'=>?_,fun p' hp' y x hc=>?_,fun a ha b hb hab y x hca hcb=>?_,fun y x hy hx e=>?_⟩
        ·rcases ZN.1 hp' with rfl | hp'
         ·exact⟨r1,hp0⟩
         ·exact k1 p' hp'
        ·rcases ZN.1 hp' with rfl | hp'
         ·exact r2 y x hc
         ·exact(hsep p' hp' y x hc).2
        ·rcases ZN.1 ha with ea | ha1
         ·rcases ZN.1 hb with eb | hb1
          ·exact hab (ea.trans eb.symm)
          ·rw [ea] at hca
           exact(hsep b hb1 y x hcb).1 hca
         ·rcases ZN.1 hb with eb | hb1
          ·rw [eb] at hcb
           exact(hsep a ha1 y x hca).1 hcb
          ·exact k3 a ha1 b hb1 hab y x hca hcb
        ·by_cases hc:cov l p y x
         ·exact⟨p,by simp,hc⟩
         ·obtain⟨p',hp',hc'⟩:=k4 y x hy hx (by rw [AG,if_neg hc];exact e)
          exact⟨p',by simp [hp'],hc'⟩
       ·cases hg
theorem QE {wd ht:Nat} {l:Ps}:∀(ps:List Pl) (qo:Option Int) (f:Gr),(∀p∈ps,inP wd ht l p∧0≤p.1∧p.1≤(l.length:Int) - 1)→(∀p∈ps,∀y x,cov l p y x→f y x = -1)→ps.Pairwise (fun p p'=>p.1<p'.1∧∀y x,cov l p y x→¬cov l p' y x)→(∀q0,qo=some q0→∀p∈ps,q0<p.1) →
  ∃g,chG l wd ht qo f ps=some g∧∀y x,(f y x ≠ -1∨∃p∈ps,cov l p y x)→g y x ≠ -1
 | [],qo,f,_,_,_,_=>⟨f,rfl,fun y x h=>by
   rcases h with h | ⟨p,hp,_⟩
   ·exact h
   ·cases hp⟩
 | p::ps,qo,f,h1,h2,h3,h4=>by
  obtain⟨i1,i2,i3⟩:=h1 p (by simp);have hroom:jo wd ht f l p=true:=MY.2 ⟨i1,h2 p (by simp)⟩;have hnum:Jy l qo p=true:=by
   unfold Jy;simp only [aac,decide_eq_true_eq];refine⟨⟨i2,i3⟩,?_⟩
   cases qo with
   | none=>rfl
   | some q0=>simpa using h4 q0 rfl p (by simp)
  obtain⟨hp1,hp2⟩:=List.pairwise_cons.1 h3;have hnc:∀p'∈ps,∀y x,cov l p' y x→¬cov l p y x:=fun p' hp' y x hc hc'=>(hp1 p' hp').2 y x hc' hc
  obtain⟨g,hg,hk⟩:=QE ps (some p.1) (qf f l p) (fun p' hp'=>h1 p' (by simp [hp'])) (fun p' hp' y x hc=>by rw [AG,if_neg (hnc p' hp' y x hc)];exact h2 p' (by simp [hp']) y x hc) hp2 (fun q0 e p' hp'=>by cases e;exact(hp1 p' hp').1);refine⟨g,by rw [chG,hnum,hroom];exact hg,fun y x h=>hk y x ?_⟩
  by_cases hc:cov l p y x
  ·left
   rw [AG,if_pos hc];omega
  ·rcases h with h | ⟨p',hp',hc'⟩
   ·left
    rw [AG,if_neg hc];exact h
   ·rcases ZN.1 hp' with rfl | hp'
    ·exact absurd hc' hc
    ·exact .inr ⟨p',hp',hc'⟩
theorem Xy {q:List Pl} (h:(q.map (·.1)).Nodup):∀p∈q,∀p'∈q,p.1=p'.1→p=p':=by
 induction q with
 | nil=>intro p hp;cases hp
 | cons a q ih =>
  simp only [List.map_cons,aaL] at h;intro p hp p' hp' e;rcases ZN.1 hp with ea | hp1
  ·rcases ZN.1 hp' with eb | hp2
   ·exact ea.trans eb.symm
   ·rw [ea] at e
    exact absurd (ZG.2 ⟨p',hp2,e.symm⟩) h.1
  ·rcases ZN.1 hp' with eb | hp2
   ·rw [eb] at e
    exact absurd (ZG.2 ⟨p,hp1,e⟩) h.1
   ·exact ih h.2 p hp1 p' hp2 e
theorem Gs {w h:Int} {l:Ps} {q:List Pl} (hq:nk w h l=some q):RE q∧∃(wd ht:Nat) (g:Gr),(1≤wd∧wd≤8)∧(1≤ht∧ht≤8)∧w=wd∧h=ht∧js w h l q=some g∧∀y x,y<ht→x<wd→g y x ≠ -1:=by
 unfold nk at hq;split at hq
 ·rename_i hs
  have hs':=hs;simp only [aac,bD,decide_eq_true_eq] at hs;obtain⟨⟨⟨w1,w8⟩,h1,h8⟩,hl⟩:=hs;obtain⟨wd,rfl⟩:=aat (show 0≤w by omega);obtain⟨ht,rfl⟩:=aat (show 0≤h by omega);rw [ZO,ZO] at hq;unfold Dh at hq;split at hq
  ·cases hf:dc l wd ht (l.length+1) (fun _ _=>-1) [] with
   | none=>rw [hf] at hq;cases hq
   | some q0 =>
    rw [hf] at hq;simp only [aad,ZT] at hq;obtain⟨n1,n2,n3⟩:=Cq l wd ht _ _ [] q0 (by simp) (by simp) hf;simp only [aaK] at n1 n2 n3;obtain⟨k1,k2,k3,k4⟩:=Ok l wd ht _ _ _ _ hf;obtain⟨-,o2⟩:=EB l wd ht (by omega) (by omega) (by omega) _ _ _ _ hf;have hinj:=Xy n1;have hex:∀i:Nat,i<l.length→∃p∈q0,p.1=(i:Int):=fun i hi=>by
     have hm:(i:Int)∈q0.map (·.1):=Fi (N:=(ZF l.length).map fun n:Nat=>(n:Int)) n1 (fun n hn=>by
      have:=n2 n hn;exact ZG.2 ⟨n.toNat,ZI.2 (by omega),by omega⟩) (by simp;simpa using n3) (i:Int) (ZG.2 ⟨i,ZI.2 hi,rfl⟩)
     obtain⟨p,hp,e⟩:=ZG.1 hm;exact⟨p,hp,e⟩
    obtain⟨pl,hpl⟩:∃pl:Nat→Pl,∀i,i<l.length→pl i∈q0∧(pl i).1=(i:Int):=by
     refine⟨fun i=>if hi:i<l.length then(hex i hi).choose else(0,0,0,false),fun i hi=>?_⟩
     simp only [dif_pos hi];exact(hex i hi).choose_spec
    have heq:=Ni (pl:=pl) hf fun p hp=>by
     have hr:=n2 p.1 (ZG.2 ⟨p,hp,rfl⟩);obtain⟨a,b⟩:=hpl p.1.toNat (by omega);exact hinj _ a _ hp (by omega)
    rw [heq] at hq;have hmem:∀p∈q,p∈q0:=fun p hp=>by
     rw [←hq] at hp;obtain⟨i,hi,rfl⟩:=ZG.1 hp;exact(hpl i (ZI.1 hi)).1
    have hmem':∀p∈q0,p∈q:=fun p hp=>by
     rw [←hq];have hr:=n2 p.1 (ZG.2 ⟨p,hp,rfl⟩);obtain⟨a,b⟩:=hpl p.1.toNat (by omega);exact ZG.2 ⟨p.1.toNat,ZI.2 (by omega),hinj _ a _ hp (by omega)⟩
    have hlen:q.length=l.length:=by rw [←hq];simp
    have hl8:=oz hl;have hsz:∀p∈q,inP wd ht l p∧0≤p.1∧p.1≤(l.length:Int) - 1:=fun p hp=>by
     have hr:=n2 p.1 (ZG.2 ⟨p,hmem p hp,rfl⟩);exact⟨(k1 p (hmem p hp)).1,by omega,by omega⟩
    have hpw:q.Pairwise (fun p p'=>p.1<p'.1∧∀y x,cov l p y x→¬cov l p' y x):=by
     rw [←hq,List.pairwise_map];refine List.Pairwise.imp_of_mem (R:=fun a b=>a<b) (fun {a b} ha hb hab=>?_) List.pairwise_lt_range
     obtain⟨a1,a2⟩:=hpl a (ZI.1 ha);obtain⟨b1,b2⟩:=hpl b (ZI.1 hb);refine⟨by omega,k3 _ a1 _ b1 fun e=>?_⟩
     rw [e] at a2;omega
    obtain⟨g,hg,hgk⟩:=QE (wd:=wd) (ht:=ht) q none (fun _ _=>-1) hsz (fun p hp y x hc=>rfl) hpw (fun q0 e=>by cases e);refine⟨⟨by omega,fun p hp=>?_⟩,wd,ht,g,by omega,by omega,rfl,rfl,?_,fun y x hy hx=>?_⟩
    ·have:=(o2 p (hmem p hp)).2
     omega
    ·unfold js
     rw [if_pos hs',ZO,ZO];exact hg
    ·obtain⟨p,hp,hc⟩:=k4 y x hy hx rfl
     exact hgk y x (.inr ⟨p,hmem' p hp,hc⟩)
  ·cases hq
 ·cases hq
end Go.Proofs.YtccaheogjpfhjaaGreat

namespace Go.Proofs.YtccaheogjpfhjaaGreat
open Go.V
set_option maxRecDepth 100000
@[reducible] def Mr:TI:={n:=1,zero:=[.arr 2 []],elem:=116,ez:=2,eb:=16}
@[reducible] def RB:TI:={n:=1,zero:=[.arr 2 []],elem:=84,ez:=2,eb:=16}
@[reducible] def RX:TI:={agg:=true,n:=2,zero:=[.v (.int .i64 0),.v (.bool false)],fs:=[(0,3),(1,4)],eq:=[1,2]}
@[reducible] def Dz:TI:={agg:=true,n:=2,zero:=[.v (.int .i64 0),.v (.bool false)],fs:=[(0,3),(1,4)],eq:=[1,2]}
@[reducible] def Xl:TI:={n:=1,zero:=[.arr 1 []],elem:=120,ez:=1,eb:=24}
@[reducible] def WV:TI:={n:=1,zero:=[.arr 1 []],elem:=81,ez:=1,eb:=24}
@[reducible] def wj:Cx:={K:=[Yc,.no,Y,.no,.box 2 0 false,Yc,Y,Y,Y,Yc,Y,Yr 4,Y,Y,Y,Y,Yc,Y,Y],T:=[(3,ty3),(4,ty4),(32,Mr),(116,Dz)],S:=[(80,eD)],H:=[(0,([0,5,6,7],[0]))],res:=[.tmp 2],ios:=[],G:=gl0}
def lZ:List D→Option Out:=be wj Tryz.f38
@[reducible] def xE:FS:={pm:=[Yc],rm:=[Y],f:=lZ}
theorem Jx:aw gl0 Tryz.prog 38 xE:=aC (c:=wj) (ab eX an) Tryz.func38 rfl rfl (by kernel_rfl)
@[reducible] def xV:Cx:={K:=[Yc,.no,Y,Y,Y,Y,.no,.box 2 0 false,Yc,Y,Y,Y,Yc,Y,Yr 7,Y,Y,Y,Y,Y,Y,Y,Y,Y],T:=[(3,ty3),(4,ty4),(32,Mr),(116,Dz)],S:=[],H:=[(0,([4,5,8,9,10],[4,5]))],res:=[.tmp 2,.tmp 3],ios:=[],G:=gl0}
def mb:List D→Option Out:=be xV Tryz.f81
@[reducible] def xH:FS:={pm:=[Yc],rm:=[Y,Y],f:=mb}
theorem Ju:aw gl0 Tryz.prog 81 xH:=aC (c:=xV) an Tryz.func81 rfl rfl (by kernel_rfl)
@[reducible] def xi:Cx:={K:=[Yc,.no,Yo 1 0,Yo 1 0,Y,Yc,Y,Y,Y,Y,Y,Y,Yo 1 0,Yc,Y,Yc,Y,Y,Yb,Yo 1 0,Yo 1 0],T:=[(3,ty3),(34,eO)],S:=[],H:=[(0,([0,3,4],[3]))],res:=[.tmp 2],ios:=[],G:=gl0}
def gV:List D→Option Out:=be xi Tryz.f83
@[reducible] def xN:FS:={pm:=[Yc],rm:=[Yo 1 0],f:=gV}
theorem JN:aw gl0 Tryz.prog 83 xN:=aC (c:=xi) an Tryz.func83 rfl rfl (by kernel_rfl)
@[reducible] def Bl:Cx:={K:=[Yc,Yc,Y,.no,.no,.no,Yo 1 0,Y,Yc,Yo 1 0,Yc,Yo 1 0,Yc,Yo 1 0,Yc,Yo 1 0],T:=[(3,ty3),(34,eO)],S:=[(119,nN)],H:=[],res:=[.tmp 6],ios:=[],G:=gl0}
def jj:List D→Option Out:=be Bl Tryz.f82
@[reducible] def Ae:FS:={pm:=[Yc,Yc,Y],rm:=[Yo 1 0],f:=jj}
theorem LY:aw gl0 Tryz.prog 82 Ae:=aC (c:=Bl) (ab sL an) Tryz.func82 rfl rfl (by kernel_rfl)
@[reducible] def wT:Cx:={K:=[Yc,.no,Yb,Y,Y,Yo 1 1,Y,.no,.box 2 0 false,Yo 1 1,Y,Y,Y,Y,.tup [Y,Y],Yc,.tup [Y,Y],Y,Y,Y,Y,Y,Y,Y,Y,Y,Yo 1 1,Y,Y,Yb,Yb,Yo 1 1,Yc,Y,Y,Y,Yc,Y,Yr 8,Y,Y,Y,Y,Y,Y,Y,Y,Y,Y,Y,Y,Y,Yo 1 1,.via 5,Y,Y,Y,Y,Y,Yr 5,Yb,.via 5,Y,Y,Y,Y,Y,Y,Y,Y,Yr 5,Yb,Yb,Yr 8,Y,Yb,Yb,Yo 1 1,Y,Y,Y,Y,Y,Y,Y,Y,Y,Y,Y,Y,Y,Yo 1 1,.via 5,Y,Y,Y,Y,Y,Yr 5,Yb,.via 5,Y,Y,Y,Y,Y,Y,Y,Y,Yr 5,Yb,Yb,Yr 8,Y,Yb,Yb,Yo 1 1,Y,Y,Yo 1 1,Y,.via 5,Yr 5,Yb],T:=[(3,ty3),(4,ty4),(32,Mr),(34,eO),(72,UZ),(116,Dz)],S:=[(81,xH),(82,Ae),(83,xN)],H:=[(0,([0,3,4,5,6],[0,3,4,5])),(2,([3,4,5,32,33,34],[5])),(4,([3,4,5,8,9,10,32,33,34],[3,4,5,9,32,33,34])),(6,([3,4,5,8,9,10,11,32,33,34],[3,4,5,8,9,10,32,33,34])),(8,([3,4,5,8,9,12,32,33,34],[3,4,5,9,32,33,34])),(10,([3,4,5,8,9,12,13,32,33,34],[3,4,5,8,9,12,32,33,34]))],res:=[.tmp 2],ios:=[],G:=gl0}
def mh:List D→Option Out:=be wT Tryz.f39
@[reducible] def xr:FS:={pm:=[Yc],rm:=[Yb],f:=mh}
theorem Jw:aw gl0 Tryz.prog 39 xr:=aC (c:=wT) (ab Ju (ab LY (ab JN an))) Tryz.func39 rfl rfl (by kernel_rfl)
@[reducible] def xv:Cx:={K:=[Y,Y,.no,.no,Y,Y,Y,Y,Y,Y],T:=[(3,ty3)],S:=[],H:=[],res:=[.tmp 4],ios:=[],G:=gl0}
def ml:List D→Option Out:=be xv Tryz.f84
@[reducible] def wn:FS:={pm:=[Y,Y],rm:=[Y],f:=ml}
theorem Iy:aw gl0 Tryz.prog 84 wn:=aC (c:=xv) an Tryz.func84 rfl rfl (by kernel_rfl)
@[reducible] def Bo:Cx:={K:=[Y,.no,Y,Y,Y,Y,Y],T:=[],S:=[(84,wn)],H:=[],res:=[.tmp 2],ios:=[],G:=gl0}
def nM:List D→Option Out:=be Bo Tryz.f40
@[reducible] def BF:FS:={pm:=[Y],rm:=[Y],f:=nM}
theorem Lg:aw gl0 Tryz.prog 40 BF:=aC (c:=Bo) (ab Iy an) Tryz.func40 rfl rfl (by kernel_rfl)
@[reducible] def qM:Cx:={K:=[Yc,.no,Yo 1 0,Y,Yo 1 0,.no,Y,Yc,Y,Y,Yc,Yb,Y,Y,Y,Yb,Y,Yo 1 0,Y,Y,Y,Yb,Yo 1 0,Y,Yo 1 0],T:=[(3,ty3),(34,eO)],S:=[(38,xE),(39,xr),(40,BF)],H:=[(0,([4,11,12,13],[4]))],res:=[.tmp 2,.tmp 3],ios:=[],G:=gl0}
def jd:List D→Option Out:=be qM Tryz.f11
@[reducible] def ry:FS:={pm:=[Yc],rm:=[Yo 1 0,Y],f:=jd}
theorem CE:aw gl0 Tryz.prog 11 ry:=aC (c:=qM) (ab Jx (ab Jw (ab Lg an))) Tryz.func11 rfl rfl (by kernel_rfl)
@[reducible] def th:Cx:={K:=[Yc,.no,Y,.no,.box 2 0 false,Yc,Y,Y,Y,Yc,Y,Yr 4,Y,Y,Y,Yr 4,Y,Y,Y,Y,Yc,Y,Y],T:=[(3,ty3),(4,ty4),(32,Mr),(116,Dz)],S:=[],H:=[(0,([0,5,6,7],[0]))],res:=[.tmp 2],ios:=[],G:=gl0}
def gT:List D→Option Out:=be th Tryz.f36
@[reducible] def ni:FS:={pm:=[Yc],rm:=[Y],f:=gT}
theorem td:aw gl0 Tryz.prog 36 ni:=aC (c:=th) an Tryz.func36 rfl rfl (by kernel_rfl)
@[reducible] def qT:Cx:={K:=[Yc,.no,Y,Y,Y,Y,.no,.box 2 0 false,Yc,Y,Y,Y,Yc,Y,Yr 7,Y,Y,Y,Y,Y,Y,Y,Y,Y],T:=[(3,ty3),(4,ty4),(32,Mr),(116,Dz)],S:=[],H:=[(0,([4,5,8,9,10],[4,5]))],res:=[.tmp 2,.tmp 3],ios:=[],G:=gl0}
def jl:List D→Option Out:=be qT Tryz.f78
@[reducible] def rk:FS:={pm:=[Yc],rm:=[Y,Y],f:=jl}
theorem CN:aw gl0 Tryz.prog 78 rk:=aC (c:=qT) an Tryz.func78 rfl rfl (by kernel_rfl)
@[reducible] def HU:Cx:={K:=[Yc,Yc,Y,.no,.no,.no,Yo 2 0,Yo 2 0,Y,Yo 2 0,Yc,Y,Y,Y,Y,Y,Y,Yo 2 0,Yc,Y,Yc,Yc,Y,Yc,Y,Yc,Yc,Y,Y,Y,Yb,Yo 2 0,Y,Yo 2 0,Yc,Yo 2 0,Yo 2 0,Yc,Yo 2 0,.via 7,Yo 2 0],T:=[(3,ty3),(4,ty4),(81,RB),(84,RX)],S:=[],H:=[(0,([0,1,2,7,8],[0,2,7]))],res:=[.tmp 6],ios:=[],G:=gl0}
def oc:List D→Option Out:=be HU Tryz.f120
@[reducible] def Fh:FS:={pm:=[Yc,Yc,Y],rm:=[Yo 2 0],f:=oc}
theorem Px:aw gl0 Tryz.prog 120 Fh:=aC (c:=HU) an Tryz.func120 rfl rfl (by kernel_rfl)
@[reducible] def sT:Cx:={K:=[Yc,Y,.no,.box 2 0 false,Yo 1 1,Y,Y,Yo 1 1,Y,Yo 1 1,Y,.no,Yc,Yo 1 1,Y,Yc,Y,Yc,Yc,Yc,Y,Yo 1 1,Yr 3,Y,Y,Y,Y,Y,Y,Y,Y,Yo 1 1,Yc,Y,Yc,Yc,Y,Y,Y,Y,Yo 1 1,Yc,Y,Yc,Yc,Y,Yc,Yc,Yc,Y,Y,Y,Y,Yc,Yc,Y,Yc,Yc,Yr 3,Y,Yb,Yb,Yo 1 1,Y,Yo 1 1,.via 9,Yb,Yo 1 1,Yo 1 1,Yc,Y,Y,Y,Yc,Yc,Yo 1 1,Y,Y,Y,Y,Y,Y,Yo 1 1,Yc,Y,Yc,Yc,Yc,Y,Y,Y,Y,Yc,Yc,Yr 3,Y,Yb,Yb,Yo 1 1,Yo 1 1,.via 13,Yb,Yo 1 1,Y,Yo 1 1],T:=[(3,ty3),(4,ty4),(81,RB),(84,RX),(116,Dz),(119,Xl),(120,WV)],S:=[(120,Fh)],H:=[(0,([0,3,5,7,8],[7])),(2,([0,3,5,7,8,9,36,37],[0,3,5,7,8,9])),(4,([3,6,7,69,70,71],[7])),(6,([3,6,7,12,13,14,69,70,71],[3,6,7,13,69,70,71]))],res:=[.tmp 4],ios:=[],G:=gl0}
@[reducible] def sX:List (Nat × List Nat):=[(13,[9]),(23,[13])]
def jP:List D→Option Out:=wy sT sX Tryz.f79
@[reducible] def jK:FS:={pm:=[Yc,Y],rm:=[Yo 1 1],f:=jP}
theorem Eu:aw gl0 Tryz.prog 79 jK:=CT (Z:=sX) (P:=Tryz.prog) (c:=sT) (fn:=Tryz.f79) (pm:=jK.pm) (rm:=jK.rm) (by kernel_rfl) (ab Px an) fW Tryz.func79 (by kernel_rfl) (by kernel_rfl) rfl
@[reducible] def xJ:Cx:={K:=[Yc,.no,Yb,Y,Y,Yo 1 1,Y,Yo 1 1,Y,.no,.box 2 0 false,.tup [Y,Y],Yc,.tup [Y,Y],Y,Y,Yo 1 1,Y,Y,Y,Y,Y,Yo 1 1,Y,Y,Y,Y,Y,Yo 1 1,Y,Y,Y,Y,Y,Y,Yb,Yb,Yo 1 1,Yo 1 1,.via 7,Yb,Yo 1 1,Yc,Y,Y,Y,Yc,Y,.via 5,Y,Yo 1 1,Y,.via 5,Yr 5,Yb,Yb,Yb],T:=[(3,ty3),(4,ty4),(32,Mr),(81,RB),(84,RX),(116,Dz),(119,Xl),(120,WV)],S:=[(78,rk),(79,jK)],H:=[(0,([0,3,4,5,6],[0,5])),(2,([0,3,4,5,6,7,8],[0,3,4,5,6,7])),(4,([5,42,43,44],[5]))],res:=[.tmp 2],ios:=[],G:=gl0}
@[reducible] def xQ:List (Nat × List Nat):=[(11,[7])]
def gX:List D→Option Out:=wy xJ xQ Tryz.f37
@[reducible] def ic:FS:={pm:=[Yc],rm:=[Yb],f:=gX}
theorem qn:aw gl0 Tryz.prog 37 ic:=CT (Z:=xQ) (P:=Tryz.prog) (c:=xJ) (fn:=Tryz.f37) (pm:=ic.pm) (rm:=ic.rm) (by kernel_rfl) (ab CN (ab Eu an)) fW Tryz.func37 (by kernel_rfl) (by kernel_rfl) rfl
@[reducible] def rY:Cx:={K:=[Yc,.no,Yo 1 0,Y,Yo 1 0,.no,.box 2 0 false,Yc,Y,Y,Yo 1 0,Yo 1 0,Yc,Yb,Y,Y,Y,Yb,Y,Yo 1 0,Yr 6,Y,Yb,Yo 1 0,Y,Yo 1 0],T:=[(3,ty3),(4,ty4),(34,eO),(81,RB),(84,RX)],S:=[(36,ni),(37,ic)],H:=[(0,([4,13,14,15],[4]))],res:=[.tmp 2,.tmp 3],ios:=[],G:=gl0}
def gk:List D→Option Out:=be rY Tryz.f10
@[reducible] def rT:FS:={pm:=[Yc],rm:=[Yo 1 0,Y],f:=gk}
theorem Cw:aw gl0 Tryz.prog 10 rT:=aC (c:=rY) (ab td (ab qn an)) Tryz.func10 rfl rfl (by kernel_rfl)
@[reducible] def rl:Cx:={K:=[Yc,.no,Y,Yc,Yb,Y,Y],T:=[(3,ty3),(81,RB),(84,RX)],S:=[(37,ic)],H:=[],res:=[.tmp 2],ios:=[],G:=gl0}
def ji:List D→Option Out:=be rl Tryz.f85
@[reducible] def qO:FS:={pm:=[Yc],rm:=[Y],f:=ji}
theorem BO:aw gl0 Tryz.prog 85 qO:=aC (c:=rl) (ab qn an) Tryz.func85 rfl rfl (by kernel_rfl)
@[reducible] def sV:Cx:={K:=[Yc,Y,.no,.no,Y,Yc,Y,Y,Y,Yc,Y,Y,Y],T:=[],S:=[(36,ni),(76,cD),(85,qO)],H:=[],res:=[.tmp 4],ios:=[],G:=gl0}
def jS:List D→Option Out:=be sV Tryz.f41
@[reducible] def sP:FS:={pm:=[Yc,Y],rm:=[Y],f:=jS}
theorem DM:aw gl0 Tryz.prog 41 sP:=aC (c:=sV) (ab td (ab cE (ab BO an))) Tryz.func41 rfl rfl (by kernel_rfl)
@[reducible] def od:Cx:={K:=[Yc,Y,.no,.no,Y,Y,Y,.box 2 0 false,Yc,Y,Y,Y,Yc,Yb,Y,Y,Y,Yb,Y,Yr 7,Y,Yr 7,Y,Y,Y,Y,Y],T:=[(3,ty3),(4,ty4),(81,RB),(84,RX)],S:=[(37,ic),(41,sP)],H:=[],res:=[.tmp 4,.tmp 5,.tmp 6],ios:=[],G:=gl0}
def dX:List D→Option Out:=be od Tryz.f13
@[reducible] def oE:FS:={pm:=[Yc,Y],rm:=[Y,Y,Y],f:=dX}
theorem yQ:aw gl0 Tryz.prog 13 oE:=aC (c:=od) (ab qn (ab DM an)) Tryz.func13 rfl rfl (by kernel_rfl)
@[reducible] def oI:Cx:={K:=[.box 3 2 true,.no,Yo 2 0,Yo 2 0,Y,Yr 0,Y,Yr 0,Y,Yr 0,Y,Y,.via 3,Y,Y,Y,Yo 2 0,Yr 0,Yb,Y,Yr 0,Y,Y,Yb,Yo 2 0,Y,Y,Y,Yr 0,Y,Y,.via 3,Yr 0,Y,Y,Yr 0,Yb,Y,Yr 3,Yr 3,Yo 2 0],T:=[(3,ty3),(4,ty4),(32,Mr),(34,eO),(116,Dz)],S:=[(25,cH),(64,cm),(65,bw)],H:=[(0,([0,3,4],[0,3,4]))],res:=[.tmp 2],ios:=[0],G:=gl0}
def fm:List D→Option Out:=be oI Tryz.f77
@[reducible] def oP:FS:={pm:=[.box 3 2 true],rm:=[Yo 2 0],f:=fm}
theorem yk:aw gl0 Tryz.prog 77 oP:=aC (c:=oI) (ab cY (ab cn (ab bz an))) Tryz.func77 rfl rfl (by kernel_rfl)
@[reducible] def ny:Cx:={K:=[Yc,.no,Yo 2 0,Yr 6,Yc,Yc,.box 3 2 false,Yr 6,Yo 2 0],T:=[(3,ty3),(22,Pm),(32,Mr),(61,UC),(63,Se)],S:=[(77,oP)],H:=[],res:=[.tmp 2],ios:=[],G:=gl0}
def gd:List D→Option Out:=be ny Tryz.f35
@[reducible] def nw:FS:={pm:=[Yc],rm:=[Yo 2 0],f:=gd}
theorem vT:aw gl0 Tryz.prog 35 nw:=aC (c:=ny) (ab yk an) Tryz.func35 rfl rfl (by kernel_rfl)
@[reducible] def mV:Cx:={K:=[Yc,.no,Yo 2 0,Yc,Yo 2 0],T:=[(32,Mr)],S:=[(35,nw)],H:=[],res:=[.tmp 2],ios:=[],G:=gl0}
def fL:List D→Option Out:=be mV Tryz.f9
@[reducible] def mY:FS:={pm:=[Yc],rm:=[Yo 2 0],f:=fL}
theorem tJ:aw gl0 Tryz.prog 9 mY:=aC (c:=mV) (ab vT an) Tryz.func9 rfl rfl (by kernel_rfl)
set_option maxRecDepth 100000
@[reducible] def pZ (k:List D→Option Out):Cx:={K:=[Yc,Y,Y,Y,.no,.box 3 0 false,.no,.no,Yo 1 0,Yo 1 0,Y,.via 9,Y,Y,Y,Y,Yc,Y,Yo 1 0,.via 9,Y,Y,Y,Y,.via 9,Y,Yr 9,Y,Y,Y,Y,Y,Y,Y,Yc,Y,Yc,Y,Y,Y,Y,.via 9,Y,Yr 9,Y,Y,Y,Yo 1 0,.via 9,Y,Y,Yc,Y,Y,Y,Y,Yb,Yc,Y,Y,Y,Y,Y,Y,Y,Y,Y,Yc,Y,Y,Y,Y,.tup [Y,Y],Yc,Y,Y,Yc,Y,Y,.tup [Y,Y],Y,Y,Y,Y,.via 9,Y,Yr 9,Y,Y,Y,Y,.via 9,Y,Yr 9,Y,Y,Y,Y,.via 9,Y,Yr 9,Y,Y,.via 9,Y,Yr 9,Y,Y,Y,Y,.via 9,Y,Y,.via 9,Y,Yr 9,Y,Y,Yr 9,Yo 1 0],T:=[(3,ty3),(34,eO),(53,qm)],S:=[(61,jQ),(62,mG),(114,{pm:=[Yc,Y,Y,Y],rm:=[Yo 1 0],f:=k})],H:=[(0,([0,2,3,5,9,20,21],[0,2,3,5,9])),(2,([0,2,5,9,11,12],[9])),(4,([0,2,5,9,11,12,13],[0,2,5,9,11,12]))],res:=[.tmp 8],ios:=[],G:=gl0}
def dI:Nat→List D→Option Out
 | 0,_=>none
 | n+1,ds=>be (pZ (dI n)) Tryz.f114 ds
def iv:List D→Option Out:=MS dI
@[reducible] def iF:FS:={pm:=[Yc,Y,Y,Y],rm:=[Yo 1 0],f:=iv}
theorem oG:∀n:Nat,aw gl0 Tryz.prog 114 {pm:=[Yc,Y,Y,Y],rm:=[Yo 1 0],f:=dI n}
 | 0=>FO (fun _=>rfl)
 | n+1=>by
  have ih:=oG n;exact HG (P:=Tryz.prog) (c:=pZ (dI n)) (fn:=Tryz.f114) (pm:=iF.pm) (rm:=iF.rm) (by kernel_rfl) (ab nl (ab qD (ab ih an))) fW Tryz.func114 (by kernel_rfl) (by kernel_rfl) rfl
theorem zV:aw gl0 Tryz.prog 114 iF:=KK oG
@[reducible] def pB:Cx:={K:=[Yc,Y,Y,Y,.no,.box 3 0 false,.no,.no,Yo 1 0,Y,Y,Yb,Yo 1 0,Y,Y,Y,Yb,Y,Y,Y,Yc,Y,Y,Y,Yb,Yo 1 0,Yb,Yb,Y,Y,Y,Yo 1 0,Y,Y,Y,Y,Y,Y,Y,Y,Y,Y,Yc,Y,Yc,Y,Y,Y,Y,Y,Y,Y,Yb,Y,Y,Y,Y,Yc,Y,Y,Y,Yb,Y,Y,Y,Yc,Y,Y,Y,Y,.tup [Y,Y],Yc,Y,Y,Yc,Y,Y,.tup [Y,Y],Y,Y,Y,Y,Yb,Y,Yb,Y,Y,Y,Y,Y,Yb,Y,Yb,Y,Y,Y,Y,Y,Yo 1 0,Y,Yb,Yo 1 0,Y,Yb,Y,Yb,Y,Yb,Yo 1 0,Y],T:=[(3,ty3),(34,eO),(53,qm)],S:=[(61,jQ),(62,mG),(114,iF)],H:=[(0,([0,2,3,5,11,12,13,14,15],[12,13])),(2,([0,2,3,5,12,13,14,15,16,17],[0,2,3,5,11,12,13,14,15,16]))],res:=[.tmp 8,.tmp 9,.tmp 10],ios:=[],G:=gl0}
def iB:List D→Option Out:=be pB Tryz.f63
@[reducible] def pf:FS:={pm:=[Yc,Y,Y,Y],rm:=[Yo 1 0,Y,Y],f:=iB}
theorem AU:aw gl0 Tryz.prog 63 pf:=aC (c:=pB) (ab nl (ab qD (ab zV an))) Tryz.func63 rfl rfl (by kernel_rfl)
@[reducible] def pJ:Cx:={K:=[Yc,Y,Y,.no,.box 3 0 false,.no,Yo 1 0,Y,Y,Yc,Y,Y,Y,Y,Yo 1 0,Yc,Y,Y,.tup [Yo 1 0,Y,Y],Yo 1 0,Y,Y],T:=[(3,ty3),(34,eO),(53,qm)],S:=[(59,iq),(63,pf)],H:=[],res:=[.tmp 6,.tmp 7,.tmp 8],ios:=[],G:=gl0}
def iE:List D→Option Out:=be pJ Tryz.f22
@[reducible] def py:FS:={pm:=[Yc,Y,Y],rm:=[Yo 1 0,Y,Y],f:=iE}
theorem Ah:aw gl0 Tryz.prog 22 py:=aC (c:=pJ) (ab lw (ab AU an)) Tryz.func22 rfl rfl (by kernel_rfl)
open Go Go.V
set_option maxRecDepth 100000
@[reducible] def ku:Cx:={K:=[.box 3 2 true,.no,.dat 1,.box 3 0 false,.dat 0,.own 1 0 false,.dat 0,.box 3 0 false,.ref 0,.dat 0,.dat 0,.ref 0,.dat 0,.ref 0,.dat 1,.dat 0,.via 5,.dat 0,.dat 0,.dat 0,.own 1 0 false,.ref 0,.dat 0,.dat 0,.dat 1,.own 1 0 false,.ref 0,.dat 0,.dat 0,.ref 0,.dat 0,.dat 0,.dat 0,.ref 0,.dat 0,.ref 0,.dat 0,.dat 0,.dat 0,.dat 0,.ref 0,.dat 0,.dat 0,.via 5,.ref 0,.dat 0,.dat 0,.ref 0,.dat 1,.dat 0,.ref 5,.dat 1,.dat 0,.ref 0,.ref 0,.dat 1,.dat 0,.dat 1,.dat 0],T:=[(3,ty3),(34,eO),(53,qm)],S:=[(25,cH),(64,cm),(65,bw),(102,qb)],H:=[(0,([0,3,5,6],[0,3,5,6]))],res:=[.tmp 2,.cell 3 53,.tmp 4],ios:=[0],G:=gl0}
@[reducible] def ko:List (Nat × List Nat):=[(12,[5])]
def dA:List D→Option Out:=wy ku ko Tryz.f55
@[reducible] def eI:FS:={pm:=[.box 3 2 true],rm:=[.dat 1,.dat 0,.dat 0],f:=dA}
theorem rP:aw gl0 Tryz.prog 55 eI:=CT (Z:=ko) (P:=Tryz.prog) (c:=ku) (fn:=Tryz.f55) (pm:=eI.pm) (rm:=eI.rm) (by kernel_rfl) (ab cY (ab cn (ab bz (ab zF an)))) fW Tryz.func55 (by kernel_rfl) (by kernel_rfl) rfl
open Go Go.Proofs Go.V Go.RowKit Go.Lib
set_option maxRecDepth 100000
abbrev Way:=Bool × Int × List Int × Int
def sd:List Int→List Int→Bool
 | [],[]=>false
 | [],_::_=>true
 | _::_,[]=>false
 | a::x,b::y=>if a=b then sd x y else decide (a<b)
abbrev EY (n:Int):Int:=wrap64 n
def Ef (c:Int) (rest:Way) (j:Nat) (out:Way):Prop:=out.1=false∨EY (c+rest.2.1)<out.2.1∨(EY (c+rest.2.1)=out.2.1∧sd ((j:Int)::rest.2.2.1) out.2.2.1=true)
open Classical in
def rD (c:Int × Bool) (rest:Way) (j:Nat) (out:Way):Way :=
 if c.2=true∧rest.1=true then
  (if Ef c.1 rest j out then(true,EY (c.1+rest.2.1),(j:Int)::rest.2.2.1,EY (out.2.2.2+rest.2.2.2)) else(true,out.2.1,out.2.2.1,EY (out.2.2.2+rest.2.2.2)))
 else out
def GR (ok:Bool):Way:=if ok=true then(true,0,[],1) else(false,0,[],0)
def inW (n:Nat) (last:Bool) (lc:Nat→Int × Bool) (v:Nat→Way):Nat→Way
 | 0=>GR last
 | d+1=>rD (lc (n - 1 - d)) (v (n - 1 - d)) (n - 1 - d) (inW n last lc v d)
def fG (n:Nat) (last:Nat→Bool) (lc:Nat→Nat→Int × Bool):Nat→Nat→Way
 | 0=>fun _=>(false,0,[],0)
 | e+1=>fun x=>if x=n - 1 - e then inW n (last (n - 1 - e)) (lc (n - 1 - e)) (fG n last lc e) e else fG n last lc e x
def KI (W W':World):Prop:=∀(b:Nat) (cur:Array Value),W.heap[b]?=some (.cells cur 3 (0,0))→W'.heap[b]?=some (.cells cur 3 (0,0))
theorem KI.refl (W:World):KI W W:=fun _ _ h=>h
theorem KI.trans {W W' W'':World} (h:KI W W') (h':KI W' W''):KI W W'':=fun b cur hb=>h' b cur (h b cur hb)
theorem KI.of {W W':World} (h:Below W.heap.size W W'):KI W W':=fun b cur hb=>(h.block b (aG hb)).trans hb
theorem KI.set {W:World} {p:Addr} {v:Value} {c:Array Value} {t:TypeId} {fr:Nat × Nat} (h:W.heap[p.block]?=some (.cells c t fr)) (ht:t≠3):KI W (W.setCell p v):=fun b cur hb=>by
 have hne:b≠p.block:=fun e=>by
  rw [e,h] at hb;simp only [ZT,Obj.cells.injEq] at hb;exact ht hb.2.1
 rw [heap_setCell_other _ _ _ _ hne];exact hb
def lR (W:World) (B:Nat) (y:Value) (l:List Int):Prop:=(y = .slice none 0 0∧l=[])∨tz W B y l
theorem lR.kept {W W':World} {B:Nat} {y:Value} {l:List Int} (h:lR W B y l) (hk:KI W W'):lR W' B y l :=
 h.imp id fun h=>by
  obtain⟨g,cap,cur,h1,h2,h3,h4⟩:=h;exact⟨g,cap,cur,h1,h2,hk g cur h3,h4⟩
structure WayC (W:World) (B:Nat) (x0 x1 x2 x3:Value) (v:Way):Prop where
 ok:x0 = .bool v.1
 cost:x1 = .int .i64 v.2.1
 brk:lR W B x2 v.2.2.1
 ways:x3 = .int .i64 v.2.2.2
structure WRow (W:World) (B R n:Nat) (v:Nat→Way):Prop where
 out:∃cur,W.heap[R]?=some (.cells cur 140 (0,0))∧n*4≤cur.size∧∀i,i<n→∃y,cur[i*4]?=some (.bool (v i).1)∧cur[i*4+1]?=some (.int .i64 (v i).2.1)∧cur[i*4+2]?=some y∧cur[i*4+3]?=some (.int .i64 (v i).2.2.2)∧lR W B y (v i).2.2.1
section
variable {W W':World} {B R n:Nat} {v:Nat→Way}
theorem WRow.lt (h:WRow W B R n v):R<W.heap.size:=by
 obtain⟨cur,h1,_⟩:=h.out;exact aG h1
theorem WRow.fz (h:WRow W B R n v) (i:Nat):W.frozen? ⟨R,i,none⟩=false:=by
 obtain⟨cur,h1,_⟩:=h.out;exact aan h1 i
theorem WRow.cell (h:WRow W B R n v) {i:Nat} (hi:i<n):∃y,W.cell? ⟨R,i*4,none⟩=some (.bool (v i).1)∧W.cell? ⟨R,i*4+1,none⟩=some (.int .i64 (v i).2.1)∧W.cell? ⟨R,i*4+2,none⟩=some y∧W.cell? ⟨R,i*4+3,none⟩=some (.int .i64 (v i).2.2.2)∧lR W B y (v i).2.2.1:=by
 obtain⟨cur,h1,_,h2⟩:=h.out;obtain⟨y,k0,k1,k2,k3,k4⟩:=h2 i hi;refine⟨y,?_,?_,?_,?_,k4⟩<;>rw [aab h1]<;>assumption
theorem WRow.kept (h:WRow W B R n v) (hR:W'.heap[R]?=W.heap[R]?) (hk:KI W W'):WRow W' B R n v:=by
 obtain⟨cur,h1,h2,h3⟩:=h.out;refine⟨cur,hR.trans h1,h2,fun i hi=>?_⟩
 obtain⟨y,k0,k1,k2,k3,k4⟩:=h3 i hi;exact⟨y,k0,k1,k2,k3,k4.kept hk⟩
theorem WRow.below (h:WRow W B R n v) (hb:Below W.heap.size W W'):WRow W' B R n v:=h.kept (hb.block R h.lt) (KI.of hb)
def Sz (W:World) (R i:Nat) (x0 x1 x2 x3:Value):World:=(((W.setCell ⟨R,i*4,none⟩ x0).setCell ⟨R,i*4+1,none⟩ x1).setCell ⟨R,i*4+2,none⟩ x2).setCell ⟨R,i*4+3,none⟩ x3
theorem sJ {i b:Nat} {x0 x1 x2 x3:Value} (h:b≠R):(Sz W R i x0 x1 x2 x3).heap[b]?=W.heap[b]?:=by
 unfold Sz;rw [heap_setCell_other _ _ _ _ h,heap_setCell_other _ _ _ _ h,heap_setCell_other _ _ _ _ h,heap_setCell_other _ _ _ _ h]
theorem WRow.ki (h:WRow W B R n v) {i:Nat} {x0 x1 x2 x3:Value}:KI W (Sz W R i x0 x1 x2 x3):=fun b cur hb=>by
 obtain⟨cur',h1,_⟩:=h.out;have hne:b≠R:=fun e=>by
  rw [e,h1] at hb;simp at hb
 rw [sJ hne];exact hb
theorem WRow.put (h:WRow W B R n v) (i:Nat) {x0 x1 x2 x3:Value} {q:Way} (hq:WayC W B x0 x1 x2 x3 q):WRow (Sz W R i x0 x1 x2 x3) B R n fun x=>if x=i then q else v x:=by
 have hki:=h.ki (i:=i) (x0:=x0) (x1:=x1) (x2:=x2) (x3:=x3);obtain⟨cur,h1,h2,h3⟩:=h.out;obtain⟨rfl,rfl,hb,rfl⟩:=hq;refine⟨(((cur.setIfInBounds (i*4) (.bool q.1)).setIfInBounds (i*4+1) (.int .i64 q.2.1)).setIfInBounds (i*4+2) x2).setIfInBounds (i*4+3) (.int .i64 q.2.2.2),?_,by simpa using h2,fun c hc=>?_⟩
 ·exact heap_setCell_same _ _ _ _ _ _ (heap_setCell_same _ _ _ _ _ _ (heap_setCell_same _ _ _ _ _ _ (heap_setCell_same _ _ _ _ _ _ h1)))
 ·obtain⟨y,k1,k2,k3,k4,k5⟩:=h3 c hc
  by_cases e:c=i
  ·subst e
   simp only [if_true];have g1:c*4<cur.size:=by omega
   have g2:c*4+1<cur.size:=by omega
   have g3:c*4+2<cur.size:=by omega
   have g4:c*4+3<cur.size:=by omega
   refine⟨x2,?_,?_,?_,?_,hb.kept hki⟩<;>simp [aal,g1,g2,g3,g4]
  ·have n1:∀a b:Nat,a<4→b<4→¬i*4+a=c*4+b:=fun a b ha hb he=>e (by omega)
   simp only [if_neg e];refine⟨y,?_,?_,?_,?_,k5.kept hki⟩
   all_goals
    rw [ZH (by omega),ZH (by omega),ZH (by omega),ZH (by omega)];assumption
end
theorem UO {W:World} {B R n:Nat} (h:W.heap[R]?=some (.cells (madeCells #[.bool false,.int .i64 0,.slice none 0 0,.int .i64 0] (n*4)) 140 (0,0))):WRow W B R n (fun _=>(false,0,[],0)) :=
 ⟨_,h,by rw [size_madeCells];omega,fun i hi=>by
  have g0:i*4<n*4:=by omega
  have g1:i*4+1<n*4:=by omega
  have g2:i*4+2<n*4:=by omega
  have g3:i*4+3<n*4:=by omega
  refine⟨.slice none 0 0,?_,?_,?_,?_,.inl ⟨rfl,rfl⟩⟩<;>simp [madeCells,g0,g1,g2,g3,Nat.add_mod]⟩
end Go.Proofs.YtccaheogjpfhjaaGreat

namespace Go.Proofs.YtccaheogjpfhjaaGreat
open Go Go.Proofs Go.V Go.RowKit Go.Lib
set_option maxRecDepth 100000
theorem yW {P:Program} (w:World) (base:Nat) (t ty e:TypeId) (i:TypeInfo) (size c:Nat) (ht:P.underlying t=some (.slice e)) (hi:P.info? e=some i)
  (v:Value) (n:Nat) (xs:List Value) (hown:w.ownsRow base e size v n xs) :
  (aaw #[t,t] ty #[v,.slice none 0 c]).run P w = .ok v w:=by
 rcases hown.2 with ⟨rfl,rfl⟩ | ⟨g,cap,cur,rfl,_,_,hnc,_⟩
 ·simp [aaw,run_underlying ht,sizeOf,typeInfo,hi,aaR,aaC]
 ·simp [aaw,run_underlying ht,sizeOf,typeInfo,hi,aaR,aaC,hnc,storeCells]
theorem yY {P:Program} (w:World) {ops:Array Oper} {rest:List Oper} {o:Oper} {a:Act} {Q:Exit→Act→World→Prop} (hgd:o.guard=none) (s x:Operand) (t:TypeId)
  (ho:o.op = .call {callee:=.builtin .append,args:=#[s,x],argTypes:=#[t,t]})
  (base:Nat) (e:TypeId) (i:TypeInfo) (z:Value) (size bytes:Nat) (ht:P.underlying t=some (.slice e)) (hi:P.info? e=some i) (hz:i.zero=some z)
  (hsize:i.size=size) (hby:i.bytes=bytes) (hzs:z.cells.size=size) (hsz:0<size)
  (v:Value) (n:Nat) (xs:List Value) (hs:a.eval s=v) (hown:w.ownsRow base e size v n xs)
  (A:Option Addr) (m c:Nat) (news:List Value) (hx:a.eval x = .slice A m c) (hl:news.length=m*size) (hA:m≠0→∃g o,A=some ⟨g,o,none⟩∧∀j u,news[j]?=some u→w.cell? ⟨g,o+j,none⟩=some u) (h1:∀u∈news,u.oneCell'=true)
  (h63:n+m≤maxLen) (hbytes:(n+m)*bytes≤140737488355328) (hbase:base≤w.heap.size)
  (h:∀v' w',w'.ownsRow base e size v' (n+m) (xs++news)→w.grownBy w' v.ownBlock→(v'.ownBlock=v.ownBlock∨v'.ownBlock=some w.heap.size)→wpList P ops Q rest (a.put o.dst v') w') :
  wpList P ops Q (o::rest) a w:=by
 cases A with
 | some ad =>
  refine wpList_append_own_at w hgd s x t ho base e i z size bytes ht hi hz hsize hby hzs hsz v n xs hs hown ad m c news hx hl (fun j u hj=>?_) h1 h63 hbytes hbase fun v' w' h2 h3 _ h5=>h v' w' h2 h3 h5
  have hm:m≠0:=by
   rintro rfl;have:news=[]:=aak (by simpa using hl);subst this;simp at hj
  obtain⟨g,o,e1,h2⟩:=hA hm;cases e1;rw [show(⟨g,o,none⟩:Addr).add j=⟨g,o+j,none⟩ by cases j<;>simp [Addr.add]];exact h2 j u hj
 | none =>
  have hm:m=0:=Classical.byContradiction fun hm=>by
   obtain⟨_,_,e1,_⟩:=hA hm;cases e1
  subst hm;have hnews:news=[]:=aak (by simpa using hl);subst hnews;refine wpList_plain hgd fun K hK'=>?_
  have hrun:=yW (P:=P) w base t o.type e i size c ht hi v n xs hown;unfold Oper.wp;simp [execOp,ho,resolve,invoke,builtin,hs,hx,hrun,Result.andThen];exact hK' _ _ (h v w (by simpa using hown) (World.grownBy.refl _ _) (.inl rfl))
structure OutS (w:World) (B ob:Nat) (y:Value) (q:Way):Prop where
 cells:w.heap[ob]?=some (.cells #[.bool q.1,.int .i64 q.2.1,y,.int .i64 q.2.2.2] 140 (0,0))
 brk:lR w B y q.2.2.1
theorem OutS.below {w w':World} {B ob:Nat} {y:Value} {q:Way} (h:OutS w B ob y q) (hb:Below w.heap.size w w'):OutS w' B ob y q:=⟨aJ hb h.cells (aG h.cells),h.brk.kept (KI.of hb)⟩
theorem dj {W:World} {ob k:Nat} {x:Value} {c:Array Value} (hz:W.heap[ob]?=some (.cells c 140 (0,0))):(W.setCell ⟨ob,k,none⟩ x).heap[ob]?=some (.cells (c.setIfInBounds k x) 140 (0,0)):=heap_setCell_same _ _ _ _ _ _ hz
theorem lR.sl {W:World} {B:Nat} {y:Value} {l:List Int} (h:lR W B y l):∃A c,y = .slice A l.length c:=by
 rcases h with ⟨rfl,rfl⟩ | ⟨g,cap,cur,rfl,_⟩
 ·exact⟨none,0,rfl⟩
 ·exact⟨_,_,rfl⟩
theorem lR.src {W:World} {B:Nat} {A:Option Addr} {n c:Nat} {l:List Int} (h:lR W B (.slice A n c) l):n=l.length∧(n≠0→∃g o,A=some ⟨g,o,none⟩∧∀(j:Nat) (u:Value),(l.map (ZX .i64))[j]?=some u→W.cell? ⟨g,o+j,none⟩=some u):=by
 rcases h with ⟨e,rfl⟩ | ⟨g,cap,cur,e,h1,h2,h3,h4,h5⟩
 ·cases e
  exact⟨rfl,fun h=>absurd rfl h⟩
 ·cases e
  refine⟨rfl,fun _=>⟨g,0,rfl,fun j u hj=>?_⟩⟩
  rw [aab h2,Nat.zero_add];exact h5 j u hj
theorem yI {W:World} {B ob:Nat} {y y2:Value} {q:Way} {l:List Int} (hO:OutS W B ob y q) (hx:lR W B y2 l) (c k:Int) :
  OutS ((((W.setCell ⟨ob,1,none⟩ (.int .i64 c)).setCell ⟨ob,2,none⟩ y2).setCell ⟨ob,0,none⟩ (.bool true)).setCell ⟨ob,3,none⟩ (.int .i64 k)) B ob y2 (true,c,l,k):=by
 have h0:=hO.cells;have h1:=dj (k:=1) (x:=.int .i64 c) h0;have h2:=dj (k:=2) (x:=y2) h1;have h3:=dj (k:=0) (x:=.bool true) h2;have h4:=dj (k:=3) (x:=.int .i64 k) h3;refine⟨h4,?_⟩
 exact(((hx.kept (KI.set (p:=⟨ob,1,none⟩) h0 (by decide))).kept (KI.set (p:=⟨ob,2,none⟩) h1 (by decide))).kept (KI.set (p:=⟨ob,0,none⟩) h2 (by decide))).kept (KI.set (p:=⟨ob,3,none⟩) h3 (by decide))
theorem Kv {W:World} {B ob:Nat} {y:Value} {q:Way} (hO:OutS W B ob y q) (k:Int) :
  OutS ((W.setCell ⟨ob,0,none⟩ (.bool true)).setCell ⟨ob,3,none⟩ (.int .i64 k)) B ob y (true,q.2.1,q.2.2.1,k):=by
 have h0:=hO.cells;have h1:=dj (k:=0) (x:=.bool true) h0;have h2:=dj (k:=3) (x:=.int .i64 k) h1;exact⟨h2,(hO.brk.kept (KI.set (p:=⟨ob,0,none⟩) h0 (by decide))).kept (KI.set (p:=⟨ob,3,none⟩) h1 (by decide))⟩
theorem Of {c:Int × Bool} {rest:Way} {j:Nat} {out:Way} (h:c.2=false∨rest.1=false):rD c rest j out=out:=by
 unfold rD;rw [if_neg];rintro⟨h1,h2⟩;rcases h with h | h
 ·rw [h] at h1;cases h1
 ·rw [h] at h2;cases h2
theorem rZ {c:Int × Bool} {rest:Way} {j:Nat} {out:Way} (h1:c.2=true) (h2:rest.1=true) (h:Ef c.1 rest j out):rD c rest j out=(true,EY (c.1+rest.2.1),(j:Int)::rest.2.2.1,EY (out.2.2.2+rest.2.2.2)):=by
 unfold rD;rw [if_pos ⟨h1,h2⟩,if_pos h]
theorem DJ {c:Int × Bool} {rest:Way} {j:Nat} {out:Way} (h1:c.2=true) (h2:rest.1=true) (h:¬Ef c.1 rest j out):rD c rest j out=(true,out.2.1,out.2.2.1,EY (out.2.2.2+rest.2.2.2)):=by
 unfold rD;rw [if_pos ⟨h1,h2⟩,if_neg h]
theorem Sg {n j:Nat} (hj:j<n) (last:Bool) (lc:Nat→Int × Bool) (v:Nat→Way):inW n last lc v (n - j)=rD (lc j) (v j) j (inW n last lc v (n - (j+1))):=by
 have e:n - j=(n - (j+1))+1:=by omega
 have e2:n - 1 - (n - (j+1))=j:=by omega
 rw [e,inW,e2]
theorem RU {n i j:Nat} {c:Int × Bool} {rest out:Way} (hij:i<j) (hj:j<n) (hr:rest.2.2.1.length≤n - 1 - j) (ho:out.2.2.1.length≤n - 1 - i):(rD c rest j out).2.2.1.length≤n - 1 - i:=by
 unfold rD;split
 ·split
  ·show((j:Int)::rest.2.2.1).length≤_
   rw [aaD];omega
  ·exact ho
 ·exact ho
theorem MD {n i:Nat} {last:Bool} {lc:Nat→Int × Bool} {v:Nat→Way} (hv:∀j,i<j→j<n→(v j).2.2.1.length≤n - 1 - j):∀d,d≤n - 1 - i→(inW n last lc v d).2.2.1.length≤n - 1 - i
 | 0,_=>by
  unfold inW GR;split<;>simp
 | d+1,h=>RU (by omega) (by omega) (hv _ (by omega) (by omega)) (MD hv d (by omega))
theorem rj {n:Nat} {last:Nat→Bool} {lc:Nat→Nat→Int × Bool}:∀e,e≤n→∀x,(fG n last lc e x).2.2.1.length≤n - 1 - x
 | 0,_,x=>by simp [fG]
 | e+1,h,x=>by
  unfold fG;split
  ·rename_i hx
   subst hx;exact MD (fun j _ _=>rj e (by omega) j) e (by omega)
  ·exact rj e (by omega) x
theorem TN {n i:Nat} {last:Nat→Bool} {lc:Nat→Nat→Int × Bool} (hi:i<n):fG n last lc (n - i)=fun x=>if x=i then inW n (last i) (lc i) (fG n last lc (n - (i+1))) (n - (i+1)) else fG n last lc (n - (i+1)) x:=by
 funext x
 have e:n - i=(n - (i+1))+1:=by omega
 have e2:n - 1 - (n - (i+1))=i:=by omega
 rw [e,fG,e2]
end Go.Proofs.YtccaheogjpfhjaaGreat

end
