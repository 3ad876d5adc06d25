/-
  A part of the proof: contracts and plain forms of functions beneath the statement, made small by a program (names shortened, what is not needed left out).
-/
import Derived.Test.YtccaheogjpfhjaaRows
import Derived.Test.YtccaheogjpfhjaaM6
open Go.IntKind renaming i64 → Ix
open Option renaming bind_some → Iy, map_some → IW, map → Jd
open List renaming range → Iz, mem_cons → IA, length_map → IB, foldl_cons → IF, getElem_mem → IG, map_cons → IH, mem_singleton → II, getElem?_map → IK, mem_append → IL, range' → IV, getElem?_range → IX, mem_range → IY, pairwise_cons → IZ, getD_eq_getElem?_getD → Jb, drop_eq_getElem_cons → Jc, getElem?_eq_getElem → Je, mem_map → Jh, length_range → Jj
open Int renaming natCast_mul → IC, toNat_natCast → ID
open Bool renaming and_eq_true → IE, false_eq_true → IM, eq_iff_iff → Jf
open Nat renaming not_lt_zero → IJ, le_refl → IQ, zero_le → IU
open Classical renaming propDecidable → IP
open Go.Value renaming int → Ja, bool → Jg
open List.Pairwise renaming nil → Ji
open Decidable renaming not_not → Jk
set_option maxRecDepth 100000
set_option linter.unusedSimpArgs false
set_option linter.unusedVariables false
noncomputable section
namespace Go.Proofs.Ytccaheogjpfhjaa
open Go Go.V
set_option maxRecDepth 100000
open Classical in
def setL (P:Int→Prop):List Int:=((Iz 8).map fun n:Nat=>(n:Int)).filter fun n=>decide (P n)
theorem kq {P:Int→Prop} {n:Int}:n∈setL P↔(0≤n∧n<8)∧P n:=by
 unfold setL;simp only [List.mem_filter,Jh,decide_eq_true_eq];constructor
 ·rintro⟨⟨a,h1,rfl⟩,h2⟩
  have:=IY.1 h1;exact⟨by omega,h2⟩
 ·rintro⟨h1,h2⟩
  exact⟨⟨n.toNat,IY.2 (by omega),by omega⟩,h2⟩
theorem km (P:Int→Prop):(setL P).Pairwise (·<·):=by
 unfold setL;refine List.Pairwise.filter _ ?_
 rw [List.pairwise_map];exact List.pairwise_lt_range.imp fun h=>by omega
theorem fx {l:List Int} (h:l.Pairwise (·<·)):l.Nodup:=h.imp fun h e=>by omega
theorem BU {a b:List Int} (ha:a.Pairwise (·<·)) (hb:b.Pairwise (·<·)) (h:∀n,n∈a↔n∈b):a=b :=
 List.Perm.eq_of_pairwise (le:=(·<·)) (fun a b _ _ h1 h2=>by omega) ha hb ((List.perm_ext_iff_of_nodup (fx ha) (fx hb)).2 h)
structure SetS (l:List Int) (P:Int→Prop):Prop where
 srt:l.Pairwise (·<·)
 iff:∀n,n∈l↔P n
def In8 (P:Int→Prop):Prop:=∀n,P n→0≤n∧n<8
theorem SetS.eq {l:List Int} {P:Int→Prop} (h:SetS l P) (h8:In8 P):l=setL P :=
 BU h.srt (km P) fun n=>by rw [kq,h.iff];exact⟨fun h=>⟨h8 n h,h⟩,fun h=>h.2⟩
theorem SetS.of (P:Int→Prop) (h8:In8 P):SetS (setL P) P:=⟨km P,fun n=>by rw [kq];exact⟨fun h=>h.2,fun h=>⟨h8 n h,h⟩⟩⟩
theorem SetS.congr {l:List Int} {P Q:Int→Prop} (h:SetS l P) (e:∀n,P n↔Q n):SetS l Q:=⟨h.srt,fun n=>(h.iff n).trans (e n)⟩
theorem SetS.nil:SetS [] fun _=>False:=⟨Ji,fun n=>by simp⟩
theorem uF {P Q:Int→Prop} (e:∀n,P n↔Q n):setL P=setL Q:=by
 rw [show P=Q from funext fun n=>propext (e n)]
theorem kr {l:List Int} (h:l.Nodup) (h8:∀n∈l,0≤n∧n<8):l.length≤8:=by
 have:=h.length_le_of_subset (l₂:=(Iz 8).map fun n:Nat=>(n:Int)) (fun n hn=>by
  have:=h8 n hn;exact Jh.2 ⟨n.toNat,IY.2 (by omega),by omega⟩)
 simpa using this
theorem SetS.len {l:List Int} {P:Int→Prop} (h:SetS l P) (h8:In8 P):l.length≤8:=kr (fx h.srt) fun n hn=>h8 n ((h.iff n).1 hn)
theorem jr (P:Int→Prop):(setL P).length≤8:=kr (fx (km P)) fun n hn=>(kq.1 hn).1
structure SetM (l:List (Int × Bool)) (P:Int→Prop):Prop where
 nd:(l.map (·.1)).Nodup
 tt:∀p∈l,p.2=true
 iff:∀n,n∈l.map (·.1)↔P n
theorem SetM.nil:SetM [] fun _=>False:=⟨List.nodup_nil,(fun p hp=>by cases hp),fun n=>by simp⟩
theorem SetM.congr {l:List (Int × Bool)} {P Q:Int→Prop} (h:SetM l P) (e:∀n,P n↔Q n):SetM l Q:=⟨h.nd,h.tt,fun n=>(h.iff n).trans (e n)⟩
theorem yC:∀{l:List (Int × Bool)} {n:Int},(∀p∈l,p.2=true)→(lR l n=true↔n∈l.map (·.1))
 | [],n,_=>by simp [lR]
 | (m,b)::l,n,h=>by
  have hb:b=true:=h (m,b) (by simp);unfold lR;by_cases e:m=n
  ·simp [e,hb]
  ·rw [if_neg e,yC fun p hp=>h p (by simp [hp])]
   simp [Ne.symm e]
theorem SetM.get {l:List (Int × Bool)} {P:Int→Prop} (h:SetM l P) (n:Int):lR l n=true↔P n:=(yC h.tt).trans (h.iff n)
theorem rZ:∀(l:List (Int × Bool)) (n:Int),(jA l n true).map (·.1)=if n∈l.map (·.1) then l.map (·.1) else l.map (·.1)++[n]
 | [],n=>by simp [jA]
 | (m,b)::l,n=>by
  unfold jA;by_cases e:m=n
  ·simp [e]
  ·rw [if_neg e,IH,rZ l n]
   by_cases h:n∈l.map (·.1)
   ·rw [if_pos h,if_pos (by simp only [IH,IA];exact .inr h)]
    rfl
   ·have hno:¬n∈((m,b)::l).map (·.1):=fun h0=>by
     rcases IA.1 h0 with h1 | h1
     ·exact e h1.symm
     ·exact h h1
    rw [if_neg h,if_neg hno,IH,List.cons_append]
theorem wu:∀{l:List (Int × Bool)} {n:Int},(∀p∈l,p.2=true)→∀p∈jA l n true,p.2=true
 | [],n,_,p,hp=>by
  simp only [jA,II] at hp;rw [hp]
 | (m,b)::l,n,h,p,hp=>by
  unfold jA at hp;split at hp
  ·rcases IA.1 hp with rfl | hp
   ·rfl
   ·exact h p (by simp [hp])
  ·rcases IA.1 hp with rfl | hp
   ·exact h _ (by simp)
   ·exact wu (fun p hp=>h p (by simp [hp])) p hp
theorem SetM.put {l:List (Int × Bool)} {P:Int→Prop} (h:SetM l P) (n:Int):SetM (jA l n true) fun m=>P m∨m=n:=by
 have hk:=rZ l n;refine⟨?_,wu h.tt,fun m=>?_⟩
 ·rw [hk]
  split
  ·exact h.nd
  ·rename_i hn
   exact List.nodup_append.2 ⟨h.nd,by simp,fun a ha b hb e=>hn (by rw [II.1 hb] at e;exact e ▸ ha)⟩
 ·rw [hk]
  split
  ·rename_i hn
   rw [h.iff];exact⟨.inl,fun h1=>h1.elim id fun h1=>by rw [h1];exact(h.iff n).1 hn⟩
  ·rw [IL,II,h.iff]
theorem SetM.put_len {l:List (Int × Bool)} {P:Int→Prop} (h:SetM l P) {n:Int} (hn:¬P n):(jA l n true).length=l.length+1:=by
 have hk:=congrArg List.length (rZ l n);rw [if_neg (fun h1=>hn ((h.iff n).1 h1))] at hk;simpa using hk
theorem SetM.keys {l:List (Int × Bool)} {P:Int→Prop} (h:SetM l P) (h8:In8 P):nE l=setL P∧l.length=(setL P).length∧l.length≤8:=by
 have hp:(nE l).Perm (l.map (·.1)):=List.mergeSort_perm _ _;have h1:nE l=setL P:=by
  refine BU ?_ (km P) fun n=>?_
  ·have hs:(nE l).Pairwise (fun a b=>a≤b):=(List.pairwise_mergeSort (fun a b c=>by simp;omega) (fun a b=>by simp;omega) (l.map (·.1))).imp fun h=>by simpa using h
   have hd:(nE l).Nodup:=hp.nodup_iff.2 h.nd;exact(List.pairwise_and_iff.2 ⟨hs,hd⟩).imp fun h=>by obtain⟨h1,h2⟩:=h;omega
  ·rw [hp.mem_iff,h.iff,kq]
   exact⟨fun h=>⟨h8 n h,h⟩,fun h=>h.2⟩
 have h2:l.length=(setL P).length:=by
  rw [←h1,hp.length_eq,IB]
 exact⟨h1,h2,h2 ▸ jr P⟩
def fO:List Int→Int→List Int
 | [],n=>[n]
 | x::l,n=>if x<n then x::fO l n else if x=n then x::l else n::x::l
theorem oT {n m:Int}:∀{l:List Int},m∈fO l n↔m∈l∨m=n
 | []=>by simp [fO]
 | x::l=>by
  unfold fO;split
  ·rw [IA,oT,IA,or_assoc]
  ·split
   ·rename_i h
    simp only [IA];exact⟨.inl,fun h1=>h1.elim id fun h1=>.inl (h1.trans h.symm)⟩
   ·simp only [IA]
    exact⟨fun h=>h.elim .inr .inl,fun h=>h.elim .inr .inl⟩
theorem xO {n:Int}:∀{l:List Int},l.Pairwise (·<·)→(fO l n).Pairwise (·<·)
 | [],_=>by simp [fO]
 | x::l,h=>by
  obtain⟨h1,h2⟩:=IZ.1 h;unfold fO;split
  ·rename_i hx
   refine IZ.2 ⟨fun m hm=>?_,xO h2⟩
   rcases oT.1 hm with hm | rfl
   ·exact h1 m hm
   ·exact hx
  ·split
   ·exact h
   ·refine IZ.2 ⟨fun m hm=>?_,h⟩
    rcases IA.1 hm with rfl | hm
    ·omega
    ·have:=h1 m hm
     omega
theorem SetS.put {l:List Int} {P:Int→Prop} (h:SetS l P) (n:Int):SetS (fO l n) fun m=>P m∨m=n:=⟨xO h.srt,fun m=>by rw [oT,h.iff]⟩
theorem SetS.put_len {l:List Int} {P:Int→Prop} (h:SetS l P) {n:Int} (hn:¬P n):l.length+1≤(fO l n).length:=by
 have h1:(n::l).Nodup:=List.nodup_cons.2 ⟨fun h1=>hn ((h.iff n).1 h1),fx h.srt⟩;have:=h1.length_le_of_subset (l₂:=fO l n) (fun m hm=>by
  rcases IA.1 hm with rfl | hm
  ·exact oT.2 (.inr rfl)
  ·exact oT.2 (.inl hm))
 simpa using this
def an (wd ht:Nat) (f:Gr):List Int:=(Iz (wd*ht)).map fun i=>f (i / wd) (i % wd)
theorem gV (wd ht:Nat) (f:Gr):(an wd ht f).length=wd*ht:=by simp [an]
theorem Ed {wd ht y x:Nat} (hy:y<ht) (hx:x<wd):y*wd+x<wd*ht:=by
 have h1:(y+1)*wd≤ht*wd:=Nat.mul_le_mul_right _ hy;rw [Nat.mul_comm wd ht];rw [Nat.add_mul,Nat.one_mul] at h1;omega
theorem DF {wd y x:Nat} (hx:x<wd):(y*wd+x) / wd=y∧(y*wd+x) % wd=x:=by
 have h0:0<wd:=by omega
 rw [Nat.add_comm,Nat.add_mul_div_right _ _ h0,Nat.add_mul_mod_self_right];exact⟨by rw [Nat.div_eq_of_lt hx];omega,Nat.mod_eq_of_lt hx⟩
theorem ry {wd ht y x:Nat} (f:Gr) (hy:y<ht) (hx:x<wd):(an wd ht f)[y*wd+x]?=some (f y x):=by
 unfold an;rw [IK,IX (Ed hy hx)];obtain⟨h1,h2⟩:=DF (y:=y) hx;rw [IW,h1,h2]
theorem Da {wd ht y x:Nat} (f:Gr) (n:Int) (hy:y<ht) (hx:x<wd):(an wd ht f).set (y*wd+x) n=an wd ht fun r c=>if r=y∧c=x then n else f r c:=by
 refine List.ext_getElem? fun i=>?_
 rw [List.getElem?_set];have h0:0<wd:=by omega
 unfold an;rw [IB,Jj,IK,IK];by_cases hi:i<wd*ht
 ·rw [IX hi,IW,IW]
  by_cases e:y*wd+x=i
  ·subst e
   obtain⟨h1,h2⟩:=DF (y:=y) hx;rw [if_pos rfl,if_pos hi,h1,h2];show some n=some (if y=y∧x=x then n else f y x)
   rw [if_pos ⟨rfl,rfl⟩]
  ·rw [if_neg e]
   show some (f (i / wd) (i % wd))=some (if i / wd=y∧i % wd=x then n else f (i / wd) (i % wd))
   rw [if_neg];rintro⟨h1,h2⟩;apply e;have:=Nat.div_add_mod i wd;rw [h1,h2,Nat.mul_comm] at this;exact this
 ·rw [List.getElem?_eq_none (by simp;omega)]
  split
  ·rename_i e
   subst e;exact absurd (Ed hy hx) hi
  ·rfl
def GOK (wd ht:Nat) (f:Gr):Prop:=∀y x,y<ht→x<wd → -1≤f y x∧f y x<8
def xE (wd ht:Nat) (f:Gr) (a b:Int):Prop:=∃y x:Nat,y<ht∧x+1<wd∧f y x=a∧f y (x+1)=b∧0≤b∧b≠a
def stP (wd ht:Nat) (f:Gr) (R:List Int) (n:Int):Prop:=∃y:Nat,(y:Int)∈R∧y<ht∧f y (wd - 1)=n∧0≤n
inductive Prs (st:Int→Prop) (beh:Int→Int→Prop):Int→Prop where
 | base {n:Int}:st n→Prs st beh n
 | step {a b:Int}:0≤a→beh a b→Prs st beh b→Prs st beh a
def jG (wd ht:Nat) (f:Gr) (R:List Int):Int→Prop:=Prs (stP wd ht f R) (xE wd ht f)
def bv (wd ht:Nat) (f:Gr) (R:List Int):List Int:=setL (jG wd ht f R)
def sy (wd ht:Nat) (f:Gr) (a:Int):List Int:=setL (xE wd ht f a)
def bw (f:Gr):Gr:=fun y x=>f x y
theorem Ft {wd ht:Nat} {f:Gr} (h:GOK wd ht f) (a:Int):In8 (xE wd ht f a):=fun n ⟨y,x,h1,h2,h3,h4,h5,h6⟩=>⟨h5,h4 ▸ (h y (x+1) h1 h2).2⟩
theorem prs8 {wd ht:Nat} {f:Gr} {R:List Int} (h:GOK wd ht f) (h0:1≤wd):In8 (jG wd ht f R):=fun n hn=>by
 unfold jG at hn;induction hn with
 | base h1 =>
  obtain⟨y,_,h2,h3,h4⟩:=h1;exact⟨h4,h3 ▸ (h y (wd - 1) h2 (by omega)).2⟩
 | step h1 h2 _ _ =>
  obtain⟨y,x,h3,h4,h5,_⟩:=h2;exact⟨h1,h5 ▸ (h y x h3 (by omega)).2⟩
theorem mI {wd ht:Nat} {f:Gr} (h:GOK wd ht f):GOK ht wd (bw f):=fun y x hy hx=>h x y hx hy
theorem Ez {st:Int→Prop} {beh:Int→Int→Prop} {P:Int→Prop} (h1:∀n,P n→Prs st beh n) (h2:∀n,st n→P n) (h3:∀a b,0≤a→beh a b→P b→P a) (n:Int):P n↔Prs st beh n :=
 ⟨h1 n,fun h=>by
  induction h with
  | base h=>exact h2 _ h
  | step h4 h5 _ ih=>exact h3 _ _ h4 h5 ih⟩
set_option maxRecDepth 100000
@[simp] theorem Iw (l:List (Int × Bool)) (n:Int):lkD (.mp l) (I n)=some (B (lR l n)):=rfl
@[simp] theorem Iv (l:List (Int × Bool)) (n:Int) (v:Bool):upM (.mp l) [I n,B v]=some (.mp (jA l n v)):=rfl
@[simp] theorem Ib (l:List (Int × Bool)) (x:D):ab (.mp l) x=some x:=rfl
theorem FW (l:List (Int × Bool)):Gv (.mp l)=some (I l.length):=rfl
theorem Bo {body:List D→Option Out} {s0:List D} {K:Out→Option Out} (R:Option Out→Prop) (o:Out) (h:aI body s0=some o) (hk:R (K o)):R ((aI body s0).bind K):=by
 rw [h];exact hk
def stA (f:Gr) (a:Int) (y:Nat) (l:List (Int × Bool)) (x:Nat):List (Int × Bool):=if f y x=a∧f y (x+1)≠a∧f y (x+1) ≠ -1 then jA l (f y (x+1)) true else l
def CE (wd:Nat) (f:Gr) (a:Int) (l:List (Int × Bool)) (y:Nat):List (Int × Bool):=(Iz (wd - 1)).foldl (stA f a y) l
def atA (wd ht:Nat) (f:Gr) (a:Int):List (Int × Bool):=(Iz ht).foldl (CE wd f a) []
theorem aP {α:Type} (g:α→Nat→α) (a:α) (n:Nat):(Iz (n+1)).foldl g a=g ((Iz n).foldl g a) n:=by
 rw [List.range_succ,List.foldl_append,IF,List.foldl_nil]
theorem oL (wd ht:Nat) (f:Gr) (n:Int) (hw1:1≤wd) (hw8:wd≤8) (hh8:ht≤8):fh [bg (aM wd ht f),I n]=some (.ret [.mp (atA wd ht f n)] []):=by
 have hl1:((aM wd ht f).map ints).length=ht:=by simp [rH]
 rw [ue];simp only [ca,hl1,Iy];refine aE _ (dJ ht (fun y=>[I n,.mp ((Iz y).foldl (CE wd f n) []),bg (aM wd ht f),I (ht:Int),I (y:Int)]) (.ext 0 [.mp (atA wd ht f n)]) (fun y hy=>?_) ?_ rfl rfl) ?_
 ·have hwy:Ix.wrap ((y:Int)+1)=((y+1:Nat):Int):=by rw [ai (by omega) (by omega)];omega
  rw [aP];generalize (Iz y).foldl (CE wd f n) []=l;have hy':(y:Int)<(ht:Int):=by omega
  have hry:=rD (wd:=wd) f (y:=y) (ht:=ht) hy;have hlr:(((Iz wd).map fun x=>f y x).map I).length=wd:=by simp
  simp -implicitDefEqProofs [hy',hry];refine aE _ (dJ (wd - 1) (fun x=>[I n,.mp ((Iz x).foldl (stA f n y) l),ints ((Iz wd).map fun x=>f y x),I (x:Int),bg (aM wd ht f),I (ht:Int),I (y:Int)]) (.ext 2 [I n,.mp (CE wd f n l y),bg (aM wd ht f),I (ht:Int),I (y:Int)]) (fun x hx=>?_) ?_ rfl ?_) ?_
  ·have hwx:Ix.wrap ((x:Int)+1)=(x:Int)+1:=ai (by omega) (by omega)
   rw [aP];generalize (Iz x).foldl (stA f n y) l=m;have hc:(x:Int)+1<(wd:Int):=by omega
   have r0:=rW (wd:=wd) (fun x=>f y x) (x:=x) (by omega);have r1:aF 1 (ints ((Iz wd).map fun x=>f y x)) (I ((x:Int)+1))=some [I (f y (x+1))]:=rW (wd:=wd) (fun x=>f y x) (x:=x+1) (by omega);unfold stA;by_cases c1:f y x=n
   ·by_cases c2:f y (x+1)=n
    ·simp -implicitDefEqProofs [hwx,hc,r0,r1,c1,c2,hlr]
    ·by_cases c3:f y (x+1) = -1
     ·have c4:¬(-1:Int)=n:=by rw [←c3];exact c2
      simp -implicitDefEqProofs [hwx,hc,r0,r1,c1,c3,c4,hlr]
     ·simp -implicitDefEqProofs [hwx,hc,r0,r1,c1,c2,c3,hlr]
   ·simp -implicitDefEqProofs [hwx,hc,r0,r1,c1,hlr]
  ·have hwx:Ix.wrap (((wd - 1:Nat):Int)+1)=(wd:Int):=by rw [ai (by omega) (by omega)];omega
   simp -implicitDefEqProofs [hwx,hlr,CE]
  ·simp
  ·simp -implicitDefEqProofs [hwy]
 ·simp -implicitDefEqProofs [atA]
 ·simp
set_option maxRecDepth 100000
theorem Bv {l:List (Int × Bool)} {P:Int→Prop} (f:Gr) (a:Int) (y:Nat) (h:SetM l P):∀x:Nat,SetM ((Iz x).foldl (stA f a y) l) fun b=>P b∨∃x',x'<x∧f y x'=a∧f y (x'+1)=b∧b≠a∧b ≠ -1
 | 0=>h.congr fun n=>by
  constructor
  ·exact .inl
  ·rintro(h | ⟨x',h,_⟩)
   ·exact h
   ·omega
 | x+1=>by
  rw [aP];have ih:=Bv f a y h x;unfold stA;split
  ·rename_i hc
   refine(ih.put _).congr fun n=>?_
   constructor
   ·rintro((h1 | ⟨x',h1,h2⟩) | rfl)
    ·exact .inl h1
    ·exact .inr ⟨x',by omega,h2⟩
    ·exact .inr ⟨x,by omega,hc.1,rfl,hc.2.1,hc.2.2⟩
   ·rintro(h1 | ⟨x',h1,h2,h3,h4,h5⟩)
    ·exact .inl (.inl h1)
    ·by_cases e:x'=x
     ·subst e
      exact .inr h3.symm
     ·exact .inl (.inr ⟨x',by omega,h2,h3,h4,h5⟩)
  ·rename_i hc
   refine ih.congr fun n=>?_
   constructor
   ·rintro(h1 | ⟨x',h1,h2⟩)
    ·exact .inl h1
    ·exact .inr ⟨x',by omega,h2⟩
   ·rintro(h1 | ⟨x',h1,h2,h3,h4,h5⟩)
    ·exact .inl h1
    ·by_cases e:x'=x
     ·subst e
      exact absurd ⟨h2,by rw [h3];exact h4,by rw [h3];exact h5⟩ hc
     ·exact .inr ⟨x',by omega,h2,h3,h4,h5⟩
theorem Aq (wd:Nat) (f:Gr) (a:Int):∀y:Nat,SetM ((Iz y).foldl (CE wd f a) []) fun b=>∃y' x',y'<y∧x'+1<wd∧f y' x'=a∧f y' (x'+1)=b∧b≠a∧b ≠ -1
 | 0=>SetM.nil.congr fun n=>⟨False.elim,fun⟨y',x',h,_⟩=>absurd h (IJ _)⟩
 | y+1=>by
  rw [aP];refine(Bv f a y (Aq wd f a y) (wd - 1)).congr fun n=>?_
  constructor
  ·rintro(⟨y',x',h1,h2⟩ | ⟨x',h1,h2⟩)
   ·exact⟨y',x',by omega,h2⟩
   ·exact⟨y,x',by omega,by omega,h2⟩
  ·rintro⟨y',x',h1,h2,h3⟩
   by_cases e:y'=y
   ·subst e
    exact .inr ⟨x',by omega,h3⟩
   ·exact .inl ⟨y',x',by omega,h2,h3⟩
theorem BW {wd ht:Nat} {f:Gr} (hf:GOK wd ht f) (a:Int):SetM (atA wd ht f a) (xE wd ht f a) :=
 (Aq wd f a ht).congr fun n=>by
  constructor
  ·rintro⟨y,x,h1,h2,h3,h4,h5,h6⟩
   have:=(hf y (x+1) h1 h2).1;exact⟨y,x,h1,h2,h3,h4,by omega,h5⟩
  ·rintro⟨y,x,h1,h2,h3,h4,h5,h6⟩
   exact⟨y,x,h1,h2,h3,h4,h6,by omega⟩
structure RowD (d:D) (l:List Int):Prop where
 len:lenD false d=some (I l.length)
 at_:∀(i:Nat) (h:i<l.length),aF 1 d (I (i:Int))=some [I l[i]]
 max:l.length≤1048576
theorem RowD.ints {l:List Int} (h:l.length≤1048576):RowD (Go.Proofs.Ytccaheogjpfhjaa.ints l) l:=⟨by simp,fun i hi=>by simp [hi],h⟩
theorem RowD.nil:RowD (.arr 0 []) []:=⟨rfl,fun i hi=>absurd hi (IJ _),by simp⟩
def stS (wd:Nat) (f:Gr) (l:List (Int × Bool)) (r:Int):List (Int × Bool):=if f r.toNat (wd - 1) ≠ -1 then jA l (f r.toNat (wd - 1)) true else l
theorem xD (wd:Nat) (f:Gr):∀(R:List Int) {l:List (Int × Bool)} {P:Int→Prop},SetM l P→SetM (R.foldl (stS wd f) l) fun n=>P n∨∃r∈R,f r.toNat (wd - 1)=n∧n ≠ -1
 | [],l,P,h=>h.congr fun n=>by simp
 | r::R,l,P,h=>by
  rw [IF];by_cases hc:f r.toNat (wd - 1) ≠ -1
  ·have e:stS wd f l r=jA l (f r.toNat (wd - 1)) true:=if_pos hc
   rw [e];refine(xD wd f R (h.put _)).congr fun n=>?_
   constructor
   ·rintro((h1 | rfl) | ⟨r',h1,h2⟩)
    ·exact .inl h1
    ·exact .inr ⟨r,by simp,rfl,hc⟩
    ·exact .inr ⟨r',by simp [h1],h2⟩
   ·rintro(h1 | ⟨r',h1,h2,h3⟩)
    ·exact .inl (.inl h1)
    ·rcases IA.1 h1 with rfl | h1
     ·exact .inl (.inr h2.symm)
     ·exact .inr ⟨r',h1,h2,h3⟩
  ·have e:stS wd f l r=l:=if_neg hc
   rw [e];refine(xD wd f R h).congr fun n=>?_
   constructor
   ·rintro(h1 | ⟨r',h1,h2⟩)
    ·exact .inl h1
    ·exact .inr ⟨r',by simp [h1],h2⟩
   ·rintro(h1 | ⟨r',h1,h2,h3⟩)
    ·exact .inl h1
    ·rcases IA.1 h1 with rfl | h1
     ·exact absurd (by rw [h2];exact h3) hc
     ·exact .inr ⟨r',h1,h2,h3⟩
theorem CQ {wd ht:Nat} {f:Gr} (hf:GOK wd ht f) (hw1:1≤wd) {R:List Int} (hR:∀r∈R,0≤r∧r<ht):SetM (R.foldl (stS wd f) []) (stP wd ht f R) :=
 (xD wd f R SetM.nil).congr fun n=>by
  constructor
  ·rintro(h | ⟨r,h1,h2,h3⟩)
   ·exact h.elim
   ·have h4:=hR r h1
    have h5:=(hf r.toNat (wd - 1) (by omega) (by omega)).1;exact⟨r.toNat,by rw [show((r.toNat:Nat):Int)=r by omega];exact h1,by omega,h2,by omega⟩
  ·rintro⟨y,h1,h2,h3,h4⟩
   exact .inr ⟨y,h1,by rw [ID];exact h3,by omega⟩
def stB (f:Gr) (y:Nat) (s:List (Int × Bool) × Bool) (x:Nat):List (Int × Bool) × Bool:=if f y x ≠ -1∧lR s.1 (f y (x+1))=true∧lR s.1 (f y x)=false then(jA s.1 (f y x) true,true) else s
def yY (wd:Nat) (f:Gr) (s:List (Int × Bool) × Bool) (y:Nat):List (Int × Bool) × Bool:=(Iz (wd - 1)).foldl (stB f y) s
def yI (wd ht:Nat) (f:Gr) (l:List (Int × Bool)):List (Int × Bool) × Bool:=(Iz ht).foldl (yY wd f) (l,false)
def qO (f:Gr) (l:List (Int × Bool)) (P Q:Int→Prop) (seen:Nat→Nat→Prop) (s:List (Int × Bool) × Bool):Prop :=
 ∃P',SetM s.1 P'∧(∀n,P n→P' n)∧(∀n,P' n→Q n)∧(s.2=false→s.1=l∧∀y x,seen y x→f y x ≠ -1→P' (f y (x+1))→P' (f y x))∧(s.2=true→l.length<s.1.length)
theorem qO.mono {f:Gr} {l:List (Int × Bool)} {P Q:Int→Prop} {seen seen':Nat→Nat→Prop} {s:List (Int × Bool) × Bool} (h:qO f l P Q seen s) (hs:∀y x,seen' y x→seen y x):qO f l P Q seen' s:=by
 obtain⟨P',h1,h2,h3,h4,h5⟩:=h;exact⟨P',h1,h2,h3,fun e=>⟨(h4 e).1,fun y x h=>(h4 e).2 y x (hs y x h)⟩,h5⟩
theorem qO.step {f:Gr} {l:List (Int × Bool)} {P Q:Int→Prop} {seen:Nat→Nat→Prop} {s:List (Int × Bool) × Bool} (h:qO f l P Q seen s) {y x:Nat} (hq:f y x ≠ -1→Q (f y (x+1))→f y (x+1)≠f y x→Q (f y x)) :
  qO f l P Q (fun y' x'=>seen y' x'∨(y'=y∧x'=x)) (stB f y s x):=by
 obtain⟨P',h1,h2,h3,h4,h5⟩:=h;have g1:=h1.get (f y (x+1));have g2:=h1.get (f y x);unfold stB;split
 ·rename_i hc
  obtain⟨c1,c2,c3⟩:=hc;have hn:¬P' (f y x):=fun hp=>by rw [g2.2 hp] at c3;cases c3
  have hlen:l.length≤s.1.length:=by
   cases e:s.2
   ·rw [(h4 e).1]
    exact IQ _
   ·exact Nat.le_of_lt (h5 e)
  refine⟨_,h1.put _,fun n hn=>.inl (h2 n hn),?_,(fun e=>by cases e),fun _=>?_⟩
  ·rintro n (hp | rfl)
   ·exact h3 n hp
   ·exact hq c1 (h3 _ (g1.1 c2)) fun e=>by rw [e,c3] at c2;cases c2
  ·have:=h1.put_len hn
   show l.length<(jA s.1 (f y x) true).length
   omega
 ·rename_i hc
  refine⟨P',h1,h2,h3,fun e=>⟨(h4 e).1,?_⟩,h5⟩
  rintro y' x' (hs | ⟨rfl,rfl⟩) k1 k2
  ·exact(h4 e).2 y' x' hs k1 k2
  ·cases k3:lR s.1 (f y' x')
   ·exact absurd ⟨k1,g1.2 k2,k3⟩ hc
   ·exact g2.1 k3
theorem qO.row {f:Gr} {l:List (Int × Bool)} {P Q:Int→Prop} {seen:Nat→Nat→Prop} {s:List (Int × Bool) × Bool} {y:Nat} (h:qO f l P Q seen s):∀m:Nat,(∀x,x<m→f y x ≠ -1→Q (f y (x+1))→f y (x+1)≠f y x→Q (f y x)) →
  qO f l P Q (fun y' x'=>seen y' x'∨(y'=y∧x'<m)) ((Iz m).foldl (stB f y) s)
 | 0,_=>h.mono fun y' x' h=>h.elim id fun h=>absurd h.2 (IJ _)
 | m+1,hq=>by
  rw [aP];refine((h.row m fun x hx=>hq x (by omega)).step (hq m (by omega))).mono ?_
  rintro y' x' (h | ⟨h1,h2⟩)
  ·exact .inl (.inl h)
  ·by_cases e:x'=m
   ·exact .inr ⟨h1,e⟩
   ·exact .inl (.inr ⟨h1,by omega⟩)
theorem qO.rows {wd:Nat} {f:Gr} {l:List (Int × Bool)} {P Q:Int→Prop} {s:List (Int × Bool) × Bool} (h:qO f l P Q (fun _ _=>False) s):∀m:Nat,(∀y x,y<m→x+1<wd→f y x ≠ -1→Q (f y (x+1))→f y (x+1)≠f y x→Q (f y x)) →
  qO f l P Q (fun y' x'=>y'<m∧x'+1<wd) ((Iz m).foldl (yY wd f) s)
 | 0,_=>h.mono fun y' x' h=>absurd h.1 (IJ _)
 | m+1,hq=>by
  rw [aP];refine((h.rows m fun y x hy hx=>hq y x (by omega) hx).row (wd - 1) fun x hx=>hq m x (by omega) (by omega)).mono ?_
  rintro y' x' ⟨h1,h2⟩;by_cases e:y'=m
  ·exact .inr ⟨e,by omega⟩
  ·exact .inl ⟨by omega,h2⟩
theorem GL {wd ht:Nat} {f:Gr} (hf:GOK wd ht f) (hw1:1≤wd) {R:List Int} {l:List (Int × Bool)} {P:Int→Prop} (h:SetM l P) (hP:∀n,P n→jG wd ht f R n):qO f l P (jG wd ht f R) (fun y' x'=>y'<ht∧x'+1<wd) (yI wd ht f l):=by
 refine qO.rows ⟨P,h,fun n h=>h,hP,fun _=>⟨rfl,fun y x h=>h.elim⟩,fun e=>by cases e⟩ ht fun y x hy hx h1 h2 h3=>?_
 have h4:=(prs8 hf hw1 _ h2).1;have h5:=(hf y x hy (by omega)).1;exact Prs.step (by omega) ⟨y,x,hy,hx,rfl,rfl,h4,h3⟩ h2
set_option maxHeartbeats 1000000 in
theorem fu (wd ht:Nat) (f:Gr) (hf:GOK wd ht f) (hw1:1≤wd) (hw8:wd≤8) (hh8:ht≤8) {d:D} {R:List Int} (hd:RowD d R) (hR:∀r∈R,0≤r∧r<ht) :
  ∃l,cE [bg (aM wd ht f),d]=some (.ret [.mp l] [])∧SetM l (jG wd ht f R):=by
 have hl1:((aM wd ht f).map ints).length=ht:=by simp [rH]
 have hmax:=hd.max;rw [ve];simp only [hd.len,Iy];refine Bo (fun r=>∃l,r=some (.ret [.mp l] [])∧SetM l (jG wd ht f R)) _ (Ax R (fun i l=>[bg (aM wd ht f),.mp l,d,I (R.length:Int),I (i:Int)]) (stS wd f) (fun l=>.ext 0 [bg (aM wd ht f),.mp l]) [] (fun i l hi=>?_) (fun l=>?_) (fun _=>rfl) rfl) ?_
 rotate_left 2
 ·have hst:=CQ hf hw1 hR
  generalize R.foldl (stS wd f) []=l0 at hst;simp -implicitDefEqProofs only [Iy,oD,yE,Nat.beq_refl,if_true,bA,iF];refine bo (fun r=>∃l,r=some (.ret [.mp l] [])∧SetM l (jG wd ht f R)) (fun s:List (Int × Bool) × Bool=>[bg (aM wd ht f),.mp s.1,B s.2])
   (fun s=>∃P,SetM s.1 P∧(∀n,stP wd ht f R n→P n)∧(∀n,P n→jG wd ht f R n)∧(s.2=false→∀y x,(y<ht∧x+1<wd)→f y x ≠ -1→P (f y (x+1))→P (f y x)))
   (fun s=>(8 - s.1.length)+if s.2=true then 1 else 0) (fun o=>∃l,o = .ext 2 [.mp l]∧SetM l (jG wd ht f R)) (fun s hs=>?_) (l0,true) ⟨_,hst,fun n h=>h,fun n h=>Prs.base h,fun e=>by cases e⟩ rfl (fun o ho=>?_)
  ·obtain⟨l,ag⟩:=s
   obtain⟨P,h1,h2,h3,h4⟩:=hs;replace h1:SetM l P:=h1;cases ag
   ·refine .inr ⟨_,?_,?_,l,rfl,h1.congr fun n=>?_⟩
    ·simp -implicitDefEqProofs
    ·rfl
    ·exact Ez h3 h2 (fun a b ha ⟨y,x,b1,b2,b3,b4,b5,b6⟩ hb=>by
      have:=h4 rfl y x ⟨b1,b2⟩ (by omega) (by rw [b4];exact hb);rw [b3] at this;exact this) n
   ·obtain⟨P',g1,g2,g3,g4,g5⟩:=GL hf hw1 h1 h3
    refine .inl ⟨yI wd ht f l,?_,⟨P',g1,fun n h=>g2 n (h2 n h),g3,fun e=>(g4 e).2⟩,?_⟩
    ·clear g1 g2 g3 g4 g5 h1 h2 h3 h4 hst
     simp -implicitDefEqProofs [hl1];refine aE _ (dJ ht (fun y=>[bg (aM wd ht f),.mp ((Iz y).foldl (yY wd f) (l,false)).1,B ((Iz y).foldl (yY wd f) (l,false)).2,bg (aM wd ht f),I (ht:Int),I (y:Int)]) (.ext 4 [bg (aM wd ht f),.mp (yI wd ht f l).1,B (yI wd ht f l).2]) (fun y hy=>?_) ?_ rfl ?_) ?_
     ·have hwy:Ix.wrap ((y:Int)+1)=((y+1:Nat):Int):=by rw [ai (by omega) (by omega)];omega
      rw [aP];generalize (Iz y).foldl (yY wd f) (l,false)=s;have hy':(y:Int)<(ht:Int):=by omega
      have hry:=rD (wd:=wd) f (y:=y) (ht:=ht) hy;have hlr:(((Iz wd).map fun x=>f y x).map I).length=wd:=by simp
      simp -implicitDefEqProofs [hy',hry];refine aE _ (dJ (wd - 1) (fun x=>[bg (aM wd ht f),.mp ((Iz x).foldl (stB f y) s).1,B ((Iz x).foldl (stB f y) s).2,ints ((Iz wd).map fun x=>f y x),I (x:Int),bg (aM wd ht f),I (ht:Int),I (y:Int)])
       (.ext 6 [bg (aM wd ht f),.mp (yY wd f s y).1,B (yY wd f s y).2,bg (aM wd ht f),I (ht:Int),I (y:Int)]) (fun x hx=>?_) ?_ rfl ?_) ?_
      ·have hwx:Ix.wrap ((x:Int)+1)=(x:Int)+1:=ai (by omega) (by omega)
       rw [aP];generalize (Iz x).foldl (stB f y) s=m;obtain⟨m,ag⟩:=m;have hc:(x:Int)+1<(wd:Int):=by omega
       have r0:=rW (wd:=wd) (fun x=>f y x) (x:=x) (by omega);have r1:aF 1 (ints ((Iz wd).map fun x=>f y x)) (I ((x:Int)+1))=some [I (f y (x+1))]:=rW (wd:=wd) (fun x=>f y x) (x:=x+1) (by omega);unfold stB;by_cases c1:f y x = -1
       ·simp -implicitDefEqProofs [hwx,hc,r0,r1,c1,hlr]
       ·cases c2:lR m (f y (x+1))
        ·simp -implicitDefEqProofs [hwx,hc,r0,r1,c1,c2,hlr]
        ·cases c3:lR m (f y x)
         ·simp -implicitDefEqProofs [hwx,hc,r0,r1,c1,c2,c3,hlr]
         ·simp -implicitDefEqProofs [hwx,hc,r0,r1,c1,c2,c3,hlr]
      ·have hwx:Ix.wrap (((wd - 1:Nat):Int)+1)=(wd:Int):=by rw [ai (by omega) (by omega)];omega
       simp -implicitDefEqProofs [hwx,hlr,yY]
      ·simp
      ·simp -implicitDefEqProofs [hwy]
     ·simp -implicitDefEqProofs [yI]
     ·simp
     ·simp
    ·have h8:=kr g1.nd fun n hn=>prs8 hf hw1 n (g3 n ((g1.iff n).1 hn))
     rw [IB] at h8;show(8 - (yI wd ht f l).1.length)+(if (yI wd ht f l).2=true then 1 else 0)<(8 - l.length)+(if true=true then 1 else 0)
     cases e:(yI wd ht f l).2
     ·rw [(g4 e).1,if_neg (by simp),if_pos rfl]
      omega
     ·have:=g5 e
      rw [if_pos rfl];omega
  ·obtain⟨l,rfl,h⟩:=ho
   exact⟨l,by simp,h⟩
 ·have hr:=hR R[i] (IG hi)
  have hri:=hd.at_ i hi;have hi':(i:Int)<(R.length:Int):=by omega
  have hwi:Ix.wrap ((i:Int)+1)=((i+1:Nat):Int):=by rw [ai (by omega) (by omega)];omega
  generalize hk:R[i]=r at *;obtain⟨y,rfl⟩:∃y:Nat,r=y:=⟨r.toNat,by omega⟩
  have hry:=rD (wd:=wd) f (y:=y) (ht:=ht) (by omega);have hlr:(((Iz wd).map fun x=>f y x).map I).length=wd:=by simp
  have hwl:Ix.wrap ((wd:Int) - 1)=((wd - 1:Nat):Int):=by rw [ai (by omega) (by omega)];omega
  have r0:=rW (wd:=wd) (fun x=>f y x) (x:=wd - 1) (by omega);unfold stS;rw [ID];by_cases c1:f y (wd - 1) = -1
  ·simp -implicitDefEqProofs [hi',hri,hry,hlr,hwl,r0,c1,hwi]
  ·simp -implicitDefEqProofs [hi',hri,hry,hlr,hwl,r0,c1,hwi]
 ·simp
set_option maxRecDepth 100000
theorem uL {n:Int}:∀(l:List Int) (i:Nat),kJ (fun _ x=>!decide (x=n)) i l = !decide (n∈l)
 | [],_=>by simp [kJ]
 | x::l,i=>by
  simp only [kJ,uL l];by_cases h:x=n
  ·simp [h]
  ·simp [h,Ne.symm h]
theorem mG (l:List Int) (n:Int) (h:l.length≤1048577):bP [ints l,I n]=some (.ret [B (decide (n∈l))] []):=by
 rw [rI];simp only [ca,IB,Iy];refine aE _ (ju l (fun i=>[I n,ints l,I l.length,I i]) (fun _ x=>!decide (x=n)) (.ret [B true] []) (.ext 0 []) (fun i hi=>?_) ?_ rfl rfl rfl) ?_
 ·have hw:Ix.wrap ((i:Int)+1)=(i:Int)+1:=ai (by omega) (by omega)
  by_cases h1:l[i]=n<;>simp -implicitDefEqProofs [hi,hw,h1]
 ·simp
 ·rw [uL]
  by_cases hm:n∈l<;>simp [hm]
theorem mK (a:Int):aW 1 [I a]=some (ints [a]):=by simp [aW,kH]
theorem tU (a:Int):gT (ints [a])=some (ints [a]):=nX fun _=>rfl
theorem fU {l m:List Int} (h:l.length+m.length≤1048577):ew 1 8 (ints l) (ints m)=some (ints (l++m)):=by
 rw [bO,if_pos (by simp only [IB];omega)];simp
def jC (n:Int):List Int→Nat
 | []=>0
 | x::l=>if x<n then jC n l+1 else 0
theorem BJ (n:Int):∀l,jC n l≤l.length
 | []=>IQ _
 | x::l=>by
  unfold jC;split
  ·exact Nat.succ_le_succ (BJ n l)
  ·exact IU _
theorem Cc (n:Int):∀(l:List Int) (i:Nat) (h:i<l.length),i<jC n l→l[i]<n
 | [],i,h,_=>by cases h
 | x::l,i,h,hi=>by
  unfold jC at hi;split at hi
  ·rename_i hx
   cases i with
   | zero=>exact hx
   | succ i=>exact Cc n l i (by simpa using h) (by omega)
  ·omega
theorem BX (n:Int):∀(l:List Int) (h:jC n l<l.length),¬l[jC n l]<n
 | [],h=>by cases h
 | x::l,h=>by
  by_cases hx:x<n
  ·have e:jC n (x::l)=jC n l+1:=by simp [jC,hx]
   simp only [e,List.getElem_cons_succ];exact BX n l (by rw [e] at h;simpa using h)
  ·have e:jC n (x::l)=0:=by simp [jC,hx]
   simp only [e,List.getElem_cons_zero];exact hx
theorem yX (n:Int):∀(l:List Int),fO l n=if l[jC n l]?=some n then l else l.take (jC n l)++n::l.drop (jC n l)
 | []=>by simp [fO,jC]
 | x::l=>by
  by_cases hx:x<n
  ·have e:jC n (x::l)=jC n l+1:=by simp [jC,hx]
   rw [e];simp only [fO,hx,if_true,List.getElem?_cons_succ,List.take_succ_cons,List.drop_succ_cons];rw [yX n l];split<;>rfl
  ·have e:jC n (x::l)=0:=by simp [jC,hx]
   rw [e];by_cases h2:x=n
   ·simp [fO,h2]
   ·simp [fO,hx,h2]
theorem xA (l:List Int) (n:Int) (h:l.length≤1000):dI [ints l,I n]=some (.ret [ints (fO l n)] []):=by
 rw [xJ];have hle:=BJ n l;refine aE (.ext 0 [ints l,I n,I (jC n l:Nat)]) (dJ (jC n l) (fun i=>[ints l,I n,I i]) _ (fun i hi=>?_) ?_ rfl rfl) ?_
 ·have hil:i<l.length:=by omega
  have hlt:=Cc n l i hil hi;have hw:Ix.wrap ((i:Int)+1)=(i:Int)+1:=ai (by omega) (by omega);simp -implicitDefEqProofs [hil,hlt,hw]
 ·by_cases hl:jC n l<l.length
  ·have:=BX n l hl
   simp -implicitDefEqProofs [hl,this]
  ·simp -implicitDefEqProofs [hl]
 ·rw [yX]
  generalize jC n l=p at hle;have s1:iC false 1 (ints l) (I ((0:Nat):Int)) (I (p:Int))=some (ints (l.take p)):=by
   have:=vz (z:=1) (l:=l.map I) (i:=0) (j:=p) (k:=.i64) (k':=.i64) (IU _) (by simp;omega);rw [this];simp [List.map_take]
  have s2:eW false 1 (ints l) (I (p:Int))=some (ints (l.drop p)):=by
   have:=sS (z:=1) (l:=l.map I) (i:=p) (k:=.i64) (by simp;omega);rw [this];simp [List.map_drop]
  have a1:ew 1 8 (ints []) (ints (l.take p))=some (ints (l.take p)):=fU (l:=[]) (by simp;omega);have a2:ew 1 8 (ints (l.take p)) (ints [n])=some (ints (l.take p++[n])):=fU (by simp;omega);have a3:ew 1 8 (ints (l.take p++[n])) (ints (l.drop p))=some (ints (l.take p++[n]++l.drop p)):=fU (by simp;omega);have c1:∀l,gT (ints l)=some (ints l):=fun l=>nX fun _=>rfl
  have m1:aW 1 []=some (ints []):=rfl;have hb:(Nat.beq 0 0)=true:=rfl;have rest:∀q:Bool,q=false→(ifD (B q) (some (Out.ret [ints l] [])) ((aW 1 []).bind fun a=>(iC false 1 (ints l) (D.v (Ja Ix 0)) (I (p:Int))).bind fun z=>(gT z).bind fun b=>(ew 1 8 a b).bind fun y=>(aW 1 [I n]).bind fun a=>(gT a).bind fun b=>(ew 1 8 y b).bind fun y =>
    (eW false 1 (ints l) (I (p:Int))).bind fun z=>(ew 1 8 y z).bind fun y=>some (Out.ret [y] [])))=some (.ret [ints (l.take p++n::l.drop p)] []):=by
   rintro q rfl;rw [dv,if_neg (by simp),show(D.v (Ja Ix 0))=I ((0:Nat):Int) from rfl,s1];simp -implicitDefEqProofs only [m1,mK,Iy,c1,a1,a2,s2,a3];simp
  by_cases hp:p<l.length
  ·by_cases hq:l[p]=n
   ·simp -implicitDefEqProofs [hp,hq]
   ·rw [if_neg (by simp [hp,hq])]
    refine Eq.trans ?_ (rest false rfl)
    simp -implicitDefEqProofs [hp,hq,-bO]
  ·rw [if_neg (by simp [hp])]
   refine Eq.trans ?_ (rest false rfl)
   simp -implicitDefEqProofs [hp,-bO]
theorem ri (l:List Int) (h:l.length≤1048576):cD [ints l]=some (.ret [ints l] []):=by
 rw [qZ];have hc:gT (ints l)=some (ints l):=nX fun _=>rfl
 have ha:=fU (l:=[]) (m:=l) (by simp;omega);rw [List.nil_append,show ints []=D.arr 1 [] from rfl] at ha;simp -implicitDefEqProofs only [Hn,Int.reduceLT,Int.reduceLE,Int.reduceEq,hc,ha]
theorem wc (n:Int):bP [D.arr 0 [],I n]=some (.ret [B false] []):=by
 rw [rI];refine aE _ (ju ([]:List Int) (fun i=>[I n,D.arr 0 [],I 0,I i]) (fun _ x=>!decide (x=n)) (.ret [B true] []) (.ext 0 []) (fun i hi=>absurd hi (IJ _)) ?_ rfl rfl rfl) ?_
 ·simp
 ·simp [kJ]
theorem vV:cD [D.arr 0 []]=some (.ret [ints []] []):=by
 rw [qZ];simp [aW,kH,gT,ew]
set_option maxRecDepth 100000
theorem fj {α β:Type} (f:α→β→α):∀(l:List β) (i:Nat) (a:α),wW (fun _ a x=>f a x) i l a=l.foldl f a
 | [],_,_=>rfl
 | x::l,i,a=>by simp only [wW,IF];exact fj f l (i+1) (f a x)
theorem jl {α β:Type} {body:List D→Option Out} (l:List β) (st:Nat→α→List D) (Inv:α→Prop) (f:α→β→α) (fin:α→Out) (a:α) (hs:∀(i:Nat) (a:α) (hi:i<l.length),Inv a→body (st i a)=some (.nrm (st (i+1) (f a l[i])))∧Inv (f a l[i]))
  (he:∀a,Inv a→body (st l.length a)=some (fin a)) (h1:∀a,(fin a).ends=true) (h0:Inv a) {s0:List D} (h:s0=st 0 a):aI body s0=some (fin (l.foldl f a)):=by
 rw [←fj f l 0 a];exact iV l st (fun _=>Inv) (fun _=>f) fin a hs he h1 h0 h
theorem sY {α:Type} {body:List D→Option Out} (n:Nat) (st:Nat→α→List D) (Inv:α→Prop) (f:α→Nat→α) (fin:α→Out) (a:α) (hs:∀(i:Nat) (a:α),i<n→Inv a→body (st i a)=some (.nrm (st (i+1) (f a i)))∧Inv (f a i))
  (he:∀a,Inv a→body (st n a)=some (fin a)) (h1:∀a,(fin a).ends=true) (h0:Inv a) {s0:List D} (h:s0=st 0 a):aI body s0=some (fin ((Iz n).foldl f a)):=by
 refine jl (Iz n) st Inv f fin a (fun i a hi hI=>?_) (fun a hI=>?_) h1 h0 h
 ·rw [List.getElem_range]
  exact hs i a (by simpa using hi) hI
 ·rw [Jj]
  exact he a hI
def Ok8 (l:List Int):Prop:=l.Pairwise (·<·)∧∀n∈l,0≤n∧n<8
theorem Ok8.len {l:List Int} (h:Ok8 l):l.length≤8:=kr (fx h.1) h.2
theorem Ok8.put {l:List Int} (h:Ok8 l) {n:Int} (h0:0≤n) (h8:n<8):Ok8 (fO l n):=⟨xO h.1,fun m hm=>(oT.1 hm).elim (h.2 m) fun e=>by omega⟩
theorem Ok8.nil:Ok8 []:=⟨Ji,fun n hn=>by cases hn⟩
theorem Ok8.setL (P:Int→Prop):Ok8 (setL P):=⟨km P,fun n hn=>(kq.1 hn).1⟩
theorem Ok8.has {l:List Int} (h:Ok8 l) (n:Int):bP [ints l,I n]=some (.ret [B (decide (n∈l))] []):=mG l n (by have:=h.len;omega)
theorem Ok8.e_put {l:List Int} (h:Ok8 l) (n:Int):dI [ints l,I n]=some (.ret [ints (fO l n)] []):=xA l n (by have:=h.len;omega)
def fN (dx dy wd ht:Nat) (f:Gr) (a b:Int):Prop:=∃y x:Nat,y+dy<ht∧x+dx<wd∧f y x=a∧f (y+dy) (x+dx)=b∧0≤b∧b≠a
theorem GC {dx dy wd ht:Nat} {f:Gr} (h:GOK wd ht f) (a:Int):In8 (fN dx dy wd ht f a):=fun n ⟨y,x,h1,h2,h3,h4,h5,h6⟩=>⟨h5,h4 ▸ (h (y+dy) (x+dx) h1 h2).2⟩
def stC (dx dy:Nat) (f:Gr) (a:Int) (y:Nat) (l:List Int) (x:Nat):List Int:=if f y x=a∧0≤f (y+dy) (x+dx)∧f (y+dy) (x+dx)≠a then fO l (f (y+dy) (x+dx)) else l
def Cs (dx dy wd:Nat) (f:Gr) (a:Int) (l:List Int) (y:Nat):List Int:=(Iz (wd - dx)).foldl (stC dx dy f a y) l
def Hw (dx dy wd ht:Nat) (f:Gr) (a:Int):List Int:=(Iz (ht - dy)).foldl (Cs dx dy wd f a) []
theorem Bw {l:List Int} {P:Int→Prop} (dx dy:Nat) (f:Gr) (a:Int) (y:Nat) (h:SetS l P):∀x:Nat,SetS ((Iz x).foldl (stC dx dy f a y) l) fun b=>P b∨∃x',x'<x∧f y x'=a∧f (y+dy) (x'+dx)=b∧0≤b∧b≠a
 | 0=>h.congr fun n=>by
  constructor
  ·exact .inl
  ·rintro(h | ⟨x',h,_⟩)
   ·exact h
   ·omega
 | x+1=>by
  rw [aP];have ih:=Bw dx dy f a y h x;unfold stC;split
  ·rename_i hc
   refine(ih.put _).congr fun n=>?_
   constructor
   ·rintro((h1 | ⟨x',h1,h2⟩) | rfl)
    ·exact .inl h1
    ·exact .inr ⟨x',by omega,h2⟩
    ·exact .inr ⟨x,by omega,hc.1,rfl,hc.2.1,hc.2.2⟩
   ·rintro(h1 | ⟨x',h1,h2,h3,h4,h5⟩)
    ·exact .inl (.inl h1)
    ·by_cases e:x'=x
     ·subst e
      exact .inr h3.symm
     ·exact .inl (.inr ⟨x',by omega,h2,h3,h4,h5⟩)
  ·rename_i hc
   refine ih.congr fun n=>?_
   constructor
   ·rintro(h1 | ⟨x',h1,h2⟩)
    ·exact .inl h1
    ·exact .inr ⟨x',by omega,h2⟩
   ·rintro(h1 | ⟨x',h1,h2,h3,h4,h5⟩)
    ·exact .inl h1
    ·by_cases e:x'=x
     ·subst e
      exact absurd ⟨h2,by rw [h3];exact h4,by rw [h3];exact h5⟩ hc
     ·exact .inr ⟨x',by omega,h2,h3,h4,h5⟩
theorem As (dx dy wd:Nat) (f:Gr) (a:Int):∀y:Nat,SetS ((Iz y).foldl (Cs dx dy wd f a) []) fun b=>∃y' x',y'<y∧x'+dx<wd∧f y' x'=a∧f (y'+dy) (x'+dx)=b∧0≤b∧b≠a
 | 0=>SetS.nil.congr fun n=>⟨False.elim,fun⟨y',x',h,_⟩=>absurd h (IJ _)⟩
 | y+1=>by
  rw [aP];refine(Bw dx dy f a y (As dx dy wd f a y) (wd - dx)).congr fun n=>?_
  constructor
  ·rintro(⟨y',x',h1,h2⟩ | ⟨x',h1,h2⟩)
   ·exact⟨y',x',by omega,h2⟩
   ·exact⟨y,x',by omega,by omega,h2⟩
  ·rintro⟨y',x',h1,h2,h3⟩
   by_cases e:y'=y
   ·subst e
    exact .inr ⟨x',by omega,h3⟩
   ·exact .inl ⟨y',x',by omega,h2,h3⟩
theorem DJ {dx dy wd ht:Nat} {f:Gr} (hf:GOK wd ht f) (a:Int):Hw dx dy wd ht f a=setL (fN dx dy wd ht f a) :=
 SetS.eq ((As dx dy wd f a (ht - dy)).congr fun n=>by
  constructor
  ·rintro⟨y,x,h1,h2⟩
   exact⟨y,x,by omega,h2⟩
  ·rintro⟨y,x,h1,h2⟩
   exact⟨y,x,by omega,h2⟩) (GC hf a)
theorem tL {wd ht y x p:Nat} (f:Gr) (hy:y<ht) (hx:x<wd) (hp:p=y*wd+x):aF 1 (ints (an wd ht f)) (I (p:Int))=some [I (f y x)]:=by
 have:=ry f hy hx;rw [←hp] at this;simp [this]
theorem qD {a b:Nat} (ha:a≤8) (hb:b≤8):a*b≤64:=Nat.mul_le_mul ha hb
set_option maxHeartbeats 1000000 in
theorem jB (dx dy wd ht:Nat) (f:Gr) (hf:GOK wd ht f) (a:Int) (hdx:dx≤1) (hdy:dy≤1) (hw8:wd≤8) (hh8:ht≤8) (hw1:1≤wd) (hh1:1≤ht) :
  cN [ints (an wd ht f),I (wd:Int),I (ht:Int),I a,I (dx:Int),I (dy:Int)]=some (.ret [ints (setL (fN dx dy wd ht f a))] []):=by
 rw [tv,←DJ hf];refine aE _ (sY (ht - dy) (fun y l=>[ints (an wd ht f),I (wd:Int),I (ht:Int),I a,I (dx:Int),I (dy:Int),ints l,I (y:Int)]) Ok8 (Cs dx dy wd f a) (fun l=>.ext 0 [ints l]) [] (fun y l hy hl=>?_) (fun l hl=>?_) (fun _=>rfl) Ok8.nil rfl) ?_
 ·have hwy:Ix.wrap ((y:Int)+1)=((y+1:Nat):Int):=by rw [ai (by omega) (by omega)];omega
  obtain⟨q1,hq1⟩:∃q,q=y+dy:=⟨_,rfl⟩
  have w1:Ix.wrap ((y:Int)+(dy:Int))=(q1:Int):=by rw [ai (by omega) (by omega)];omega
  have c1:(q1:Int)<(ht:Int):=by omega
  obtain⟨q2,hq2⟩:∃q,q=q1*wd:=⟨_,rfl⟩
  have b2:=qD (a:=q1) (b:=wd) (by omega) hw8;have w2:Ix.wrap ((q1:Int)*(wd:Int))=(q2:Int):=by rw [hq2,IC,ai]<;>rw [←IC]<;>omega
  obtain⟨q3,hq3⟩:∃q,q=y*wd:=⟨_,rfl⟩
  have b3:=qD (a:=y) (b:=wd) (by omega) hw8;have w3:Ix.wrap ((y:Int)*(wd:Int))=(q3:Int):=by rw [hq3,IC,ai]<;>rw [←IC]<;>omega
  have hb:∀l,Ok8 l→Ok8 (Cs dx dy wd f a l y):=fun l hl=>by
   unfold Cs;have key:∀m,m≤wd - dx→Ok8 ((Iz m).foldl (stC dx dy f a y) l):=by
    intro m;induction m with
    | zero=>exact fun _=>hl
    | succ m ih =>
     intro hm;rw [aP];have ih:=ih (by omega);unfold stC;split
     ·rename_i hc
      exact ih.put hc.2.1 (hf (y+dy) (m+dx) (by omega) (by omega)).2
     ·exact ih
   exact key _ (IQ _)
  refine⟨?_,hb l hl⟩
  simp -implicitDefEqProofs [w1,c1];refine aE _ (sY (wd - dx) (fun x l=>[ints (an wd ht f),I (wd:Int),I (ht:Int),I a,I (dx:Int),I (dy:Int),ints l,I (y:Int),I (x:Int)]) Ok8 (stC dx dy f a y) (fun l=>.ext 2 [ints (an wd ht f),I (wd:Int),I (ht:Int),I a,I (dx:Int),I (dy:Int),ints l,I (y:Int)]) l (fun x l hx hl=>?_) (fun l hl=>?_) (fun _=>rfl) hl rfl) ?_
  ·have hwx:Ix.wrap ((x:Int)+1)=((x+1:Nat):Int):=by rw [ai (by omega) (by omega)];omega
   obtain⟨p1,hp1⟩:∃q,q=x+dx:=⟨_,rfl⟩
   have v1:Ix.wrap ((x:Int)+(dx:Int))=(p1:Int):=by rw [ai (by omega) (by omega)];omega
   have d1:(p1:Int)<(wd:Int):=by omega
   obtain⟨p2,hp2⟩:∃q,q=q2+x:=⟨_,rfl⟩
   have v2:Ix.wrap ((q2:Int)+(x:Int))=(p2:Int):=by rw [ai (by omega) (by omega)];omega
   obtain⟨p3,hp3⟩:∃q,q=p2+dx:=⟨_,rfl⟩
   have v3:Ix.wrap ((p2:Int)+(dx:Int))=(p3:Int):=by rw [ai (by omega) (by omega)];omega
   obtain⟨p4,hp4⟩:∃q,q=q3+x:=⟨_,rfl⟩
   have v4:Ix.wrap ((q3:Int)+(x:Int))=(p4:Int):=by rw [ai (by omega) (by omega)];omega
   have r1:=tL (p:=p3) (wd:=wd) (ht:=ht) f (y:=q1) (x:=p1) (by omega) (by omega) (by omega);have r2:=tL (p:=p4) (wd:=wd) (ht:=ht) f (y:=y) (x:=x) (by omega) (by omega) (by omega);have h8:=(hf q1 p1 (by omega) (by omega)).2;unfold stC;rw [←hq1,←hp1];by_cases e1:f y x=a
   ·by_cases e2:0≤f q1 p1
    ·by_cases e3:f q1 p1=a
     ·have e4:0≤a:=by omega
      refine⟨?_,by rw [if_neg (by simp [e3])];exact hl⟩
      simp -implicitDefEqProofs [v1,d1,w1,w2,v2,v3,r1,w3,v4,r2,e1,e3,e4,hwx]
     ·have hp:=hl.e_put (f q1 p1)
      refine⟨?_,by rw [if_pos ⟨e1,e2,e3⟩];exact hl.put e2 h8⟩
      simp -implicitDefEqProofs [v1,d1,w1,w2,v2,v3,r1,w3,v4,r2,e1,e2,e3,hwx,hp]
    ·refine⟨?_,by rw [if_neg (by simp [e2])];exact hl⟩
     simp -implicitDefEqProofs [v1,d1,w1,w2,v2,v3,r1,w3,v4,r2,e1,e2,hwx]
   ·refine⟨?_,by rw [if_neg (by simp [e1])];exact hl⟩
    simp -implicitDefEqProofs [v1,d1,w1,w2,v2,v3,r1,w3,v4,r2,e1,hwx]
  ·have v1:Ix.wrap (((wd - dx:Nat):Int)+(dx:Int))=(wd:Int):=by rw [ai (by omega) (by omega)];omega
   simp -implicitDefEqProofs [v1]
  ·simp -implicitDefEqProofs [hwy,Cs]
 ·have v1:Ix.wrap (((ht - dy:Nat):Int)+(dy:Int))=(ht:Int):=by rw [ai (by omega) (by omega)];omega
  simp -implicitDefEqProofs [v1]
 ·simp [Hw]
theorem zA (n:Int):∀l,fO (fO l n) n=fO l n
 | []=>by simp [fO]
 | x::l=>by
  by_cases h:x<n
  ·simp only [fO,h,if_true]
   rw [zA n l]
  ·by_cases h2:x=n
   ·simp [fO,h2]
   ·simp [fO,h,h2]
def stK (n:Int) (s:List Int × Bool) (k:Int):List Int × Bool:=if k∈s.1 then(fO s.1 n,true) else s
theorem BA (n:Int):∀(ks:List Int) (s:List Int × Bool),n∉ks→ks.foldl (stK n) s=if ∃k∈ks,k∈s.1 then(fO s.1 n,true) else s
 | [],s,_=>by simp
 | k::ks,s,hn=>by
  have h1:k≠n:=fun e=>hn (by simp [e])
  have h2:n∉ks:=fun h=>hn (by simp [h])
  rw [IF,BA n ks _ h2];by_cases hk:k∈s.1
  ·have e:stK n s k=(fO s.1 n,true):=if_pos hk
   rw [e,if_pos (⟨k,by simp,hk⟩:∃j∈k::ks,j∈s.1)];simp only [zA];split<;>rfl
  ·have e:stK n s k=s:=if_neg hk
   rw [e];by_cases hx:∃j∈ks,j∈s.1
   ·obtain⟨j,j1,j2⟩:=hx
    rw [if_pos ⟨j,j1,j2⟩,if_pos (⟨j,by simp [j1],j2⟩:∃j∈k::ks,j∈s.1)]
   ·rw [if_neg hx,if_neg]
    rintro⟨j,j1,j2⟩;rcases IA.1 j1 with rfl | j1
    ·exact hk j2
    ·exact hx ⟨j,j1,j2⟩
open Classical in
def stN (beh:Int→Int→Prop) (s:List Int × Bool) (n:Int):List Int × Bool:=if 0≤n∧n∉s.1∧∃k,beh n k∧k∈s.1 then(fO s.1 n,true) else s
def Cu (g:List Int) (beh:Int→Int→Prop) (l:List Int) (P Q:Int→Prop) (seen:Int→Prop) (s:List Int × Bool):Prop :=
 ∃P',SetS s.1 P'∧(∀n,P n→P' n)∧(∀n,P' n→Q n)∧(s.2=false→s.1=l∧∀n k,seen n→0≤n→beh n k→P' k→P' n)∧(s.2=true→l.length<s.1.length)
theorem Cu.fold {g:List Int} {beh:Int→Int→Prop} {l:List Int} {P Q:Int→Prop} (hq:∀a b,0≤a→beh a b→Q b→Q a):∀(gs:List Int) {seen:Int→Prop} {s:List Int × Bool},Cu g beh l P Q seen s→Cu g beh l P Q (fun n=>seen n∨n∈gs) (gs.foldl (stN beh) s)
 | [],seen,s,h=>by
  obtain⟨P',h1,h2,h3,h4,h5⟩:=h;exact⟨P',h1,h2,h3,fun e=>⟨(h4 e).1,fun n k hs=>(h4 e).2 n k (by simpa using hs)⟩,h5⟩
 | n::gs,seen,s,h=>by
  rw [IF];have hstep:Cu g beh l P Q (fun m=>seen m∨m=n) (stN beh s n):=by
   obtain⟨P',h1,h2,h3,h4,h5⟩:=h;unfold stN;split
   ·rename_i hc
    obtain⟨c1,c2,k,c3,c4⟩:=hc;have hn:¬P' n:=fun hp=>c2 ((h1.iff n).2 hp)
    have hlen:l.length≤s.1.length:=by
     cases e:s.2
     ·rw [(h4 e).1]
      exact IQ _
     ·exact Nat.le_of_lt (h5 e)
    refine⟨_,h1.put n,fun n hn=>.inl (h2 n hn),?_,(fun e=>by cases e),fun _=>?_⟩
    ·rintro m (hp | rfl)
     ·exact h3 m hp
     ·exact hq m k c1 c3 (h3 k ((h1.iff k).1 c4))
    ·have:=h1.put_len hn
     show l.length<(fO s.1 n).length
     omega
   ·rename_i hc
    refine⟨P',h1,h2,h3,fun e=>⟨(h4 e).1,?_⟩,h5⟩
    rintro m k (hs | rfl) k1 k2 k3
    ·exact(h4 e).2 m k hs k1 k2 k3
    ·by_cases k4:m∈s.1
     ·exact(h1.iff m).1 k4
     ·exact absurd ⟨k1,k4,k,k2,(h1.iff k).2 k3⟩ hc
  obtain⟨P',h1,h2,h3,h4,h5⟩:=Cu.fold hq gs hstep;refine⟨P',h1,h2,h3,fun e=>⟨(h4 e).1,fun m k hs=>(h4 e).2 m k ?_⟩,h5⟩
  rcases hs with hs | hs
  ·exact .inl (.inl hs)
  ·rcases IA.1 hs with rfl | hs
   ·exact .inl (.inr rfl)
   ·exact .inr hs
theorem DT {wd ht:Nat} {f:Gr} {n:Int} (h:n∈an wd ht f):∃y x,y<ht∧x<wd∧f y x=n:=by
 unfold an at h;obtain⟨i,hi,rfl⟩:=Jh.1 h;have hi:=IY.1 hi;have h0:0<wd:=by
  rcases Nat.eq_zero_or_pos wd with rfl | h0
  ·simp at hi
  ·exact h0
 exact⟨_,_,Nat.div_lt_of_lt_mul hi,Nat.mod_lt _ h0,rfl⟩
theorem Ah {wd ht y x:Nat} (f:Gr) (hy:y<ht) (hx:x<wd):f y x∈an wd ht f:=List.mem_of_getElem? (ry f hy hx)
set_option maxHeartbeats 1000000 in
theorem nr (dx dy wd ht:Nat) (f:Gr) (hf:GOK wd ht f) (hdx:dx≤1) (hdy:dy≤1) (hw8:wd≤8) (hh8:ht≤8) (hw1:1≤wd) (hh1:1≤ht) {l0:List Int} {st:Int→Prop} (h0:SetS l0 st) (h08:In8 st) :
  eH [ints (an wd ht f),I (wd:Int),I (ht:Int),ints l0,I (dx:Int),I (dy:Int)]=some (.ret [ints (setL (Prs st (fN dx dy wd ht f)))] []):=by
 have hq8:In8 (Prs st (fN dx dy wd ht f)):=fun n hn=>by
  induction hn with
  | base h1=>exact h08 _ h1
  | step h1 h2 _ _ =>
   obtain⟨y,x,h3,h4,h5,_⟩:=h2;exact⟨h1,h5 ▸ (hf y x (by omega) (by omega)).2⟩
 have hlen:(an wd ht f).length≤64:=by rw [gV];exact qD hw8 hh8
 rw [tn];refine bo (fun r=>r=some (.ret [ints (setL (Prs st (fN dx dy wd ht f)))] [])) (fun s:List Int × Bool=>[ints (an wd ht f),I (wd:Int),I (ht:Int),ints s.1,I (dx:Int),I (dy:Int),B s.2])
  (fun s=>∃P,SetS s.1 P∧(∀n,st n→P n)∧(∀n,P n→Prs st (fN dx dy wd ht f) n)∧(s.2=false→∀n k,n∈an wd ht f→0≤n→fN dx dy wd ht f n k→P k→P n))
  (fun s=>(8 - s.1.length)+if s.2=true then 1 else 0) (fun o=>o = .ext 0 [ints (setL (Prs st (fN dx dy wd ht f)))]) (fun s hs=>?_) (l0,true) ⟨_,h0,fun n h=>h,fun n h=>Prs.base h,fun e=>by cases e⟩ rfl (fun o ho=>?_)
 ·obtain⟨l,ag⟩:=s
  obtain⟨P,h1,h2,h3,h4⟩:=hs;replace h1:SetS l P:=h1;cases ag
  ·have e:l=setL (Prs st (fN dx dy wd ht f)):=(h1.congr fun n=>Ez h3 h2 (fun a b ha hb hp=>by
    obtain⟨y,x,b1,b2,b3,b4⟩:=hb;exact h4 rfl a b (b3 ▸ Ah f (by omega) (by omega)) ha ⟨y,x,b1,b2,b3,b4⟩ hp) n).eq hq8
   refine .inr ⟨_,?_,?_,rfl⟩
   ·rw [←e]
    simp -implicitDefEqProofs
   ·rfl
  ·obtain⟨P',g1,g2,g3,g4,g5⟩:=Cu.fold (g:=an wd ht f) (beh:=fN dx dy wd ht f) (fun a b h1 h2 h3=>Prs.step h1 h2 h3) (an wd ht f) (seen:=fun _=>False) (s:=(l,false)) (l:=l) (P:=P) (Q:=Prs st (fN dx dy wd ht f)) ⟨P,h1,fun n h=>h,h3,fun _=>⟨rfl,fun n k h=>h.elim⟩,fun e=>by cases e⟩
   refine .inl ⟨(an wd ht f).foldl (stN (fN dx dy wd ht f)) (l,false),?_,⟨P',g1,fun n h=>g2 n (h2 n h),g3,fun e n k hn=>(g4 e).2 n k (.inr hn)⟩,?_⟩
   ·have hl8:Ok8 l:=⟨h1.srt,fun n hn=>hq8 n (h3 n ((h1.iff n).1 hn))⟩
    clear g1 g2 g3 g4 g5 h1 h2 h3 h4 h0 h08;have hmem:∀n∈an wd ht f,n<8:=fun n hn=>by
     obtain⟨y,x,h1,h2,rfl⟩:=DT hn;exact(hf y x h1 h2).2
    have hb:∀n,cN [ints (an wd ht f),I (wd:Int),I (ht:Int),I n,I (dx:Int),I (dy:Int)]=some (.ret [ints (setL (fN dx dy wd ht f n))] []):=fun n=>jB dx dy wd ht f hf n hdx hdy hw8 hh8 hw1 hh1
    generalize hG:an wd ht f=G at *;simp -implicitDefEqProofs only [bA,iF,dv,if_true,ca,IB,Iy];refine aE _ (jl G (fun i (s:List Int × Bool)=>[ints G,I (wd:Int),I (ht:Int),ints s.1,I (dx:Int),I (dy:Int),B s.2,ints G,I (G.length:Int),I (i:Int)]) (fun s=>Ok8 s.1) (stN (fN dx dy wd ht f)) (fun s=>.ext 2 [ints G,I (wd:Int),I (ht:Int),ints s.1,I (dx:Int),I (dy:Int),B s.2]) (l,false) (fun i s hi hs=>?_) (fun s hs=>?_) (fun _=>rfl) hl8 rfl) ?_
    ·have hwi:Ix.wrap ((i:Int)+1)=((i+1:Nat):Int):=by rw [ai (by omega) (by omega)];omega
     have hi':(i:Int)<(G.length:Int):=by omega
     have hri:aF 1 (ints G) (I (i:Int))=some [I G[i]]:=by simp [hi]
     have hm8:=hmem G[i] (IG hi);generalize G[i]=n at *;obtain⟨sl',sb⟩:=s;simp only at hs;have hsh:=hs.has n;have h58:(setL (fN dx dy wd ht f n)).length≤8:=jr _;have hmemL:∀k,k∈setL (fN dx dy wd ht f n)↔fN dx dy wd ht f n k:=fun k=>by rw [kq];exact⟨fun h=>h.2,fun h=>⟨GC hf n k h,h⟩⟩
     have hnot:n∉setL (fN dx dy wd ht f n):=fun h=>by
      obtain⟨y,x,b1,b2,b3,b4,b5,b6⟩:=(hmemL n).1 h;exact b6 rfl
     by_cases c1:n<0
     ·have e:stN (fN dx dy wd ht f) (sl',sb) n=(sl',sb):=if_neg fun h=>by omega
      rw [e];exact⟨by simp -implicitDefEqProofs [hi',hri,c1,hwi],hs⟩
     ·by_cases c2:n∈sl'
      ·have e:stN (fN dx dy wd ht f) (sl',sb) n=(sl',sb):=if_neg fun h=>h.2.1 c2
       rw [e];exact⟨by simp -implicitDefEqProofs [hi',hri,c1,hsh,c2,hwi],hs⟩
      ·have e:stN (fN dx dy wd ht f) (sl',sb) n=(setL (fN dx dy wd ht f n)).foldl (stK n) (sl',sb):=by
        rw [BA n _ _ hnot];unfold stN;by_cases hx:∃k∈setL (fN dx dy wd ht f n),k∈sl'
        ·rw [if_pos (show ∃k∈setL (fN dx dy wd ht f n),k∈((sl',sb):List Int × Bool).1 from hx),if_pos]
         obtain⟨k,k1,k2⟩:=hx;exact⟨by omega,c2,k,(hmemL k).1 k1,k2⟩
        ·rw [if_neg (show ¬∃k∈setL (fN dx dy wd ht f n),k∈((sl',sb):List Int × Bool).1 from hx),if_neg]
         rintro⟨_,_,k,k1,k2⟩;exact hx ⟨k,(hmemL k).2 k1,k2⟩
       have hbn:=hb n;generalize setL (fN dx dy wd ht f n)=ks at *;have hok:∀s:List Int × Bool,Ok8 s.1→∀k,Ok8 (stK n s k).1:=fun s hs k=>by
        unfold stK;split
        ·exact hs.put (by omega) hm8
        ·exact hs
       have hokf:∀(ks:List Int) (s:List Int × Bool),Ok8 s.1→Ok8 (ks.foldl (stK n) s).1:=by
        intro ks;induction ks with
        | nil=>exact fun s hs=>hs
        | cons k ks ih=>exact fun s hs=>ih _ (hok s hs k)
       refine⟨?_,by rw [e];exact hokf ks _ hs⟩
       rw [e];simp -implicitDefEqProofs [hi',hri,c1,hsh,c2,hbn];refine aE _ (jl ks (fun j (s:List Int × Bool)=>[ints G,I (wd:Int),I (ht:Int),ints s.1,I (dx:Int),I (dy:Int),B s.2,I n,ints G,I (G.length:Int),I (i:Int),ints ks,I (ks.length:Int),I (j:Int)]) (fun s=>Ok8 s.1) (stK n) (fun s=>.ext 4 [ints G,I (wd:Int),I (ht:Int),ints s.1,I (dx:Int),I (dy:Int),B s.2,ints G,I (G.length:Int),I (i:Int)]) (sl',sb) (fun j s hj hs=>?_) (fun s hs=>?_) (fun _=>rfl) hs rfl) ?_
       ·have hwj:Ix.wrap ((j:Int)+1)=((j+1:Nat):Int):=by rw [ai (by omega) (by omega)];omega
        have hj':(j:Int)<(ks.length:Int):=by omega
        have hrj:aF 1 (ints ks) (I (j:Int))=some [I ks[j]]:=by simp [hj]
        generalize ks[j]=k at *;obtain⟨tl,tb⟩:=s;simp only at hs;refine⟨?_,hok (tl,tb) hs k⟩
        have hth:=hs.has k;have htp:=hs.e_put n;unfold stK;by_cases d1:k∈tl
        ·simp -implicitDefEqProofs [hj',hrj,hth,htp,d1,hwj]
        ·simp -implicitDefEqProofs [hj',hrj,hth,d1,hwj]
       ·simp -implicitDefEqProofs
       ·simp -implicitDefEqProofs [hwi]
    ·simp -implicitDefEqProofs
    ·simp -implicitDefEqProofs
   ·have h8:=kr (fx g1.srt) fun n hn=>hq8 n (g3 n ((g1.iff n).1 hn))
    show(8 - ((an wd ht f).foldl (stN (fN dx dy wd ht f)) (l,false)).1.length)+(if ((an wd ht f).foldl (stN (fN dx dy wd ht f)) (l,false)).2=true then 1 else 0)<(8 - l.length)+(if true=true then 1 else 0)
    cases e:((an wd ht f).foldl (stN (fN dx dy wd ht f)) (l,false)).2
    ·rw [(g4 e).1,if_neg (by simp),if_pos rfl]
     omega
    ·have:=g5 e
     rw [if_pos rfl];omega
 ·subst ho
  simp
set_option maxRecDepth 100000
theorem Prs.congr {s1 s2:Int→Prop} {b1 b2:Int→Int→Prop} (hs:∀n,s1 n→s2 n) (hb:∀a b,b1 a b→b2 a b) {n:Int} (h:Prs s1 b1 n):Prs s2 b2 n:=by
 induction h with
 | base h=>exact .base (hs _ h)
 | step h1 h2 _ ih=>exact .step h1 (hb _ _ h2) ih
theorem qx (wd ht:Nat) (f:Gr) (a b:Int):fN 0 1 wd ht f a b↔xE ht wd (bw f) a b :=
 ⟨fun⟨y,x,h1,h2,h3,h4,h5⟩=>⟨x,y,h2,h1,h3,h4,h5⟩,fun⟨y,x,h1,h2,h3,h4,h5⟩=>⟨x,y,h2,h1,h3,h4,h5⟩⟩
def stR (v:Int→Int) (l:List Int) (r:Int):List Int:=if 0≤v r then fO l (v r) else l
theorem xM (v:Int→Int):∀(R:List Int) {l:List Int} {P:Int→Prop},SetS l P→SetS (R.foldl (stR v) l) fun n=>P n∨∃r∈R,v r=n∧0≤n
 | [],l,P,h=>h.congr fun n=>by simp
 | r::R,l,P,h=>by
  rw [IF];by_cases hc:0≤v r
  ·have e:stR v l r=fO l (v r):=if_pos hc
   rw [e];refine(xM v R (h.put _)).congr fun n=>?_
   constructor
   ·rintro((h1 | rfl) | ⟨r',h1,h2⟩)
    ·exact .inl h1
    ·exact .inr ⟨r,by simp,rfl,hc⟩
    ·exact .inr ⟨r',by simp [h1],h2⟩
   ·rintro(h1 | ⟨r',h1,h2,h3⟩)
    ·exact .inl (.inl h1)
    ·rcases IA.1 h1 with rfl | h1
     ·exact .inl (.inr h2.symm)
     ·exact .inr ⟨r',h1,h2,h3⟩
  ·have e:stR v l r=l:=if_neg hc
   rw [e];refine(xM v R h).congr fun n=>?_
   constructor
   ·rintro(h1 | ⟨r',h1,h2⟩)
    ·exact .inl h1
    ·exact .inr ⟨r',by simp [h1],h2⟩
   ·rintro(h1 | ⟨r',h1,h2,h3⟩)
    ·exact .inl h1
    ·rcases IA.1 h1 with rfl | h1
     ·exact absurd (by rw [h2];exact h3) hc
     ·exact .inr ⟨r',h1,h2,h3⟩
theorem EW {v:Int→Int} {l:List Int} (h:Ok8 l) {r:Int} (h8:v r<8):Ok8 (stR v l r):=by
 unfold stR;split
 ·rename_i h0
  exact h.put h0 h8
 ·exact h
theorem HP {wd ht:Nat} {f:Gr} (hf:GOK wd ht f) (hw1:1≤wd) (R:List Int):In8 (stP wd ht f R):=fun n ⟨y,_,h2,h3,h4⟩=>⟨h4,h3 ▸ (hf y (wd - 1) h2 (by omega)).2⟩
theorem xm {wd ht:Nat} {f:Gr} {R:List Int} (hR:∀r∈R,0≤r∧r<ht):SetS (R.foldl (stR fun r=>f r.toNat (wd - 1)) []) (stP wd ht f R) :=
 (xM _ R SetS.nil).congr fun n=>by
  constructor
  ·rintro(h | ⟨r,h1,h2,h3⟩)
   ·exact h.elim
   ·have h4:=hR r h1
    exact⟨r.toNat,by rw [show((r.toNat:Nat):Int)=r by omega];exact h1,by omega,h2,h3⟩
  ·rintro⟨y,h1,h2,h3,h4⟩
   exact .inr ⟨y,h1,by rw [ID];exact h3,h4⟩
set_option maxHeartbeats 1000000 in
theorem kA (wd ht:Nat) (f:Gr) (hf:GOK wd ht f) (hw8:wd≤8) (hh8:ht≤8) (hw1:1≤wd) (hh1:1≤ht) {d:D} {R:List Int} (hd:RowD d R) (hR:∀r∈R,0≤r∧r<ht) :
  dr [ints (an wd ht f),I (wd:Int),I (ht:Int),d]=some (.ret [ints (bv wd ht f R)] []):=by
 have hmax:=hd.max;rw [ut];simp only [hd.len,Iy];refine aE _ (jl R (fun i l=>[ints (an wd ht f),I (wd:Int),I (ht:Int),ints l,d,I (R.length:Int),I (i:Int)]) Ok8 (stR fun r=>f r.toNat (wd - 1)) (fun l=>.ext 0 [ints (an wd ht f),I (wd:Int),I (ht:Int),ints l]) [] (fun i l hi hl=>?_) (fun l hl=>?_) (fun _=>rfl) Ok8.nil rfl) ?_
 ·have hr:=hR R[i] (IG hi)
  have hri:=hd.at_ i hi;have hi':(i:Int)<(R.length:Int):=by omega
  have hwi:Ix.wrap ((i:Int)+1)=((i+1:Nat):Int):=by rw [ai (by omega) (by omega)];omega
  generalize hk:R[i]=r at *;obtain⟨y,rfl⟩:∃y:Nat,r=y:=⟨r.toNat,by omega⟩
  have h8:(fun r:Int=>f r.toNat (wd - 1)) (y:Int)<8:=by
   show f (y:Int).toNat (wd - 1)<8
   rw [ID];exact(hf y (wd - 1) (by omega) (by omega)).2
  refine⟨?_,EW hl h8⟩
  obtain⟨q1,hq1⟩:∃q,q=y*wd:=⟨_,rfl⟩
  have b1:=qD (a:=y) (b:=wd) (by omega) hw8;have w1:Ix.wrap ((y:Int)*(wd:Int))=(q1:Int):=by rw [hq1,IC,ai]<;>rw [←IC]<;>omega
  obtain⟨q2,hq2⟩:∃q,q=q1+wd:=⟨_,rfl⟩
  have w2:Ix.wrap ((q1:Int)+(wd:Int))=(q2:Int):=by rw [ai (by omega) (by omega)];omega
  obtain⟨q3,hq3⟩:∃q,q=q2 - 1:=⟨_,rfl⟩
  have w3:Ix.wrap ((q2:Int) - 1)=(q3:Int):=by rw [ai (by omega) (by omega)];omega
  have r0:=tL (p:=q3) (wd:=wd) (ht:=ht) f (y:=y) (x:=wd - 1) (by omega) (by omega) (by omega);have hp:=hl.e_put (f y (wd - 1));unfold stR;simp only [ID];by_cases c1:0≤f y (wd - 1)
  ·simp -implicitDefEqProofs [hi',hri,w1,w2,w3,r0,c1,hwi,hp]
  ·simp -implicitDefEqProofs [hi',hri,w1,w2,w3,r0,c1,hwi]
 ·simp
 ·have h:=nr 1 0 wd ht f hf (by omega) (by omega) hw8 hh8 hw1 hh1 (xm (wd:=wd) (f:=f) hR) (HP hf hw1 R)
  rw [show((1:Nat):Int)=1 from rfl,show((0:Nat):Int)=0 from rfl] at h;simp -implicitDefEqProofs [h];rfl
theorem CA (wd ht:Nat) (f:Gr) (R:List Int):setL (Prs (stP ht wd (bw f) R) (fN 0 1 wd ht f))=bv ht wd (bw f) R :=
 uF fun n=>⟨Prs.congr (fun n h=>h) fun a b h=>(qx wd ht f a b).1 h,Prs.congr (fun n h=>h) fun a b h=>(qx wd ht f a b).2 h⟩
set_option maxHeartbeats 1000000 in
theorem lf (wd ht:Nat) (f:Gr) (hf:GOK wd ht f) (hw8:wd≤8) (hh8:ht≤8) (hw1:1≤wd) (hh1:1≤ht) {d:D} {R:List Int} (hd:RowD d R) (hR:∀r∈R,0≤r∧r<wd) :
  dl [ints (an wd ht f),I (wd:Int),I (ht:Int),d]=some (.ret [ints (bv ht wd (bw f) R)] []):=by
 have hmax:=hd.max;rw [uy];simp only [hd.len,Iy];refine aE _ (jl R (fun i l=>[ints (an wd ht f),I (wd:Int),I (ht:Int),ints l,d,I (R.length:Int),I (i:Int)]) Ok8 (stR fun r=>bw f r.toNat (ht - 1)) (fun l=>.ext 0 [ints (an wd ht f),I (wd:Int),I (ht:Int),ints l]) [] (fun i l hi hl=>?_) (fun l hl=>?_) (fun _=>rfl) Ok8.nil rfl) ?_
 ·have hr:=hR R[i] (IG hi)
  have hri:=hd.at_ i hi;have hi':(i:Int)<(R.length:Int):=by omega
  have hwi:Ix.wrap ((i:Int)+1)=((i+1:Nat):Int):=by rw [ai (by omega) (by omega)];omega
  generalize hk:R[i]=r at *;obtain⟨x,rfl⟩:∃x:Nat,r=x:=⟨r.toNat,by omega⟩
  have h8:(fun r:Int=>bw f r.toNat (ht - 1)) (x:Int)<8:=by
   show f (ht - 1) (x:Int).toNat<8
   rw [ID];exact(hf (ht - 1) x (by omega) (by omega)).2
  refine⟨?_,EW hl h8⟩
  obtain⟨q0,hq0⟩:∃q,q=ht - 1:=⟨_,rfl⟩
  have w0:Ix.wrap ((ht:Int) - 1)=(q0:Int):=by rw [ai (by omega) (by omega)];omega
  obtain⟨q1,hq1⟩:∃q,q=q0*wd:=⟨_,rfl⟩
  have b1:=qD (a:=q0) (b:=wd) (by omega) hw8;have w1:Ix.wrap ((q0:Int)*(wd:Int))=(q1:Int):=by rw [hq1,IC,ai]<;>rw [←IC]<;>omega
  obtain⟨q2,hq2⟩:∃q,q=q1+x:=⟨_,rfl⟩
  have w2:Ix.wrap ((q1:Int)+(x:Int))=(q2:Int):=by rw [ai (by omega) (by omega)];omega
  have r0:=tL (p:=q2) (wd:=wd) (ht:=ht) f (y:=q0) (x:=x) (by omega) (by omega) (by omega);have hp:=hl.e_put (f q0 x);unfold stR;simp only [ID,bw,←hq0];by_cases c1:0≤f q0 x
  ·simp -implicitDefEqProofs [hi',hri,w0,w1,w2,r0,c1,hwi,hp]
  ·simp -implicitDefEqProofs [hi',hri,w0,w1,w2,r0,c1,hwi]
 ·simp
 ·have h:=nr 0 1 wd ht f hf (by omega) (by omega) hw8 hh8 hw1 hh1 (xm (wd:=ht) (ht:=wd) (f:=bw f) hR) (HP (mI hf) hh1 R)
  rw [show((1:Nat):Int)=1 from rfl,show((0:Nat):Int)=0 from rfl,CA] at h;simp -implicitDefEqProofs [h]
end Go.Proofs.Ytccaheogjpfhjaa

namespace Go.V
set_option maxRecDepth 100000
def LeO {α:Type} (a b:Option α):Prop:=∀o,a=some o→b=some o
theorem LeO.refl {α:Type} (a:Option α):LeO a a:=fun _ h=>h
theorem LeO.none {α:Type} (b:Option α):LeO none b:=fun _ h=>by cases h
theorem LeO.trans {α:Type} {a b c:Option α} (h:LeO a b) (h':LeO b c):LeO a c:=fun o e=>h' o (h o e)
theorem LeO.bind {α β:Type} {a b:Option α} {f g:α→Option β} (h:LeO a b) (hf:∀x,LeO (f x) (g x)):LeO (a.bind f) (b.bind g):=by
 intro o e;cases a with
 | none=>cases e
 | some x=>rw [h x rfl];exact hf x o e
theorem LeO.ifD {c:D} {a b a' b':Option Out} (h:LeO a a') (h':LeO b b'):LeO (ifD c a b) (ifD c a' b'):=by
 intro o e;unfold V.ifD at e ⊢;split at e<;>first | exact h o e | exact h' o e | cases e
theorem LeO.ifN {c:Bool} {a b a' b':Option Out} (h:LeO a a') (h':LeO b b'):LeO (ifN c a b) (ifN c a' b'):=by
 cases c
 ·exact h'
 ·exact h
theorem LeO.callK {r r':Option Out} {k k':List D→List D→Option Out} (h:LeO r r') (hk:∀a b,LeO (k a b) (k' a b)):LeO (callK r k) (callK r' k'):=by
 intro o e;cases r with
 | none=>cases e
 | some x =>
  rw [h x rfl];cases x with
  | ret a b=>exact hk a b o e
  | nrm _=>cases e
  | ext _ _=>cases e
theorem LeO.outK {o':Out} {x x':Nat→List D→Option Out} {r r':List D→List D→Option Out} (hx:∀i s,LeO (x i s) (x' i s)) (hr:∀a b,LeO (r a b) (r' a b)):LeO (outK o' x r) (outK o' x' r'):=by
 intro o e;cases o' with
 | ret a b=>exact hr a b o e
 | nrm _=>cases e
 | ext i s=>exact hx i s o e
theorem LeO.nrmK {r r':Option Out} {k k':List D→Option Out} (h:LeO r r') (hk:∀l,LeO (k l) (k' l)):LeO (nrmK r k) (nrmK r' k'):=by
 intro o e;cases r with
 | none=>cases e
 | some x =>
  rw [h x rfl];cases x with
  | nrm l=>exact hk l o e
  | ret _ _=>cases e
  | ext _ _=>cases e
theorem LeO.iter {b b':List D→Option Out} (h:∀s,LeO (b s) (b' s)):∀(n:Nat) (s:List D),LeO (V.iter b n s) (V.iter b' n s)
 | 0,_=>fun o e=>by simp [V.iter] at e
 | n+1,s=>fun o e=>by
  simp only [V.iter] at e ⊢;cases hb:b s with
  | none=>rw [hb] at e;cases e
  | some x =>
   rw [h s x hb];rw [hb] at e;cases x with
   | nrm l=>exact LeO.iter h n l o e
   | ret _ _=>exact e
   | ext _ _=>exact e
theorem LeO.loop {b b':List D→Option Out} (h:∀s,LeO (b s) (b' s)) (s:List D):LeO (aI b s) (aI b' s):=by
 intro o e;unfold aI at e;split at e
 ·exact Ao _ (LeO.iter h _ s o e)
 ·cases e
theorem BH {R:Nat→List D→Option Out} {ds:List D} (hm:∀n,LeO (R n ds) (R (n+1) ds)) (n:Nat) {r:Out} (hn:R n ds=some r):yp R ds=some r:=by
 have up:∀(k n:Nat),LeO (R n ds) (R (n+k) ds):=by
  intro k;induction k with
  | zero=>exact fun n=>LeO.refl _
  | succ k ih=>exact fun n=>(ih n).trans (hm (n+k))
 refine FC (fun m o ho=>?_) n hn
 have h1:=up m n r hn;have h2:=up n m o ho;rw [Nat.add_comm] at h2;rw [h2] at h1;exact Option.some.inj h1
end Go.V

namespace Go.Proofs.Ytccaheogjpfhjaa
open Go Go.V
set_option maxRecDepth 100000
def qM (most:Nat):Nat→List Int→List (List Int)
 | 0,q=>[q]
 | m+1,q=>(IV (nxI q).toNat (most - (nxI q).toNat)).flatMap fun k:Nat=>qM most m (q++[(k:Int)])
def Bj (n:Nat):List (List Int):=(IV 0 (n+1)).flatMap fun m:Nat=>qM n m []
theorem yO:∀n:Nat,n<9→dU n=Bj n:=by decide +kernel
def Hh (right:Bool) (wd ht:Nat) (f:Gr) (R:List Int):List Int:=if right=true then bv wd ht f R else bv ht wd (bw f) R
def kI (right:Bool) (wd ht:Nat) (f:Gr) (all:Nat) (R:List Int):Bool:=decide ((Hh right wd ht f R).length=all)
def QD (z:D) (q:List Int):Prop:=z=ints q∨(z = .arr 0 []∧q=[])
theorem QD.row {z:D} {q:List Int} (h:QD z q) (hl:q.length≤1048576):RowD z q:=by
 rcases h with rfl | ⟨rfl,rfl⟩
 ·exact RowD.ints hl
 ·exact RowD.nil
theorem QD.own {z:D} {q:List Int} (h:QD z q) (hl:q.length≤1048576):cD [z]=some (.ret [ints q] []):=by
 rcases h with rfl | ⟨rfl,rfl⟩
 ·exact ri q hl
 ·exact vV
theorem yk:∀(n:Nat) (x0 x1 x2 x3 x4 x5 x6 x7:D),LeO (bq n [x0,x1,x2,x3,x4,x5,x6,x7]) (bq (n+1) [x0,x1,x2,x3,x4,x5,x6,x7])
 | 0,x0,x1,x2,x3,x4,x5,x6,x7=>LeO.none _
 | n+1,x0,x1,x2,x3,x4,x5,x6,x7=>by
  have ih:=yk n;rw [gb (n+1),gb n]
  repeat' first
   | with_reducible exact LeO.refl _
   | exact ih _ _ _ _ _ _ _ _
   | apply LeO.ifD
   | apply LeO.callK
   | apply LeO.outK
   | apply LeO.loop
   | apply LeO.ifN
   | apply LeO.bind
   | intro _
theorem GN:nxI []=0:=rfl
theorem BV {q:List Int} (h:q≠[]):nxI q=q.getLast h+1:=by
 unfold nxI;rw [List.getLast?_eq_some_getLast h]
def InR (n:Nat) (q:List Int):Prop:=∀r∈q,0≤r∧r<(n:Int)
theorem InR.nx {n:Nat} {q:List Int} (h:InR n q):0≤nxI q∧nxI q≤n:=by
 by_cases e:q=[]
 ·subst e
  rw [GN];omega
 ·rw [BV e]
  have:=h _ (List.getLast_mem e);omega
theorem InR.snoc {n:Nat} {q:List Int} (h:InR n q) {k:Nat} (hk:k<n):InR n (q++[(k:Int)]):=fun r hr=>by
 rcases IL.1 hr with hr | hr
 ·exact h r hr
 ·rw [II.1 hr]
  omega
theorem sT {k most:Nat} (h:k<most):IV k (most - k)=k::IV (k+1) (most - (k+1)):=by
 rw [show most - k=(most - (k+1))+1 by omega,List.range'_succ]
set_option maxHeartbeats 1000000 in
theorem FL (right:Bool) (wd ht:Nat) (f:Gr) (hf:GOK wd ht f) (hw8:wd≤8) (hh8:ht≤8) (hw1:1≤wd) (hh1:1≤ht) (all:Nat):∀(m:Nat) (q:List Int) (z:D) (N:Nat),QD z q→InR (if right=true then ht else wd) q→q.length+m=N→N≤8 →
    ∃z' ok,bq (m+1) [ints (an wd ht f),I (wd:Int),I (ht:Int),I ((if right=true then ht else wd:Nat):Int),I (all:Int),z,I (N:Int),B right]=some (.ret [z',B ok] []) ∧
      match (qM (if right=true then ht else wd) m q).find? (kI right wd ht f all) with
      | some q'=>ok=true∧QD z' q'
      | none=>ok=false∧(∃q',QD z' q'):=by
  have hm8:(if right=true then ht else wd:Nat)≤8:=by split<;>omega
  have hpr:∀z q,QD z q→q.length≤8→InR (if right=true then ht else wd) q→(ifD (B right) (callK (dr [ints (an wd ht f),I (wd:Int),I (ht:Int),z]) fun rs _u =>
 (lenD false (sl rs 0)).bind fun z_1=>(bin BinOp.eql false [] z_1 (I (all:Int))).bind fun z_1=>some (Out.ret [z,z_1] [])) (callK (dl [ints (an wd ht f),I (wd:Int),I (ht:Int),z]) fun rs _u =>
 (lenD false (sl rs 0)).bind fun z_1=>(bin BinOp.eql false [] z_1 (I (all:Int))).bind fun z_1=>some (Out.ret [z,z_1] [])))=some (.ret [z,B (kI right wd ht f all q)] []):=by
    intro z q hz hq hin;cases right
    · have h:=lf wd ht f hf hw8 hh8 hw1 hh1 (hz.row (by omega)) (by simpa [InR] using hin)
      simp -implicitDefEqProofs [h,kI,Hh,Int.natCast_inj]
    · have h:=kA wd ht f hf hw8 hh8 hw1 hh1 (hz.row (by omega)) (by simpa [InR] using hin)
      simp -implicitDefEqProofs [h,kI,Hh,Int.natCast_inj]
  generalize hmost:(if right=true then ht else wd:Nat)=most at *;intro m;induction m with
  | zero =>
    intro q z N hz hin hN hN8;have hrow:=hz.row (by omega);rw [gb];simp only [hrow.len,Iy];have e:((q.length:Nat):Int)=(N:Int):=by omega
    simp only [ru,e,decide_true,dv,if_true,Iy];have h:=hpr z q hz (by omega) hin;simp only [dv] at h;refine⟨z,_,h,?_⟩
    simp only [qM,List.find?_cons,List.find?_nil];cases hb:kI right wd ht f all q
    · exact⟨rfl,q,hz⟩
    · exact⟨rfl,hz⟩
  | succ m ih =>
    intro q z N hz hin hN hN8;have hrow:=hz.row (by omega);obtain⟨n0,n1⟩:=hin.nx;have e:¬((q.length:Nat):Int)=(N:Int):=by omega
    have hown:=hz.own (by omega);have core:∀s0:List D,s0=[ints (an wd ht f),I (wd:Int),I (ht:Int),I (most:Int),I (all:Int),z,I (N:Int),B right,I ((nxI q).toNat:Int)]→∃z' ok,((aI (fun s=>(bin BinOp.lss false [] (sl s 8) (sl s 3)).bind fun z=>ifD z (callK (cD [sl s 5]) fun rs _u =>
 (aW 1 [sl s 8]).bind fun a=>(ew 1 8 (sl rs 0) a).bind fun y=>callK (bq (m+1) [sl s 0,sl s 1,sl s 2,sl s 3,sl s 4,y,sl s 6,sl s 7]) fun rs _u=>(al (D.tup rs) 0).bind fun z =>
 (al (D.tup rs) 1).bind fun z_1=>ifD z_1 (some (Out.ret [z,D.v (Jg true)] [])) ((bin BinOp.add false [] (sl s 8) (D.v (Ja Ix 1))).bind fun z=>some (Out.nrm
 [sl s 0,sl s 1,sl s 2,sl s 3,sl s 4,sl s 5,sl s 6,sl s 7,z]))) (some (Out.ext 0 []))) s0).bind fun o=>outK o
 (fun i _u=>ifN (i.beq 0) (some (Out.ret [D.arr 1 [],D.v (Jg false)] [])) none) fun a b=>some (Out.ret a b))=some (.ret [z',B ok] []) ∧
      match (qM most (m+1) q).find? (kI right wd ht f all) with
      | some q'=>ok=true∧QD z' q'
      | none=>ok=false∧(∃q',QD z' q'):=by
      rintro s0 rfl;refine bo (fun r=>∃z' ok,r=some (.ret [z',B ok] [])∧match (qM most (m+1) q).find? (kI right wd ht f all) with
        | some q'=>ok=true∧QD z' q'
        | none=>ok=false∧∃q',QD z' q') (fun k:Nat=>[ints (an wd ht f),I (wd:Int),I (ht:Int),I (most:Int),I (all:Int),z,I (N:Int),B right,I (k:Int)])
        (fun k=>k≤most∧(qM most (m+1) q).find? (kI right wd ht f all)=((IV k (most - k)).flatMap fun k:Nat=>qM most m (q++[(k:Int)])).find? (kI right wd ht f all)) (fun k=>most - k)
        (fun o=>(o = .ext 0 []∧(qM most (m+1) q).find? (kI right wd ht f all)=none)∨∃z' q',o = .ret [z',B true] []∧(qM most (m+1) q).find? (kI right wd ht f all)=some q'∧QD z' q') (fun k hk=>?_) (nxI q).toNat ⟨by omega,rfl⟩ rfl (fun o ho=>?_)
      · obtain⟨k1,k2⟩:=hk
        by_cases hlt:k<most
        · have hlt':(k:Int)<(most:Int):=by omega
          have hwk:Ix.wrap ((k:Int)+1)=((k+1:Nat):Int):=by rw [ai (by omega) (by omega)];omega
          obtain⟨z',ok,g1,g2⟩:=ih (q++[(k:Int)]) (ints (q++[(k:Int)])) N (.inl rfl) (hin.snoc hlt) (by rw [List.length_append];simp;omega) hN8;rw [sT hlt,List.flatMap_cons,List.find?_append] at k2;have ha:=fU (l:=q) (m:=[(k:Int)]) (by simp;omega);have h1:=mK (k:Int);cases hfd:(qM most m (q++[(k:Int)])).find? (kI right wd ht f all) with
          | none =>
            rw [hfd] at g2 k2;obtain⟨g2,q',g3⟩:=g2;subst g2;have hz':al (.tup [z',B false]) 0=some z':=by
              rcases g3 with rfl | ⟨rfl,_⟩<;>rfl
            have hz2:al (.tup [z',B false]) 1=some (B false):=rfl;refine .inl ⟨k+1,?_,⟨by omega,by simpa using k2⟩,by omega⟩
            simp -implicitDefEqProofs [hlt',hown,h1,ha,g1,hwk,-bO,hz',hz2,-aA]
          | some q' =>
            rw [hfd] at g2 k2;obtain⟨g2,g3⟩:=g2;subst g2;refine .inr ⟨.ret [z',B true] [],?_,rfl,.inr ⟨z',q',rfl,by simpa using k2,g3⟩⟩
            have hz':al (.tup [z',B true]) 0=some z':=by
              rcases g3 with rfl | ⟨rfl,_⟩<;>rfl
            have hz2:al (.tup [z',B true]) 1=some (B true):=rfl;simp -implicitDefEqProofs [hlt',hown,h1,ha,g1,-bO,hz',hz2,-aA]
        · have hlt':¬(k:Int)<(most:Int):=by omega
          refine .inr ⟨.ext 0 [],?_,rfl,.inl ⟨rfl,?_⟩⟩
          · simp -implicitDefEqProofs [hlt']
          · rw [k2,show most - k=0 by omega]
            rfl
      · rcases ho with ⟨rfl,h2⟩ | ⟨z',q',rfl,h2,h3⟩
        · rw [h2]
          exact⟨.arr 1 [],false,by simp,rfl,[],.inl rfl⟩
        · rw [h2]
          exact⟨z',true,by simp,rfl,h3⟩
    rw [gb];simp only [hrow.len,Iy,ru,e,decide_false,dv,IM,if_false];by_cases hq:q=[]
    · subst hq
      have h0:¬(0:Int)<(([]:List Int).length:Int):=by simp
      simp only [qQ,h0,decide_false,Iy,dv,IM,if_false];exact core _ rfl
    · have hpos:0<q.length:=List.length_pos_iff.2 hq
      have h0:(0:Int)<(q.length:Int):=by omega
      have hws:Ix.wrap ((q.length:Int) - 1)=((q.length - 1:Nat):Int):=by rw [ai (by omega) (by omega)];omega
      have hat:=hrow.at_ (q.length - 1) (by omega);have hlast:q[q.length - 1]=q.getLast hq:=(List.getLast_eq_getElem hq).symm;rw [hlast] at hat;have hnx:=BV hq;have hlb:=hin _ (List.getLast_mem hq);have hwn:Ix.wrap (q.getLast hq+1)=((nxI q).toNat:Int):=by rw [ai (by omega) (by omega)];omega
      simp only [qQ,h0,decide_true,Iy,dv,if_true,xQ,hws,hat,IW,ya,xL,Az,tR,hwn];exact core _ rfl
theorem tz (right:Bool) (wd ht:Nat) (f:Gr) (hf:GOK wd ht f) (hw8:wd≤8) (hh8:ht≤8) (hw1:1≤wd) (hh1:1≤ht) (all:Nat) (N:Nat) (hN:N≤8) :
  ∃z' ok,eK [ints (an wd ht f),I (wd:Int),I (ht:Int),I ((if right=true then ht else wd:Nat):Int),I (all:Int),.arr 0 [],I (N:Int),B right]=some (.ret [z',B ok] []) ∧
   match (qM (if right=true then ht else wd) N []).find? (kI right wd ht f all) with
   | some q'=>ok=true∧QD z' q'
   | none=>ok=false∧(∃q',QD z' q'):=by
 obtain⟨z',ok,h1,h2⟩:=FL right wd ht f hf hw8 hh8 hw1 hh1 all N [] (.arr 0 []) N (.inr ⟨rfl,rfl⟩) (fun r hr=>by cases hr) (by simp) hN;exact⟨z',ok,BH (fun n=>yk n _ _ _ _ _ _ _ _) _ h1,h2⟩
set_option maxRecDepth 100000
theorem dO (n:Int):cC [I n]=some (.ret [B (aX n)] []):=by
 rw [vY];simp -implicitDefEqProofs only [Hn,Int.reduceLT,Int.reduceLE,Int.reduceEq,lp,aX]
theorem tB (l:Ps) (h:l.length≤1048576):fZ [pcs l]=some (.ret [B (eT l)] []):=by
 rw [tr];simp only [ca,IB,Iy];refine aE _ (ju l (fun i=>[pcs l,pcs l,I l.length,I i]) (fun _ p=>aX p.1&&aX p.2) (.ret [B false] []) (.ext 0 [pcs l]) (fun i hi=>?_) ?_ rfl rfl rfl) ?_
 ·have hw:Ix.wrap ((i:Int)+1)=(i:Int)+1:=ai (by omega) (by omega)
  cases h1:aX l[i].1
  ·simp -implicitDefEqProofs [hi,dO,h1]
  ·cases h2:aX l[i].2<;>simp -implicitDefEqProofs [hi,dO,h1,h2,hw]
 ·simp
 ·have e:kJ (fun _ (p:Int × Int)=>aX p.1&&aX p.2) 0 l=l.all (fun p=>aX p.1&&aX p.2):=by
   have key:∀(l:Ps) (i:Nat),kJ (fun _ (p:Int × Int)=>aX p.1&&aX p.2) i l=l.all (fun p=>aX p.1&&aX p.2):=by
    intro l;induction l with
    | nil=>intro i;rfl
    | cons x l ih=>intro i;simp [kJ,ih]
   exact key l 0
  rw [e];unfold eT;cases l.all (fun p=>aX p.1&&aX p.2)
  ·simp
  ·simp
   omega
theorem oN (w h:Int) (l:Ps) (hl:l.length≤1048576):fm [I w,I h,pcs l]=some (.ret [B (aX w&&aX h&&eT l)] []):=by
 rw [vB];cases h1:aX w
 ·simp -implicitDefEqProofs [dO,h1]
 ·cases h2:aX h
  ·simp -implicitDefEqProofs [dO,h1,h2]
  ·simp -implicitDefEqProofs [dO,h1,h2,tB l hl]
theorem oK (x:Int × Int) (t:Bool):fo [pce x,B t]=some (.ret [I (if t=true then x.2 else x.1),I (if t=true then x.1 else x.2)] []):=by
 rw [va];cases t<;>simp -implicitDefEqProofs
theorem yN {wd ht y x p:Nat} (g:Gr) (hy:y<ht) (hx:x<wd) (hp:p=y*wd+x):fR 1 (ints (an wd ht g)) (I (p:Int))=some (.ref p 0):=by
 have h:=Ed hy hx;rw [←hp] at h;rw [bK,if_pos (by rw [IB,gV];exact h)]
theorem zD {wd ht y x p:Nat} (g:Gr) (hy:y<ht) (hx:x<wd) (hp:p=y*wd+x):atD (ints (an wd ht g)) (.ref p 0)=some [I (g y x)]:=by
 have:=ry g hy hx;rw [←hp] at this;simp [this]
theorem Aj {wd ht y x p:Nat} (g:Gr) (n:Int) (hy:y<ht) (hx:x<wd) (hp:p=y*wd+x):stD 1 (ints (an wd ht g)) (.ref p 0) (I n)=some (ints (an wd ht fun r c=>if r=y∧c=x then n else g r c)):=by
 have h:=ry g hy hx;rw [←hp] at h;have h2:=Da g n hy hx;rw [←hp] at h2;have h3:((an wd ht g).set p n).map I=((an wd ht g).map I).set p (I n):=List.map_set;rw [vf (w:=.int .i64 (g y x)) (by rw [IK,h];rfl),←h2];show some (D.arr 1 (((an wd ht g).map I).set p (I n)))=some (.arr 1 (((an wd ht g).set p n).map I))
 rw [h3]
theorem DO {wd ht:Nat} {l:Ps} (hl:eT l=true) {f:Gr} (hf:GOK wd ht f) {p:Pl} {q:Option Int} (hn:tE l q p=true):GOK wd ht (qk f l p):=by
 intro y x hy hx;have h8:l.length≤8:=by
  unfold eT at hl;simp only [IE,decide_eq_true_eq] at hl;exact hl.2
 unfold tE at hn;simp only [IE,decide_eq_true_eq] at hn;unfold qk mkA;split
 ·omega
 ·exact hf y x hy hx
theorem BS {wd ht:Nat} {l:Ps} (hl:eT l=true):∀(ps:List Pl) (q:Option Int) (f f':Gr),GOK wd ht f→chG l wd ht q f ps=some f'→GOK wd ht f'
 | [],q,f,f',hf,h=>by
  simp only [chG,Option.some.injEq] at h;exact h ▸ hf
 | p::ps,q,f,f',hf,h=>by
  simp only [chG] at h;split at h
  ·rename_i hc
   rw [IE] at hc;exact BS hl ps _ _ _ (DO hl hf hc.1) h
  ·cases h
theorem GOK.free (wd ht:Nat):GOK wd ht fun _ _=>-1:=fun _ _ _ _=>⟨Int.le_refl (-1),(by decide:(-1:Int)<8)⟩
def iD (wd ht:Nat):Option Gr→List D
 | none=>[ints [],B false]
 | some f=>[ints (an wd ht f),B true]
set_option maxHeartbeats 2000000 in
theorem lP (wd ht:Nat) (hw1:1≤wd) (hh1:1≤ht) (hw8:wd≤8) (hh8:ht≤8) (l:Ps) (hl:eT l=true) (ps:List Pl) (hp:qv ps) :
  bM [I (wd:Int),I (ht:Int),pcs l,pls ps]=some (.ret (iD wd ht (chG l wd ht none (fun _ _=>-1) ps)) []):=by
 have hpl:=hp.1;obtain⟨n0,hn0⟩:∃n0,n0=wd*ht:=⟨_,rfl⟩
 have b0:=qD hw8 hh8;have w0:Ix.wrap ((wd:Int)*(ht:Int))=(n0:Int):=by rw [hn0,IC,ai]<;>rw [←IC]<;>omega
 have hmk:yF 1 8 (D.v (Ja Ix 0)) (I (n0:Int)) (I (n0:Int))=some (.arr 1 (List.replicate n0 (I 0))):=by
  rw [zH,if_pos (by omega)]
 have hfl:(an wd ht fun _ _=>-1).length=n0:=by rw [gV,hn0]
 rw [wm];simp -implicitDefEqProofs only [tN,w0,Iy,hmk,iN,fb,cn,ca,List.length_replicate];refine aE _ (dJ n0 (fun i=>[I (wd:Int),I (ht:Int),pcs l,pls ps,.arr 1 (iJ I (I 0) (an wd ht fun _ _=>-1) i),I (n0:Int),I (i:Int)]) (.ext 0 [I (wd:Int),I (ht:Int),pcs l,pls ps,ints (an wd ht fun _ _=>-1)]) (fun i hi=>?_) ?_ rfl ?_) ?_
 ·have hw:Ix.wrap ((i:Int)+1)=(i:Int)+1:=ai (by omega) (by omega)
  have hi':(i:Int)<(n0:Int):=by omega
  have hi2:i<(an wd ht fun _ _=>-1).length:=by omega
  have hlen:=rB (f:=I) (z:=I 0) (l:=an wd ht fun _ _=>-1) (i:=i) (by omega);have hg:=wT (f:=I) (z:=I 0) hi2;have hx:(an wd ht fun _ _=>-1)[i]?=some (-1):=by
   unfold an;rw [IK,IX (by omega)];rfl
  have hs:=wU (f:=I) (z:=I 0) hx;have hst:=vf (z:=1) (w:=.int .i64 0) (v:=.int .i64 (-1)) hg;rw [hs] at hst;have hrf:fR 1 (.arr 1 (iJ I (I 0) (an wd ht fun _ _=>-1) i)) (I (i:Int))=some (.ref i 0):=by rw [bK,if_pos (by omega)]
  generalize iJ I (I 0) (an wd ht fun _ _=>-1) i=L at *;simp -implicitDefEqProofs [hi',hrf,hst,hw,-bK]
 ·have h:=vu (f:=I) (z:=I 0) (l:=an wd ht fun _ _=>-1)
  rw [hfl] at h;simp -implicitDefEqProofs [h]
 ·have h:=ug (f:=I) (z:=I 0) (l:=an wd ht fun _ _=>-1)
  rw [hfl] at h;rw [h];rfl
 simp -implicitDefEqProofs only [oD,yE,Nat.beq_refl,if_true,bA,iF,ca,IB,Iy];refine bo (fun r=>r=some (.ret (iD wd ht (chG l wd ht none (fun _ _=>-1) ps)) [])) (fun s:Nat × Gr=>[I (wd:Int),I (ht:Int),pcs l,ints (an wd ht s.2),I ((dV ps s.1).getD (-1)),pls ps,I (ps.length:Int),I (s.1:Int)])
  (fun s=>s.1≤ps.length∧GOK wd ht s.2∧(∀q,dV ps s.1=some q→0≤q)∧chG l wd ht none (fun _ _=>-1) ps=chG l wd ht (dV ps s.1) s.2 (ps.drop s.1)) (fun s=>ps.length - s.1)
  (fun o=>(o = .ret [ints [],B false] []∧chG l wd ht none (fun _ _=>-1) ps=none)∨∃f,o = .ext 2 [ints (an wd ht f)]∧chG l wd ht none (fun _ _=>-1) ps=some f) (fun s hs=>?_) (0,fun _ _=>-1) ⟨IU _,GOK.free wd ht,(fun q h=>by cases h),rfl⟩ rfl (fun o ho=>?_)
 ·obtain⟨i,f⟩:=s
  obtain⟨h1,hf,h3,h4⟩:=hs;replace h1:i≤ps.length:=h1;replace hf:GOK wd ht f:=hf;replace h3:∀q,dV ps i=some q→0≤q:=h3;replace h4:chG l wd ht none (fun _ _=>-1) ps=chG l wd ht (dV ps i) f (ps.drop i):=h4;by_cases hlt:i<ps.length
  ·have hw:Ix.wrap ((i:Int)+1)=(i:Int)+1:=ai (by omega) (by omega)
   have hi':(i:Int)<(ps.length:Int):=by omega
   have hpi:=hp.2 ps[i] (IG hlt);have hri:aF 4 (pls ps) (I (i:Int))=some [I ps[i].1,I ps[i].2.1,I ps[i].2.2.1,B ps[i].2.2.2]:=by simp [hlt]
   rw [Jc hlt,chG] at h4;have hprev:dV ps (i+1)=some ps[i].1:=by simp [dV,hlt]
   generalize hpe:ps[i]=p at *;obtain⟨n,X,Y,t⟩:=p;simp only at hpi hri hprev;obtain⟨⟨x1,x2⟩,y1,y2⟩:=hpi;have hlast : -1≤(dV ps i).getD (-1):=by
    cases hq:dV ps i with
    | none=>simp
    | some q=>have:=h3 q hq;simp;omega
   have hnum:tE l (dV ps i) (n,X,Y,t)=decide ((dV ps i).getD (-1)<n∧n<(l.length:Int)):=by
    unfold tE;cases hq:dV ps i with
    | none =>
     rw [Jf];simp;omega
    | some q =>
     have:=h3 q hq;rw [Jf];simp;omega
   generalize hq:(dV ps i).getD (-1)=q at *;have hwm:Ix.wrap ((wd:Int) - 1)=(wd:Int) - 1:=ai (by omega) (by omega);have hhm:Ix.wrap ((ht:Int) - 1)=(ht:Int) - 1:=ai (by omega) (by omega);by_cases c1:n≤q
   ·refine .inr ⟨.ret [ints [],B false] [],?_,rfl,.inl ⟨rfl,by rw [h4,hnum,decide_eq_false (by omega)];rfl⟩⟩
    simp -implicitDefEqProofs [hi',hri,c1]
   by_cases c2:(l.length:Int)≤n
   ·refine .inr ⟨.ret [ints [],B false] [],?_,rfl,.inl ⟨rfl,by rw [h4,hnum,decide_eq_false (by omega)];rfl⟩⟩
    simp -implicitDefEqProofs [hi',hri,c1,c2]
   obtain⟨k,rfl⟩:∃k:Nat,n=k:=⟨n.toNat,by omega⟩
   have hk:k<l.length:=by omega
   obtain⟨s1,s2,s3,s4,s5,s6⟩:=wO hl (p:=((k:Int),X,Y,t)) (by show(0:Int)≤(k:Int);omega) (by show(k:Int)≤(l.length:Int) - 1;omega);have hsz:szI l ((k:Int),X,Y,t)=(if t=true then l[k].2 else l[k].1,if t=true then l[k].1 else l[k].2):=by
    unfold szI;simp only [ID];rw [Jb,Je hk];cases t<;>rfl
   have hsd:=oK l[k] t;rw [show(if t=true then l[k].2 else l[k].1)=(szI l ((k:Int),X,Y,t)).1 by rw [hsz],show(if t=true then l[k].1 else l[k].2)=(szI l ((k:Int),X,Y,t)).2 by rw [hsz],←s1,←s2] at hsd;have hrk:aF 2 (pcs l) (I (k:Int))=some [I l[k].1,I l[k].2]:=tM hk;have hroom:jR wd ht f l ((k:Int),X,Y,t)=@decide _ (IP (jk wd ht f l ((k:Int),X,Y,t))):=rfl;have hno:¬jk wd ht f l ((k:Int),X,Y,t)→chG l wd ht none (fun _ _=>-1) ps=none:=fun h=>by
    rw [h4,hroom,@decide_eq_false _ (IP _) h,Bool.and_false];rfl
   have hyes:jk wd ht f l ((k:Int),X,Y,t)→chG l wd ht none (fun _ _=>-1) ps=chG l wd ht (some (k:Int)) (qk f l ((k:Int),X,Y,t)) (ps.drop (i+1)):=fun h=>by
    rw [h4,hroom,@decide_eq_true _ (IP _) h,hnum,decide_eq_true (by omega)];rfl
   have hput:qk f l ((k:Int),X,Y,t)=mkA f X.toNat Y.toNat (szN l ((k:Int),X,Y,t)).1 (szN l ((k:Int),X,Y,t)).2 (k:Int):=rfl;rw [hput] at hyes;unfold jk at hno hyes;clear hroom hput h4 hsz s1 s2;generalize (szN l ((k:Int),X,Y,t)).1=a at *;generalize (szN l ((k:Int),X,Y,t)).2=b at *;simp only at hno hyes;have hIX:=lp X 0 ((wd:Int) - 1);have hIY:=lp Y 0 ((ht:Int) - 1);by_cases c3:¬(0≤X∧X≤(wd:Int) - 1)
   ·refine .inr ⟨.ret [ints [],B false] [],?_,rfl,.inl ⟨rfl,hno fun h=>by omega⟩⟩
    rw [decide_eq_false c3] at hIX;simp -implicitDefEqProofs [hi',hri,c1,c2,hwm,hIX]
   rw [Jk] at c3;rw [decide_eq_true c3] at hIX;by_cases c4:¬(0≤Y∧Y≤(ht:Int) - 1)
   ·refine .inr ⟨.ret [ints [],B false] [],?_,rfl,.inl ⟨rfl,hno fun h=>by omega⟩⟩
    rw [decide_eq_false c4] at hIY;simp -implicitDefEqProofs [hi',hri,c1,c2,hwm,hIX,hhm,hIY]
   rw [Jk] at c4;rw [decide_eq_true c4] at hIY;have hwX:Ix.wrap (X+(a:Int))=X+a:=ai (by omega) (by omega);have hwY:Ix.wrap (Y+(b:Int))=Y+b:=ai (by omega) (by omega);by_cases c5:(wd:Int)<X+(a:Int)
   ·refine .inr ⟨.ret [ints [],B false] [],?_,rfl,.inl ⟨rfl,hno fun h=>by omega⟩⟩
    simp -implicitDefEqProofs [hi',hri,c1,c2,hwm,hIX,hhm,hIY,hrk,hsd,hwX,c5]
   by_cases c6:(ht:Int)<Y+(b:Int)
   ·refine .inr ⟨.ret [ints [],B false] [],?_,rfl,.inl ⟨rfl,hno fun h=>by omega⟩⟩
    simp -implicitDefEqProofs [hi',hri,c1,c2,hwm,hIX,hhm,hIY,hrk,hsd,hwX,c5,hwY,c6]
   obtain⟨X,rfl⟩:∃m:Nat,X=m:=⟨X.toNat,by omega⟩
   obtain⟨Y,rfl⟩:∃m:Nat,Y=m:=⟨Y.toNat,by omega⟩
   simp -implicitDefEqProofs [hi',hri,c1,c2,hwm,hIX,hhm,hIY,hrk,hsd,hwX,c5,hwY,c6,-Prod.exists];rw [ID,ID] at hyes;have hgk:GOK wd ht (mkA f X Y a b (k:Int)):=fun y x hy hx=>by
    have h8:l.length≤8:=by
     unfold eT at hl;simp only [IE,decide_eq_true_eq] at hl;exact hl.2
    unfold mkA;split
    ·omega
    ·exact hf y x hy hx
   have hdrop:ps.drop (i+1)=ps.drop (i+1):=rfl;refine bo (fun r'=>(∃a':Nat × Gr,r'=some (.nrm [I (wd:Int),I (ht:Int),pcs l,ints (an wd ht a'.2),I ((dV ps a'.1).getD (-1)),pls ps,I (ps.length:Int),I (a'.1:Int)])∧(a'.1≤ps.length∧GOK wd ht a'.2∧(∀q,dV ps a'.1=some q→0≤q)∧chG l wd ht none (fun _ _=>-1) ps=chG l wd ht (dV ps a'.1) a'.2 (ps.drop a'.1))∧ps.length - a'.1<ps.length - i) ∨
     ∃o,r'=some o∧o.ends=true∧((o = .ret [ints [],B false] []∧chG l wd ht none (fun _ _=>-1) ps=none)∨∃f,o = .ext 2 [ints (an wd ht f)]∧chG l wd ht none (fun _ _=>-1) ps=some f))
    (fun dy:Nat=>[I (wd:Int),I (ht:Int),pcs l,ints (an wd ht (mkP f X Y a (k:Int) (Y+dy) X)),I (k:Int),.agg [I (k:Int),I (X:Int),I (Y:Int),B t],I (a:Int),I (b:Int),I (dy:Int),pls ps,I (ps.length:Int),I (i:Int)])
    (fun dy=>dy≤b∧∀y' x:Nat,Y≤y'→y'<Y+dy→X≤x→x<X+a→f y' x = -1) (fun dy=>b - dy)
    (fun o=>(o = .ret [ints [],B false] []∧chG l wd ht none (fun _ _=>-1) ps=none)∨(o = .ext 4 [I (wd:Int),I (ht:Int),pcs l,ints (an wd ht (mkA f X Y a b (k:Int))),I (k:Int),pls ps,I (ps.length:Int),I (i:Int)]∧∀y' x:Nat,Y≤y'→y'<Y+b→X≤x→x<X+a→f y' x = -1))
    (fun dy hdy=>?_) 0 ⟨IU _,fun y' x h1 h2=>by omega⟩ (by rw [Nat.add_zero,sn];rfl) (fun o ho=>?_)
   ·obtain⟨d1,d2⟩:=hdy
    have hwdy:Ix.wrap ((dy:Int)+1)=(dy:Int)+1:=ai (by omega) (by omega);by_cases e1:dy<b
    ·have e1':(dy:Int)<(b:Int):=by omega
     obtain⟨q1,hq1⟩:∃q1,q1=Y+dy:=⟨_,rfl⟩
     have w1:Ix.wrap ((Y:Int)+(dy:Int))=(q1:Int):=by rw [ai (by omega) (by omega)];omega
     obtain⟨q2,hq2⟩:∃q2,q2=q1*wd:=⟨_,rfl⟩
     have b2:=qD (a:=q1) (b:=wd) (by omega) hw8;have w2:Ix.wrap ((q1:Int)*(wd:Int))=(q2:Int):=by rw [hq2,IC,ai]<;>rw [←IC]<;>omega
     obtain⟨q3,hq3⟩:∃q3,q3=q2+X:=⟨_,rfl⟩
     have w3:Ix.wrap ((q2:Int)+(X:Int))=(q3:Int):=by rw [ai (by omega) (by omega)];omega
     simp -implicitDefEqProofs [e1'];refine bo (fun r'=>(∃a':Nat,r'=some (.nrm [I (wd:Int),I (ht:Int),pcs l,ints (an wd ht (mkP f X Y a (k:Int) (Y+a') X)),I (k:Int),.agg [I (k:Int),I (X:Int),I (Y:Int),B t],I (a:Int),I (b:Int),I (a':Int),pls ps,I (ps.length:Int),I (i:Int)])∧(a'≤b∧∀y' x:Nat,Y≤y'→y'<Y+a'→X≤x→x<X+a→f y' x = -1)∧b - a'<b - dy) ∨
       ∃o,r'=some o∧o.ends=true∧((o = .ret [ints [],B false] []∧chG l wd ht none (fun _ _=>-1) ps=none)∨(o = .ext 4 [I (wd:Int),I (ht:Int),pcs l,ints (an wd ht (mkA f X Y a b (k:Int))),I (k:Int),pls ps,I (ps.length:Int),I (i:Int)]∧∀y' x:Nat,Y≤y'→y'<Y+b→X≤x→x<X+a→f y' x = -1)))
      (fun dx:Nat=>[I (wd:Int),I (ht:Int),pcs l,ints (an wd ht (mkP f X Y a (k:Int) (Y+dy) (X+dx))),I (k:Int),.agg [I (k:Int),I (X:Int),I (Y:Int),B t],I (a:Int),I (b:Int),I (dy:Int),I (dx:Int),pls ps,I (ps.length:Int),I (i:Int)])
      (fun dx=>dx≤a∧∀x:Nat,X≤x→x<X+dx→f (Y+dy) x = -1) (fun dx=>a - dx)
      (fun o=>(o = .ret [ints [],B false] []∧chG l wd ht none (fun _ _=>-1) ps=none)∨(o = .ext 6 [I (wd:Int),I (ht:Int),pcs l,ints (an wd ht (mkP f X Y a (k:Int) (Y+dy) (X+a))),I (k:Int),.agg [I (k:Int),I (X:Int),I (Y:Int),B t],I (a:Int),I (b:Int),I (dy:Int),pls ps,I (ps.length:Int),I (i:Int)]∧∀x:Nat,X≤x→x<X+a→f (Y+dy) x = -1))
      (fun dx hdx=>?_) 0 ⟨IU _,fun x h1 h2=>by omega⟩ rfl (fun o ho=>?_)
     ·obtain⟨g1,g2⟩:=hdx
      have hwdx:Ix.wrap ((dx:Int)+1)=(dx:Int)+1:=ai (by omega) (by omega);by_cases e2:dx<a
      ·have e2':(dx:Int)<(a:Int):=by omega
       obtain⟨q4,hq4⟩:∃q4,q4=q3+dx:=⟨_,rfl⟩
       have w4:Ix.wrap ((q3:Int)+(dx:Int))=(q4:Int):=by rw [ai (by omega) (by omega)];omega
       have hq5:q4=(Y+dy)*wd+(X+dx):=by rw [hq4,hq3,hq2,hq1,Nat.add_assoc]
       have r1:=yN (wd:=wd) (ht:=ht) (y:=Y+dy) (x:=X+dx) (p:=q4) (mkP f X Y a (k:Int) (Y+dy) (X+dx)) (by omega) (by omega) hq5;have r2:=zD (wd:=wd) (ht:=ht) (y:=Y+dy) (x:=X+dx) (p:=q4) (mkP f X Y a (k:Int) (Y+dy) (X+dx)) (by omega) (by omega) hq5;have r3:=Aj (wd:=wd) (ht:=ht) (y:=Y+dy) (x:=X+dx) (p:=q4) (mkP f X Y a (k:Int) (Y+dy) (X+dx)) (k:Int) (by omega) (by omega) hq5;have hv:mkP f X Y a (k:Int) (Y+dy) (X+dx) (Y+dy) (X+dx)=f (Y+dy) (X+dx):=by
        unfold mkP;rw [if_neg (by omega)]
       rw [hv] at r2;rw [uG f X Y a (k:Int) (Y+dy) (X+dx) (by omega) (by omega) (by omega)] at r3;have hge:=(hf (Y+dy) (X+dx) (by omega) (by omega)).1;by_cases e3:f (Y+dy) (X+dx) = -1
       ·refine .inl ⟨dx+1,?_,⟨by omega,fun x h1 h2=>?_⟩,by omega⟩
        ·rw [e3] at r2
         simp -implicitDefEqProofs [e2',w1,w2,w3,w4,r1,r2,r3,hwdx,-bK,-ir];rfl
        ·by_cases e4:x=X+dx
         ·rw [e4];exact e3
         ·exact g2 x h1 (by omega)
       ·have e4:0≤f (Y+dy) (X+dx):=by omega
        refine .inr ⟨.ret [ints [],B false] [],?_,rfl,.inl ⟨rfl,hno fun h=>e3 (h.2.2.2.2 (Y+dy) (X+dx) (by omega) (by omega) (by omega) (by omega))⟩⟩
        simp -implicitDefEqProofs [e2',w1,w2,w3,w4,r1,r2,e4,-bK,-ir]
      ·have e2':¬(dx:Int)<(a:Int):=by omega
       have e5:dx=a:=by omega
       subst e5;refine .inr ⟨_,?_,?_,.inr ⟨rfl,g2⟩⟩
       ·simp -implicitDefEqProofs
       ·rfl
     ·rcases ho with ⟨rfl,h2⟩ | ⟨rfl,h2⟩
      ·exact .inr ⟨_,by simp -implicitDefEqProofs,rfl,.inl ⟨rfl,h2⟩⟩
      ·refine .inl ⟨dy+1,?_,⟨by omega,fun y' x g1 g2 g3 g4=>?_⟩,by omega⟩
       ·rw [xV f X Y a (k:Int) (Y+dy) (by omega)]
        simp -implicitDefEqProofs [hwdy];rfl
       ·by_cases e3:y'=Y+dy
        ·rw [e3];exact h2 x g3 g4
        ·exact d2 y' x g1 (by omega) g3 g4
    ·have e1':¬(dy:Int)<(b:Int):=by omega
     have e5:dy=b:=by omega
     subst e5;refine .inr ⟨_,?_,?_,.inr ⟨rfl,d2⟩⟩
     ·rw [xz]
      simp -implicitDefEqProofs
     ·rfl
   ·rcases ho with ⟨rfl,h2⟩ | ⟨rfl,h2⟩
    ·exact .inr ⟨_,by simp -implicitDefEqProofs,rfl,.inl ⟨rfl,h2⟩⟩
    ·have hroomP:Du f (X:Int) (Y:Int) a b:=fun y x g1 g2 g3 g4=>h2 y x (by omega) (by omega) (by omega) (by omega)
     refine .inl ⟨(i+1,mkA f X Y a b (k:Int)),?_,⟨by show i+1≤ps.length;omega,hgk,fun q hq=>?_,?_⟩,by show ps.length - (i+1)<ps.length - i;omega⟩
     ·simp -implicitDefEqProofs [hw,hprev]
     ·replace hq:dV ps (i+1)=some q:=hq
      rw [hprev] at hq;cases hq;omega
     ·show _=chG l wd ht (dV ps (i+1)) _ (ps.drop (i+1))
      rw [hprev];exact hyes ⟨by omega,by omega,by omega,by omega,hroomP⟩
  ·have hi':¬(i:Int)<(ps.length:Int):=by omega
   refine .inr ⟨.ext 2 [ints (an wd ht f)],?_,rfl,.inr ⟨f,rfl,?_⟩⟩
   ·simp -implicitDefEqProofs [hi']
   ·rw [h4,List.drop_eq_nil_of_le (by omega)]
    rfl
 ·rcases ho with ⟨rfl,h2⟩ | ⟨f,rfl,h2⟩
  ·rw [h2]
   simp -implicitDefEqProofs [iD]
  ·rw [h2]
   simp -implicitDefEqProofs [iD]
set_option maxRecDepth 100000
theorem AY {w h:Int} {l:Ps} {ps:List Pl} {f:Gr} (e:cG w h l ps=some f):∃wd ht:Nat,w=wd∧h=ht∧1≤wd∧wd≤8∧1≤ht∧ht≤8∧eT l=true∧chG l wd ht none (fun _ _=>-1) ps=some f∧GOK wd ht f:=by
 unfold cG at e;split at e
 ·rename_i hc
  simp only [IE] at hc;obtain⟨⟨h1,h2⟩,h3⟩:=hc;unfold aX at h1 h2;simp only [decide_eq_true_eq] at h1 h2;exact⟨w.toNat,h.toNat,by omega,by omega,by omega,by omega,by omega,by omega,h3,e,BS h3 _ _ _ _ (GOK.free _ _) e⟩
 ·cases e
theorem An {wd ht:Nat} {l:Ps} {ps:List Pl} (h1:1≤wd) (h2:wd≤8) (h3:1≤ht) (h4:ht≤8) (hl:eT l=true):cG (wd:Int) (ht:Int) l ps=chG l wd ht none (fun _ _=>-1) ps:=by
 unfold cG aX;rw [decide_eq_true (show(1:Int)≤(wd:Int)∧(wd:Int)≤8 by omega),decide_eq_true (show(1:Int)≤(ht:Int)∧(ht:Int)≤8 by omega),hl];simp
theorem ko (w h:Int) (l:Ps) (ps:List Pl) (hl:l.length≤1048576) (hp:qv ps):bB [I w,I h,pcs l,pls ps]=some (.ret [B (gZ w h l ps)] []):=by
 rw [uk,oN w h l hl];unfold gZ cG;cases hc:aX w&&aX h&&eT l
 ·simp -implicitDefEqProofs
 ·simp only [IE] at hc
  obtain⟨⟨h1,h2⟩,h3⟩:=hc;unfold aX at h1 h2;simp only [decide_eq_true_eq] at h1 h2;have hg:=lP w.toNat h.toNat (by omega) (by omega) (by omega) (by omega) l h3 ps hp;rw [show((w.toNat:Nat):Int)=w by omega,show((h.toNat:Nat):Int)=h by omega] at hg;cases hch:chG l w.toNat h.toNat none (fun _ _=>-1) ps with
  | none =>
   rw [hch] at hg;simp -implicitDefEqProofs [hg,iD]
  | some f =>
   rw [hch] at hg;simp -implicitDefEqProofs [hg,iD]
def dp (l:List Int) (lo hi:Int):Bool:=kJ (fun i x=>decide (lo≤x∧x≤hi)&&(decide (i=0)||decide (l.getD (i - 1) 0<x))) 0 l
theorem yH {β:Type} {p:Nat→β→Bool}:∀{l:List β} {i:Nat},kJ p i l=true→∀x∈l,∃j,p j x=true
 | [],_,_,x,hx=>by cases hx
 | y::l,i,h,x,hx=>by
  simp only [kJ,IE] at h;rcases IA.1 hx with rfl | hx
  ·exact⟨i,h.1⟩
  ·exact yH h.2 x hx
theorem tS {l:List Int} {lo hi:Int} (h:dp l lo hi=true):∀x∈l,lo≤x∧x≤hi:=fun x hx=>by
 obtain⟨j,hj⟩:=yH h x hx;rw [IE,decide_eq_true_eq] at hj;exact hj.1
theorem wF {d:D} {l:List Int} (hd:RowD d l) (lo hi:Int) {i:Nat} (h:i<l.length):(0<i→aF 1 d (I ((i:Int) - 1))=some [I (l.getD (i - 1) 0)]):=fun h0=>by
 have:=hd.at_ (i - 1) (by omega);rw [show((i:Int) - 1)=((i - 1:Nat):Int) by omega,this,Jb,Je (by omega)];rfl
theorem fF {d:D} {l:List Int} (hd:RowD d l) (lo hi:Int):cA [d,I lo,I hi]=some (.ret [B (dp l lo hi)] []):=by
 have hm:=hd.max;rw [rO];simp only [hd.len,Iy];refine aE _ (ju l (fun i=>[d,I lo,I hi,d,I l.length,I i]) (fun i x=>decide (lo≤x∧x≤hi)&&(decide (i=0)||decide (l.getD (i - 1) 0<x))) (.ret [B false] []) (.ext 0 []) (fun i hi'=>?_) ?_ rfl rfl rfl) ?_
 ·have hw:Ix.wrap ((i:Int)+1)=(i:Int)+1:=ai (by omega) (by omega)
  have hwm:Ix.wrap ((i:Int) - 1)=(i:Int) - 1:=ai (by omega) (by omega);have hi2:(i:Int)<(l.length:Int):=by omega
  have hri:=hd.at_ i hi';have hrp:=wF hd lo hi hi';generalize l[i]=x at *;have hin:=lU x lo hi;by_cases c1:lo≤x∧x≤hi
  ·rw [decide_eq_true c1] at hin ⊢
   by_cases c2:i=0
   ·subst c2
    have hri0:aF 1 d (I 0)=some [I x]:=hri;have h0:(0:Nat)<l.length:=hi';have hw1:Ix.wrap 1=1:=by decide
    simp -implicitDefEqProofs [hri0,hin,h0,hw1]
   ·have hrp:=hrp (by omega)
    have c3:(0:Int)<(i:Int):=by omega
    have c4:0<i:=by omega
    generalize l.getD (i - 1) 0=y at *;by_cases c5:y<x
    ·have c6:¬x≤y:=by omega
     simp -implicitDefEqProofs [hi2,hri,hin,hw,hwm,hrp,c2,c3,c4,c5,c6]
    ·have c6:x≤y:=by omega
     simp -implicitDefEqProofs [hi2,hri,hin,hw,hwm,hrp,c2,c3,c4,c5,c6]
  ·rw [decide_eq_false c1] at hin ⊢
   simp -implicitDefEqProofs [hi2,hri,hin]
 ·simp
 ·unfold dp
  cases kJ (fun i x=>decide (lo≤x∧x≤hi)&&(decide (i=0)||decide (l.getD (i - 1) 0<x))) 0 l<;>simp
theorem gd {d:D} {l:List Int} (hd:RowD d l) (lo hi:Int):cQ [d,I lo,I hi]=some (.ret [B (dp l lo hi)] []):=by
 have hm:=hd.max;rw [tm];simp only [hd.len,Iy];refine aE _ (ju l (fun i=>[d,I lo,I hi,d,I l.length,I i]) (fun i x=>decide (lo≤x∧x≤hi)&&(decide (i=0)||decide (l.getD (i - 1) 0<x))) (.ret [B false] []) (.ext 0 []) (fun i hi'=>?_) ?_ rfl rfl rfl) ?_
 ·have hw:Ix.wrap ((i:Int)+1)=(i:Int)+1:=ai (by omega) (by omega)
  have hwm:Ix.wrap ((i:Int) - 1)=(i:Int) - 1:=ai (by omega) (by omega);have hi2:(i:Int)<(l.length:Int):=by omega
  have hri:=hd.at_ i hi';have hrp:=wF hd lo hi hi';generalize l[i]=x at *;have hin:=lp x lo hi;by_cases c1:lo≤x∧x≤hi
  ·rw [decide_eq_true c1] at hin ⊢
   by_cases c2:i=0
   ·subst c2
    have hri0:aF 1 d (I 0)=some [I x]:=hri;have h0:(0:Nat)<l.length:=hi';have hw1:Ix.wrap 1=1:=by decide
    simp -implicitDefEqProofs [hri0,hin,h0,hw1]
   ·have hrp:=hrp (by omega)
    have c3:(0:Int)<(i:Int):=by omega
    have c4:0<i:=by omega
    generalize l.getD (i - 1) 0=y at *;by_cases c5:y<x
    ·have c6:¬x≤y:=by omega
     simp -implicitDefEqProofs [hi2,hri,hin,hw,hwm,hrp,c2,c3,c4,c5,c6]
    ·have c6:x≤y:=by omega
     simp -implicitDefEqProofs [hi2,hri,hin,hw,hwm,hrp,c2,c3,c4,c5,c6]
  ·rw [decide_eq_false c1] at hin ⊢
   simp -implicitDefEqProofs [hi2,hri,hin]
 ·simp
 ·unfold dp
  cases kJ (fun i x=>decide (lo≤x∧x≤hi)&&(decide (i=0)||decide (l.getD (i - 1) 0<x))) 0 l<;>simp
theorem nU {z:D} {q:List Int} (h:QD z q) (b:Bool):al (.tup [z,B b]) 0=some z∧al (.tup [z,B b]) 1=some (B b):=by
 rcases h with rfl | ⟨rfl,_⟩<;>exact⟨rfl,rfl⟩
set_option maxHeartbeats 1000000 in
theorem oP (right:Bool) (wd ht:Nat) (f:Gr) (hf:GOK wd ht f) (hw8:wd≤8) (hh8:ht≤8) (hw1:1≤wd) (hh1:1≤ht) (l:Ps) (ps:List Pl) (hl:eT l=true) (hp:qv ps) (hch:chG l wd ht none (fun _ _=>-1) ps=some f) :
    ∃z ok,fi [I (wd:Int),I (ht:Int),pcs l,pls ps,B right]=some (.ret [z,B ok] []) ∧
      match (Bj (if right=true then ht else wd)).find? (kI right wd ht f ps.length) with
      | some q=>ok=true∧QD z q
      | none=>ok=false∧z=ints []:=by
  have h8:l.length≤8:=by
    unfold eT at hl;simp only [IE,decide_eq_true_eq] at hl;exact hl.2
  have hcp:=An (ps:=ps) hw1 hw8 hh1 hh8 hl;have hA:=ko (wd:Int) (ht:Int) l ps (by omega) hp;have hcb:gZ (wd:Int) (ht:Int) l ps=true:=by unfold gZ;rw [hcp,hch];rfl
  rw [hcb] at hA;have hG:=lP wd ht hw1 hh1 hw8 hh8 l hl ps hp;rw [hch] at hG;have hF:=fun N hN=>tz right wd ht f hf hw8 hh8 hw1 hh1 ps.length N hN
  have hm8:(if right=true then ht else wd:Nat)≤8:=by split<;>omega
  have core:∀s0:List D,s0=[I (wd:Int),I (ht:Int),pls ps,B right,ints (an wd ht f),I ((if right=true then ht else wd:Nat):Int),D.v (Ja Ix 0)]→∃z ok,((aI (fun s=>(bin BinOp.leq false [] (sl s 6) (sl s 5)).bind fun z=>ifD z ((lenD false (sl s 2)).bind fun z =>
 callK (eK [sl s 4,sl s 0,sl s 1,sl s 5,z,D.arr 0 [],sl s 6,sl s 3]) fun rs _u=>(al (D.tup rs) 0).bind fun z=>(al (D.tup rs) 1).bind fun z_1 =>
 ifD z_1 (some (Out.ret [z,D.v (Jg true)] [])) ((bin BinOp.add false [] (sl s 6) (D.v (Ja Ix 1))).bind fun z=>some (Out.nrm [sl s 0,sl s 1,sl s 2,sl s 3,sl s 4,sl s 5,z])))
 (some (Out.ext 0 []))) s0).bind fun o=>outK o (fun i _u=>ifN (i.beq 0) (some (Out.ret [D.arr 1 [],D.v (Jg false)] [])) none) fun a b=>some (Out.ret a b))=some (.ret [z,B ok] []) ∧
      match (Bj (if right=true then ht else wd)).find? (kI right wd ht f ps.length) with
      | some q=>ok=true∧QD z q
      | none=>ok=false∧z=ints []:=by
    generalize (if right=true then ht else wd:Nat)=most at *;rintro s0 rfl;refine bo (fun r=>∃z ok,r=some (.ret [z,B ok] [])∧match (Bj most).find? (kI right wd ht f ps.length) with
      | some q=>ok=true∧QD z q
      | none=>ok=false∧z=ints []) (fun n:Nat=>[I (wd:Int),I (ht:Int),pls ps,B right,ints (an wd ht f),I (most:Int),I (n:Int)])
      (fun n=>n≤most+1∧(Bj most).find? (kI right wd ht f ps.length)=((IV n (most+1 - n)).flatMap fun m:Nat=>qM most m []).find? (kI right wd ht f ps.length)) (fun n=>most+1 - n)
      (fun o=>(o = .ext 0 []∧(Bj most).find? (kI right wd ht f ps.length)=none)∨∃z' q',o = .ret [z',B true] []∧(Bj most).find? (kI right wd ht f ps.length)=some q'∧QD z' q') (fun k hk=>?_) 0 ⟨IU _,rfl⟩ rfl (fun o ho=>?_)
    · obtain⟨k1,k2⟩:=hk
      by_cases hlt:k<most+1
      · have hlt':(k:Int)≤(most:Int):=by omega
        have hwk:Ix.wrap ((k:Int)+1)=(k:Int)+1:=ai (by omega) (by omega);obtain⟨z',ok,g1,g2⟩:=hF k (by omega);rw [sT hlt,List.flatMap_cons,List.find?_append] at k2;cases hfd:(qM most k []).find? (kI right wd ht f ps.length) with
        | none =>
          rw [hfd] at g2 k2;obtain⟨g2,q',g3⟩:=g2;subst g2;obtain⟨t0,t1⟩:=nU g3 false;refine .inl ⟨k+1,?_,⟨by omega,by simpa using k2⟩,by omega⟩
          simp -implicitDefEqProofs [hlt',g1,hwk,t0,t1,-aA]
        | some q' =>
          rw [hfd] at g2 k2;obtain⟨g2,g3⟩:=g2;subst g2;obtain⟨t0,t1⟩:=nU g3 true;refine .inr ⟨.ret [z',B true] [],?_,rfl,.inr ⟨z',q',rfl,by simpa using k2,g3⟩⟩
          simp -implicitDefEqProofs [hlt',g1,t0,t1,-aA]
      · have hlt':¬(k:Int)≤(most:Int):=by omega
        refine .inr ⟨.ext 0 [],?_,rfl,.inl ⟨rfl,?_⟩⟩
        · simp -implicitDefEqProofs [hlt']
        · rw [k2,show most+1 - k=0 by omega]
          rfl
    · rcases ho with ⟨rfl,h2⟩ | ⟨z',q',rfl,h2,h3⟩
      · rw [h2]
        exact⟨.arr 1 [],false,by simp,rfl,rfl⟩
      · rw [h2]
        exact⟨z',true,by simp,rfl,h3⟩
  have hgt:al (D.tup [ints (an wd ht f),B true]) 0=some (ints (an wd ht f))∧al (bS (D.tup [ints (an wd ht f),B true]) 0) 1=some (B true):=⟨rfl,rfl⟩
  rw [kO];simp -implicitDefEqProofs only [hA,hG,iD,aN,bA,kz,Bool.not_true,Iy,dv,IM,if_false,hgt.1,hgt.2];cases right
  · rw [if_neg (by simp)]
    exact core _ rfl
  · rw [if_pos rfl]
    exact core _ rfl
end Go.Proofs.Ytccaheogjpfhjaa

namespace Go.Proofs.Ytccaheogjpfhjaa
open Go.V
set_option maxRecDepth 100000
@[reducible] def od:Cx:={K:=[Y,Y,Yc,Yc,Yc,Yc,.no,.no,.no,.no,.no,.no,Yb,Y,Yb,Y,.tup [Yb,Y],Y,Y,Yc,Yc,.tup [Yb,Y],Yb,Y,Yb,Y,Y,Yc,Y,Y,Y,Y,Y,Yc,Y,Y,Y,Y],T:=[(3,ty3),(46,Do)],S:=[(30,bL),(31,fD)],H:=[],res:=[.tmp 12,.tmp 13],ios:=[],G:=gl0}
def gX:List D→Option Out:=bD od Try.f26
@[reducible] def nF:FS:={pm:=[Y,Y,Yc,Yc,Yc,Yc],rm:=[Yb,Y],f:=gX}
theorem uM:ay gl0 Try.prog 26 nF:=aG (c:=od) (ac dg (ac iM aw)) Try.func26 rfl rfl (by kernel_rfl)
@[reducible] def qU:Cx:={K:=[Yc,Yc,Yc,Yc,.no,.no,.no,.no,Yo 1 0,Yb,Yb,Yo 1 0,.no,.box 4 0 false,Yc,Yc,Yb,Yc,Yb,Yc,Yb,Yo 1 0,Yc,Y,Y,Y,Yc,Y,Yb,Yr 13,Y,Y,Y,Y,Yb,Yr 13,Y,Y,Y,Y,Yo 1 0,Yr 13,Y,Yb,Yo 1 0,Y,Yo 1 0],T:=[(3,ty3),(4,ty4),(25,sq),(26,dH),(34,rS),(55,Gy)],S:=[(33,fe),(38,eR)],H:=[(0,([9,10,11,22,23,24],[11]))],res:=[.tmp 8],ios:=[],G:=gl0}
def jV:List D→Option Out:=bD qU Try.f27
@[reducible] def rb:FS:={pm:=[Yc,Yc,Yc,Yc],rm:=[Yo 1 0],f:=jV}
theorem xK:ay gl0 Try.prog 27 rb:=aG (c:=qU) (ac gS (ac iZ aw)) Try.func27 rfl rfl (by kernel_rfl)
@[reducible] def kl:Cx:={K:=[Y,Y,Yc,Yc,Yc,Yc,.no,.no,.no,.no,.no,.no,Yo 1 0,Y,Yb,Y,.tup [Yb,Y],Y,Y,Yc,Yc,Yc,Yc,.tup [Yb,Y],Yb,Y,Y,Y,Yo 1 0,Yb,Yc,Yc,Yc,Yo 1 0],T:=[(3,ty3),(26,dH)],S:=[(26,nF),(27,rb)],H:=[],res:=[.tmp 12,.tmp 13],ios:=[],G:=gl0}
def bQ:List D→Option Out:=bD kl Try.f6
@[reducible] def kV:FS:={pm:=[Y,Y,Yc,Yc,Yc,Yc],rm:=[Yo 1 0,Y],f:=bQ}
theorem qg:ay gl0 Try.prog 6 kV:=aG (c:=kl) (ac uM (ac xK aw)) Try.func6 rfl rfl (by kernel_rfl)
@[reducible] def gz:Cx:={K:=[Y,Y,Yc,Yc,Yc,.no,.no,.no,.no,.no,Yo 1 0,Y,Yb,Y,.tup [Yb,Y],Y,Y,Yc,Yc,.tup [Yb,Y],Yb,Y,Y,Y,Y,Yc,Y,Y,Y,Y,Y,Yo 1 0,Yb,Yc,Yb,Yo 1 0],T:=[(3,ty3),(26,dH)],S:=[(30,bL),(31,fD),(32,dM),(33,fe)],H:=[],res:=[.tmp 10,.tmp 11],ios:=[],G:=gl0}
def bf:List D→Option Out:=bD gz Try.f8
@[reducible] def gy:FS:={pm:=[Y,Y,Yc,Yc,Yc],rm:=[Yo 1 0,Y],f:=bf}
theorem mo:ay gl0 Try.prog 8 gy:=aG (c:=gz) (ac dg (ac iM (ac fa (ac gS aw)))) Try.func8 rfl rfl (by kernel_rfl)
@[reducible] def gM:Cx:={K:=[Y,Y,Yc,Yc,Yc,.no,.no,.no,.no,.no,Yo 1 0,Y,Yb,Y,.tup [Yb,Y],Y,Y,Yc,Yc,.tup [Yb,Y],Yb,Y,Y,Y,Y,Yc,Y,Y,Y,Y,Y,Yo 1 0,Yb,Yb,Yc,Yb,Yo 1 0],T:=[(3,ty3),(26,dH)],S:=[(30,bL),(31,fD),(32,dM),(33,fe),(38,eR)],H:=[],res:=[.tmp 10,.tmp 11],ios:=[],G:=gl0}
def bU:List D→Option Out:=bD gM Try.f10
@[reducible] def gJ:FS:={pm:=[Y,Y,Yc,Yc,Yc],rm:=[Yo 1 0,Y],f:=bU}
theorem mn:ay gl0 Try.prog 10 gJ:=aG (c:=gM) (ac dg (ac iM (ac fa (ac gS (ac iZ aw))))) Try.func10 rfl rfl (by kernel_rfl)
@[reducible] def jn:Cx:={K:=[Y,Y,Yc,Yc,Y,.no,.no,.no,.no,.no,Yo 1 0,Y,Yb,Y,.tup [Yb,Y],Y,Y,Yc,Yc,.tup [Yb,Y],Yb,Y,Y,Y,Y,Yc,Y,Y,Y,Y,Yo 1 0,Yb,Y,Yb,Yo 1 0],T:=[(3,ty3),(26,dH)],S:=[(30,bL),(32,dM),(40,iT),(41,kD)],H:=[],res:=[.tmp 10,.tmp 11],ios:=[],G:=gl0}
def dK:List D→Option Out:=bD jn Try.f14
@[reducible] def jj:FS:={pm:=[Y,Y,Yc,Yc,Y],rm:=[Yo 1 0,Y],f:=dK}
theorem nV:ay gl0 Try.prog 14 jj:=aG (c:=jn) (ac dg (ac fa (ac mb (ac og aw)))) Try.func14 rfl rfl (by kernel_rfl)
@[reducible] def kx:Cx:={K:=[Y,Y,Yc,Yc,Y,.no,.no,.no,.no,.no,Yo 1 0,Y,Yb,Y,.tup [Yb,Y],Y,Y,Yc,Yc,.tup [Yb,Y],Yb,Y,Y,Y,Y,Yc,Y,Y,Y,Y,Yo 1 0,Yb,Yb,Y,Yb,Yo 1 0],T:=[(3,ty3),(26,dH)],S:=[(30,bL),(32,dM),(38,eR),(40,iT),(41,kD)],H:=[],res:=[.tmp 10,.tmp 11],ios:=[],G:=gl0}
def eE:List D→Option Out:=bD kx Try.f16
@[reducible] def kg:FS:={pm:=[Y,Y,Yc,Yc,Y],rm:=[Yo 1 0,Y],f:=eE}
theorem qi:ay gl0 Try.prog 16 kg:=aG (c:=kx) (ac dg (ac fa (ac iZ (ac mb (ac og aw))))) Try.func16 rfl rfl (by kernel_rfl)
@[reducible] def jJ:Cx:={K:=[Yc,Y,.no,.no,Yb,Y,.no,Yb,Yc,Y,Yb,Y,Y,Y,Yb,Yb,Yc,Yb,Yb,Y,Y,Y,Yb,Y,Yb],T:=[(3,ty3),(26,dH),(46,Do),(55,Gy)],S:=[(33,fe),(64,lh)],H:=[(0,([0,1,10,11,12],[]))],res:=[.tmp 4,.tmp 5],ios:=[],G:=gl0}
def cV:List D→Option Out:=bD jJ Try.f44
@[reducible] def fP:FS:={pm:=[Yc,Y],rm:=[Yb,Y],f:=cV}
theorem jH:ay gl0 Try.prog 44 fP:=aG (c:=jJ) (ac gS (ac uV aw)) Try.func44 rfl rfl (by kernel_rfl)
@[reducible] def lu:Cx:={K:=[Y,Y,Yc,Yc,.no,.no,.no,.no,Yb,Y,Yb,Y,.tup [Yb,Y],Y,Y,Yc,Yc,.tup [Yb,Y],Yb,Y,Y,Y,Yb,Yb,Yc,Y,.tup [Yb,Y],Yb,Y],T:=[(3,ty3),(25,sq),(26,dH),(34,rS)],S:=[(30,bL),(44,fP)],H:=[],res:=[.tmp 8,.tmp 9],ios:=[],G:=gl0}
def cK:List D→Option Out:=bD lu Try.f19
@[reducible] def lH:FS:={pm:=[Y,Y,Yc,Yc],rm:=[Yb,Y],f:=cK}
theorem qF:ay gl0 Try.prog 19 lH:=aG (c:=lu) (ac dg (ac jH aw)) Try.func19 rfl rfl (by kernel_rfl)
@[reducible] def fK:Cx:={K:=[Y,Y,Yc,Yc,.no,.no,.no,.no,Yb,Y,Yb,Y,.tup [Yb,Y],Y,Y,Yc,Yc,.tup [Yb,Y],Yb,Y,Y,Y,Yb,Yb,Yb,Yc,Y,.tup [Yb,Y],Yb,Y],T:=[(3,ty3),(25,sq),(26,dH),(34,rS)],S:=[(30,bL),(38,eR),(44,fP)],H:=[],res:=[.tmp 8,.tmp 9],ios:=[],G:=gl0}
def bn:List D→Option Out:=bD fK Try.f21
@[reducible] def fL:FS:={pm:=[Y,Y,Yc,Yc],rm:=[Yb,Y],f:=bn}
theorem lj:ay gl0 Try.prog 21 fL:=aG (c:=fK) (ac dg (ac iZ (ac jH aw))) Try.func21 rfl rfl (by kernel_rfl)
@[reducible] def kn:Cx:={K:=[Yc,Yc,.no,.no,Y,Y,Y,Yb,Yb,Yc,Yc,Yb,Y,Yb,Y,Yb,Y,Yc,Y,Yb,Y,Yc,Y,.no,.box 4 0 false,Yb,Y,Yc,Y,Yb,Y,Yc,Y,.no,Y,.no,Y,Y,Y,Yb,Yb,Yb,Y,Yc,Y,Yb,Y,Yc,Y,Yb,Y,Yb,Y,Yc,Yc,Y,.tup [Y,Y,Yb,Yb,Yc,Yc],Yc,.tup [Y,Y,Yb,Yb,Yc,Yc],Y,Y,Yb,Yb,Yc,Yc,.tup [Yo 1 0,Y],Y,Y,Yb,Yb,Yc,Yc,.tup [Yo 1 0,Y],Yb,Y,.tup [Yo 1 0,Y],Y,Y,Yb,Yb,Yc,Yc,.tup [Yo 1 0,Y],Yb,Y,.tup [Yo 1 0,Y],Y,Y,Yb,Yb,Yc,.tup [Yo 1 0,Y],Yb,Y,.tup [Yc,Y],Y,Y,Yb,Yb,Yc,.tup [Yc,Y],Yc,Y,.tup [Yo 1 0,Y],Y,Y,Yb,Yb,Yc,.tup [Yo 1 0,Y],Yb,Y,.tup [Yc,Y],Y,Y,Yb,Yb,Yc,.tup [Yc,Y],Yc,Y,Y,Y,Y,Y,Yb,Yb,Y,Y,Y,Y,Y,Y,Y,Y,Y,Yb,Yc,Y,Y,Y,Y,Y,Y,Y,Y,Y,Yb,Yc,Y,Y,Y,Y,Y,Y,Y,Y,Y,Y,Y,Y,Yb,Y,Y,Y,Yb,Y,Yb,Yr 24,Y,Y,Yc,Yr 24,Y,Y,Y,Y,Yc,Yr 24,Y,Y,Y,Y,Y,.tup [Yo 1 0,Y],Y,Y,Yb,Yb,Yr 24,Y,.tup [Yo 1 0,Y],Yb,Y,.tup [Yc,Y],Y,Y,Yb,Yb,Yr 24,Y,.tup [Yc,Y],Yc,Y,.tup [Yo 1 0,Y],Y,Y,Yb,Yb,Yr 24,Y,.tup [Yo 1 0,Y],Yb,Y,.tup [Yc,Y],Y,Y,Yb,Yb,Yr 24,Y,.tup [Yc,Y],Yc,Y,Y,Y,Y,Y,Y,Y,Y,Yb,Yc,Y,Y,Y,Y,Y,Y,Y,Y,Y,Y,Y,Y,Yb,Yc,Y,Y,Y,Yc,Y,Y,Y,Yc,Y,Yc,Y,Y,Y,Yc,Yr 24,Y,Y,Y,Y,Y,Yc,Y,Y,Y,Yc,Y,Yc,Y,Y,Y,Yc,Yr 24,Y,Y,Y,Y,Y,Y,.tup [Y,Y,Yo 2 0,Yo 4 0],Yc,.tup [Y,Y,Yo 2 0,Yo 4 0],Y,Y,Yb,Yb,.tup [Yb,Y],Y,Y,Yb,Yb,.tup [Yb,Y],Yb,Y,.tup [Yc,Y],Y,Y,Yb,Yb,.tup [Yc,Y],Yc,Y,.tup [Yb,Y],Y,Y,Yb,Yb,.tup [Yb,Y],Yb,Y,.tup [Yc,Y],Y,Y,Yb,Yb,.tup [Yc,Y],Yc,Y,Y,Y,Y,Y,Yb,Yc,Y,Y,Y,Y,Y,Y,Y,Y,Y,Yb,Yc,Y,Y,Y,Y,.tup [Yo 1 0,Y],Y,Y,Yb,Yb,Yb,.tup [Yo 1 0,Y],Yb,Y,Y,Y,Y,Yb,Y,Yb,Y,Y,Y,Y,Y,Y,Y,.tup [Yo 1 0,Y],Y,Y,Yb,Yb,Yb,Yb,.tup [Yo 1 0,Y],Yb,Y,Y,Y,Yb,Y,Y,Y],T:=[(3,ty3),(4,ty4),(25,sq),(26,dH),(34,rS)],S:=[(4,vH),(5,ip),(6,kV),(7,kR),(8,gy),(9,gN),(10,gJ),(11,gH),(12,np),(13,uU),(14,jj),(15,jh),(16,kg),(17,kN),(18,iK),(19,lH),(20,il),(21,fL),(22,dz)],H:=[(0,([1,5,6,7,8,13,17,21,161,162,163],[1])),(2,([1,5,6,7,8,13,17,21,24,31,161,162,163,250,251,252],[1,5,6,7,8,13,17,21,24,31,161,162,163])),(4,([1,5,6,7,8,13,17,21,24,161,162,163,267,268,269],[1,5,6,7,8,13,17,21,161,162,163]))],res:=[.tmp 4],ios:=[],G:=gl0}
@[reducible] def ky:List (Nat × List Nat):=[(2047,[1]),(262143,[37,38,39,40,41,42,45,46])]
def eD:List D→Option Out:=sW kn ky Try.f3
@[reducible] def gn:FS:={pm:=[Yc,Yc],rm:=[Y],f:=eD}
theorem qo:ay gl0 Try.prog 3 gn:=CP (J:=ky) (P:=Try.prog) (c:=kn) (fn:=Try.f3) (pm:=gn.pm) (rm:=gn.rm) (by kernel_rfl) (ac Bh (ac mR (ac qg (ac qq (ac mo (ac mr (ac mn (ac mf (ac tc (ac AZ (ac nV (ac om (ac qi (ac qr (ac nz (ac qF (ac lA (ac lj (ac fJ aw))))))))))))))))))) fV (by kernel_rfl) Try.func3 (by kernel_rfl) (by kernel_rfl) rfl
open Go Go.V
set_option maxRecDepth 100000
theorem oG (x0 x1 x2 x3 x4 x5:D):gX [x0,x1,x2,x3,x4,x5]=(callK (gY [x0,x1,x2,x3]) fun c _=>(al (.tup c) 0).bind fun z=>(al (.tup c) 1).bind fun d=>(aj (.tup []) d true (some x4)).bind fun g=>(aj (.tup []) d true (some x1)).bind fun h=>(aj (.tup []) d true (bin .sub false [] h (I 1))).bind fun j=>cd d true (callK (cA [g,I 0,j]) fun c _=>some (.nrm [sl c 0])) [.tup []] fun f=>(aJ d (sl f 0) (B false)).bind fun e=>(aj (.tup []) e true (some x5)).bind fun k=>(aj (.tup []) e true (some x0)).bind fun l=>(aj (.tup []) e true (bin .sub false [] l (I 1))).bind fun m=>cd e true (callK (cA [k,I 0,m]) fun c _=>some (.nrm [sl c 0])) [.tup []] fun f=>(aJ e (sl f 0) (B false)).bind fun n=>some (.ret [z,n] [])):=by kernel_rfl
theorem xw (x0 x1 x2 x3:D):jV [x0,x1,x2,x3]=(callK (cE [x0,x2]) fun c _=>callK (ja [x0]) fun d _=>callK (cE [sl d 0,x3]) fun e _=>(aW 1 []).bind fun a=>(lenD false x1).bind fun z=>(aI (fun s=>(bin .lss false [] (sl s 5) (sl s 4)).bind fun z=>ifD z ((Jd D.ptr (aF 4 (sl s 3) (sl s 5))).bind fun z=>((ldD true 4 z).bind bE).bind fun z=>(stD 4 (.agg [I 0,I 0,I 0,B false]) (.ref 0 0) z).bind fun b=>(ab b (.ref 0 0)).bind fun z=>((atD b z).bind (aD false 1)).bind fun z=>(lkD (sl s 0) z).bind fun z=>(un .not z).bind fun z=>(aj (.tup []) z false (some (sl s 1))).bind fun f=>(aj D.bad z false (ab b (.ref 0 0))).bind fun g=>(aj (.tup []) z false ((atD b g).bind (aD false 1))).bind fun h=>(aj (.tup []) z false (lkD f h)).bind fun j=>(aj (.tup []) z false (un .not j)).bind fun k=>(aJ z (B true) k).bind fun z=>ifD z ((ab b (.ref 0 0)).bind fun z=>((atD b z).bind (aD false 1)).bind fun z=>(aW 1 [z]).bind fun a=>(gT a).bind fun b=>(ew 1 8 (sl s 2) b).bind fun y=>(bin .add false [] (sl s 5) (I 1)).bind fun z=>some (.nrm [sl s 0,sl s 1,y,sl s 3,sl s 4,z])) ((bin .add false [] (sl s 5) (I 1)).bind fun z=>some (.nrm [sl s 0,sl s 1,sl s 2,sl s 3,sl s 4,z]))) (some (.ext 0 [sl s 2]))) [sl c 0,sl e 0,a,x1,z,I 0]).bind fun o=>outK o (fun i s=>ifN (i.beq 0) (some (.ret [sl s 0] [])) none) fun a b=>some (.ret a b)):=by kernel_rfl
theorem gr (x0 x1 x2 x3 x4 x5:D):bQ [x0,x1,x2,x3,x4,x5]=(callK (gX [x0,x1,x2,x3,x4,x5]) fun c _=>(al (.tup c) 0).bind fun z=>(al (.tup c) 1).bind fun d=>(un .not d).bind fun e=>ifD e ((aW 1 []).bind fun a=>some (.ret [a,B false] [])) (callK (jV [z,x3,x4,x5]) fun c _=>some (.ret [sl c 0,B true] []))):=by kernel_rfl
theorem eo (x0 x1 x2 x3 x4:D):bf [x0,x1,x2,x3,x4]=(callK (gY [x0,x1,x2,x3]) fun c _=>(al (.tup c) 0).bind fun z=>(al (.tup c) 1).bind fun e=>(un .not e).bind fun d=>(aj (.tup []) d false (some x4)).bind fun f=>(aj (.tup []) d false (some x1)).bind fun g=>(aj (.tup []) d false (bin .sub false [] g (I 1))).bind fun h=>cd d false (callK (cA [f,I 0,h]) fun c _=>some (.nrm [sl c 0])) [.tup []] fun j=>(aj (.tup []) d false (un .not (sl j 0))).bind fun k=>(aJ d (B true) k).bind fun l=>ifD l ((aW 1 []).bind fun a=>some (.ret [a,B false] [])) (callK (cE [z,x4]) fun c _=>callK (pL [sl c 0]) fun c _=>some (.ret [sl c 0,B true] []))):=by kernel_rfl
theorem ek (x0 x1 x2 x3 x4:D):bU [x0,x1,x2,x3,x4]=(callK (gY [x0,x1,x2,x3]) fun c _=>(al (.tup c) 0).bind fun z=>(al (.tup c) 1).bind fun e=>(un .not e).bind fun d=>(aj (.tup []) d false (some x4)).bind fun f=>(aj (.tup []) d false (some x0)).bind fun g=>(aj (.tup []) d false (bin .sub false [] g (I 1))).bind fun h=>cd d false (callK (cA [f,I 0,h]) fun c _=>some (.nrm [sl c 0])) [.tup []] fun j=>(aj (.tup []) d false (un .not (sl j 0))).bind fun k=>(aJ d (B true) k).bind fun l=>ifD l ((aW 1 []).bind fun a=>some (.ret [a,B false] [])) (callK (ja [z]) fun c _=>callK (cE [sl c 0,x4]) fun c _=>callK (pL [sl c 0]) fun c _=>some (.ret [sl c 0,B true] []))):=by kernel_rfl
theorem nW (x0 x1 x2 x3 x4:D):dK [x0,x1,x2,x3,x4]=(callK (gY [x0,x1,x2,x3]) fun c _=>(al (.tup c) 0).bind fun z=>(al (.tup c) 1).bind fun e=>(un .not e).bind fun d=>(aj (.tup []) d false (some x3)).bind fun f=>(aj (.tup []) d false (some x4)).bind fun g=>cd d false (callK (ee [f,g]) fun c _=>some (.nrm [sl c 0])) [.tup []] fun h=>(aj (.tup []) d false (un .not (sl h 0))).bind fun j=>(aJ d (B true) j).bind fun k=>ifD k ((aW 1 []).bind fun a=>some (.ret [a,B false] [])) (callK (fh [z,x4]) fun c _=>callK (pL [sl c 0]) fun c _=>some (.ret [sl c 0,B true] []))):=by kernel_rfl
theorem qn (x0 x1 x2 x3 x4:D):eE [x0,x1,x2,x3,x4]=(callK (gY [x0,x1,x2,x3]) fun c _=>(al (.tup c) 0).bind fun z=>(al (.tup c) 1).bind fun e=>(un .not e).bind fun d=>(aj (.tup []) d false (some x3)).bind fun f=>(aj (.tup []) d false (some x4)).bind fun g=>cd d false (callK (ee [f,g]) fun c _=>some (.nrm [sl c 0])) [.tup []] fun h=>(aj (.tup []) d false (un .not (sl h 0))).bind fun j=>(aJ d (B true) j).bind fun k=>ifD k ((aW 1 []).bind fun a=>some (.ret [a,B false] [])) (callK (ja [z]) fun c _=>callK (fh [sl c 0,x4]) fun c _=>callK (pL [sl c 0]) fun c _=>some (.ret [sl c 0,B true] []))):=by kernel_rfl
theorem pE (x0 x1:D):cV [x0,x1]=((lenD false x0).bind fun z=>callK (mE [z]) fun c _=>(lenD false (sl c 0)).bind fun z=>(aI (fun s=>(bin .lss false [] (sl s 4) (sl s 3)).bind fun z=>ifD z ((Jd D.ptr (aF 1 (sl s 2) (sl s 4))).bind fun z=>(ldD false 1 z).bind fun z=>callK (cE [sl s 0,z]) fun c _=>(Gv (sl c 0)).bind fun d=>(bin .eql false [] d (sl s 1)).bind fun e=>ifD e (some (.ret [z,B true] [])) ((bin .add false [] (sl s 4) (I 1)).bind fun z=>some (.nrm [sl s 0,sl s 1,sl s 2,sl s 3,z]))) (some (.ext 0 []))) [x0,x1,sl c 0,z,I 0]).bind fun o=>outK o (fun i _=>ifN (i.beq 0) ((aW 1 []).bind fun a=>some (.ret [a,B false] [])) none) fun a b=>some (.ret a b)):=by kernel_rfl
theorem lJ (x0 x1 x2 x3:D):cK [x0,x1,x2,x3]=(callK (gY [x0,x1,x2,x3]) fun c _=>(al (.tup c) 0).bind fun z=>(al (.tup c) 1).bind fun d=>(un .not d).bind fun e=>ifD e ((aW 1 []).bind fun a=>some (.ret [a,B false] [])) ((lenD false x3).bind fun f=>callK (cV [z,f]) fun c _=>(al (.tup c) 0).bind fun z=>(al (.tup c) 1).bind fun g=>some (.ret [z,g] []))):=by kernel_rfl
theorem fI (x0 x1 x2 x3:D):bn [x0,x1,x2,x3]=(callK (gY [x0,x1,x2,x3]) fun c _=>(al (.tup c) 0).bind fun z=>(al (.tup c) 1).bind fun d=>(un .not d).bind fun e=>ifD e ((aW 1 []).bind fun a=>some (.ret [a,B false] [])) (callK (ja [z]) fun c _=>(lenD false x3).bind fun z=>callK (cV [sl c 0,z]) fun c _=>(al (.tup c) 0).bind fun z=>(al (.tup c) 1).bind fun f=>some (.ret [z,f] []))):=by kernel_rfl
theorem qe (x0 x1:D):eD [x0,x1]=(callK (nb [x0,x1]) fun c _=>ifD (sl c 0) (some (.ret [B true] [])) (callK (cW [x0]) fun c _=>(al (.tup c) 0).bind fun z=>(al (.tup c) 1).bind fun k=>(al (.tup c) 2).bind fun l=>(al (.tup c) 3).bind fun g=>(al (.tup c) 4).bind fun zh=>(al (.tup c) 5).bind fun zi=>callK (bQ [z,k,l,g,zh,zi]) fun c _=>(al (.tup c) 0).bind fun y=>(al (bS (.tup c) 0) 1).bind fun zm=>callK (dq [z,k,l,g,zh,zi]) fun c _=>(al (.tup c) 0).bind fun y_1=>(al (bS (.tup c) 0) 1).bind fun z_7=>callK (bf [z,k,l,g,zh]) fun c _=>(al (.tup c) 0).bind fun y_2=>(al (bS (.tup c) 0) 1).bind fun z_8=>callK (bT [z,k,l,g,zh]) fun c _=>(al (.tup c) 0).bind fun z_9=>(al (.tup c) 1).bind fun z_10=>callK (bU [z,k,l,g,zi]) fun c _=>(al (.tup c) 0).bind fun y_3=>(al (bS (.tup c) 0) 1).bind fun z_11=>callK (bZ [z,k,l,g,zi]) fun c _=>(al (.tup c) 0).bind fun z_12=>(al (.tup c) 1).bind fun z_13=>(bin .neq true [] zm z_7).bind fun u=>(aj (.tup []) u false (some y)).bind fun z_15=>(aj (.tup []) u false (some y_1)).bind fun z_16=>cd u false (callK (bd [z_15,z_16]) fun c _=>some (.nrm [sl c 0])) [.tup []] fun d=>(aj (.tup []) u false (un .not (sl d 0))).bind fun z_17=>(aJ u (B true) z_17).bind fun zj=>(aj (.tup []) zj false (some z_8)).bind fun z_19=>(aj (.tup []) zj false (some z_10)).bind fun z_20=>(aj (.tup []) zj false (bin .neq true [] z_19 z_20)).bind fun z_21=>(aJ zj (B true) z_21).bind fun v=>(aj (.tup []) v false (some y_2)).bind fun z_23=>(aj (.tup []) v false (some z_9)).bind fun z_24=>cd v false (callK (bd [z_23,z_24]) fun c _=>some (.nrm [sl c 0])) [.tup []] fun d=>(aj (.tup []) v false (un .not (sl d 0))).bind fun z_25=>(aJ v (B true) z_25).bind fun zk=>(aj (.tup []) zk false (some z_11)).bind fun z_27=>(aj (.tup []) zk false (some z_13)).bind fun z_28=>(aj (.tup []) zk false (bin .neq true [] z_27 z_28)).bind fun z_29=>(aJ zk (B true) z_29).bind fun w=>(aj (.tup []) w false (some y_3)).bind fun z_31=>(aj (.tup []) w false (some z_12)).bind fun z_32=>cd w false (callK (bd [z_31,z_32]) fun c _=>some (.nrm [sl c 0])) [.tup []] fun d=>(aj (.tup []) w false (un .not (sl d 0))).bind fun z_33=>(aJ w (B true) z_33).bind fun p=>(aj (.tup []) p false (some zm)).bind fun z_35=>(aj (.tup []) p false (some z_8)).bind fun z_36=>(aj (.tup []) p false (some z_36)).bind fun z_37=>(aj (.tup []) z_37 true (some z_11)).bind fun z_38=>(aj (.tup []) p false (aJ z_37 z_38 (B false))).bind fun z_39=>(aj (.tup []) p false (bin .neq true [] z_35 z_39)).bind fun z_40=>(aJ p (B true) z_40).bind fun z_41=>ifD z_41 (some (.ret [B false] [])) (uT (fun j=>ifD zm ((lenD false g).bind fun h=>(aI (fun s=>(bin .lss false [] (sl s 10) (sl s 9)).bind fun z=>ifD z ((Jd D.ptr (aF 4 (sl s 8) (sl s 10))).bind fun z=>((ldD true 4 z).bind bE).bind fun z=>(stD 4 (.agg [I 0,I 0,I 0,B false]) (.ref 0 0) z).bind fun b=>(ab b (.ref 0 0)).bind fun z=>((atD b z).bind (aD false 1)).bind fun z=>callK (dS [sl s 5,z]) fun c _=>(ab b (.ref 0 0)).bind fun z=>((atD b z).bind (aD false 1)).bind fun z=>callK (dS [sl s 6,z]) fun rs_1 _=>(un .not (sl rs_1 0)).bind fun z=>(aj (.tup []) z false (some (sl s 7))).bind fun q=>(aj D.bad z false (ab b (.ref 0 0))).bind fun r=>(aj (.tup []) z false ((atD b r).bind (aD false 1))).bind fun zn=>cd z false (callK (dS [q,zn]) fun c _=>some (.nrm [sl c 0])) [.tup []] fun d=>(aj (.tup []) z false (un .not (sl d 0))).bind fun zo=>(aJ z (B true) zo).bind fun z=>(bin .neq true [] (sl c 0) z).bind fun z=>ifD z (some (.ret [B false] [])) ((ab b (.ref 0 0)).bind fun z=>((atD b z).bind (aD false 1)).bind fun z=>callK (dK [sl s 1,sl s 2,sl s 3,sl s 4,z]) fun c _=>(al (.tup c) 0).bind fun y=>(al (bS (.tup c) 0) 1).bind fun z=>(ab b (.ref 0 0)).bind fun za=>((atD b za).bind (aD false 1)).bind fun zb=>callK (dC [sl s 1,sl s 2,sl s 3,sl s 4,zb]) fun c _=>(al (.tup c) 0).bind fun zc=>(al (.tup c) 1).bind fun zp=>(ab b (.ref 0 0)).bind fun m=>((atD b m).bind (aD false 1)).bind fun zq=>callK (eE [sl s 1,sl s 2,sl s 3,sl s 4,zq]) fun c _=>(al (.tup c) 0).bind fun e=>(al (bS (.tup c) 0) 1).bind fun zr=>(ab b (.ref 0 0)).bind fun zs=>((atD b zs).bind (aD false 1)).bind fun t=>callK (eF [sl s 1,sl s 2,sl s 3,sl s 4,t]) fun c _=>(al (.tup c) 0).bind fun zl=>(al (.tup c) 1).bind fun zt=>(un .not z).bind fun z=>(aj (.tup []) z false (some zp)).bind fun zu=>(aj (.tup []) z false (un .not zu)).bind fun n=>(aJ z (B true) n).bind fun z=>(aj (.tup []) z false (some y)).bind fun zv=>(aj (.tup []) z false (some zc)).bind fun zw=>cd z false (callK (bd [zv,zw]) fun c _=>some (.nrm [sl c 0])) [.tup []] fun d=>(aj (.tup []) z false (un .not (sl d 0))).bind fun z_62=>(aJ z (B true) z_62).bind fun z=>(aj (.tup []) z false (some zr)).bind fun z_63=>(aj (.tup []) z false (un .not z_63)).bind fun zd=>(aJ z (B true) zd).bind fun z=>(aj (.tup []) z false (some zt)).bind fun f=>(aj (.tup []) z false (un .not f)).bind fun ze=>(aJ z (B true) ze).bind fun z=>(aj (.tup []) z false (some e)).bind fun z_67=>(aj (.tup []) z false (some zl)).bind fun z_68=>cd z false (callK (bd [z_67,z_68]) fun c _=>some (.nrm [sl c 0])) [.tup []] fun d=>(aj (.tup []) z false (un .not (sl d 0))).bind fun z_69=>(aJ z (B true) z_69).bind fun z=>ifD z (some (.ret [B false] [])) ((lenD false zc).bind fun z=>(aI (fun s=>(bin .lss false [] (sl s 15) (sl s 14)).bind fun z=>ifD z ((Jd D.ptr (aF 1 (sl s 13) (sl s 15))).bind fun z=>((ldD false 1 z).bind bE).bind fun z=>callK (dS [sl s 6,z]) fun c _=>(aj (.tup []) (sl c 0) true (some (sl s 6))).bind fun z=>(aj D.bad (sl c 0) true (ab (sl s 8) (.ref 0 0))).bind fun zf=>(aj (.tup []) (sl c 0) true ((atD (sl s 8) zf).bind (aD false 1))).bind fun zg=>cd (sl c 0) true (callK (dS [z,zg]) fun c _=>some (.nrm [sl c 0])) [.tup []] fun d=>(aj (.tup []) (sl c 0) true (un .not (sl d 0))).bind fun z=>(aJ (sl c 0) z (B false)).bind fun z=>ifD z (some (.ret [B false] [])) ((bin .add false [] (sl s 15) (I 1)).bind fun z=>some (.nrm [sl s 0,sl s 1,sl s 2,sl s 3,sl s 4,sl s 5,sl s 6,sl s 7,sl s 8,sl s 9,sl s 10,sl s 11,sl s 12,sl s 13,sl s 14,z]))) (some (.ext 2 [sl s 0,sl s 1,sl s 2,sl s 3,sl s 4,sl s 5,sl s 6,sl s 7,sl s 8,sl s 9,sl s 10,sl s 11,sl s 12]))) [sl s 0,sl s 1,sl s 2,sl s 3,sl s 4,sl s 5,sl s 6,sl s 7,b,zl,sl s 8,sl s 9,sl s 10,zc,z,I 0]).bind fun o=>outK o (fun i s=>ifN (i.beq 2) ((lenD false (sl s 9)).bind fun z=>(aI (fun s=>(bin .lss false [] (sl s 14) (sl s 13)).bind fun z=>ifD z ((Jd D.ptr (aF 1 (sl s 12) (sl s 14))).bind fun z=>((ldD false 1 z).bind bE).bind fun z=>callK (dS [sl s 7,z]) fun c _=>(aj (.tup []) (sl c 0) true (some (sl s 7))).bind fun z=>(aj D.bad (sl c 0) true (ab (sl s 8) (.ref 0 0))).bind fun zf=>(aj (.tup []) (sl c 0) true ((atD (sl s 8) zf).bind (aD false 1))).bind fun zg=>cd (sl c 0) true (callK (dS [z,zg]) fun c _=>some (.nrm [sl c 0])) [.tup []] fun d=>(aj (.tup []) (sl c 0) true (un .not (sl d 0))).bind fun z=>(aJ (sl c 0) z (B false)).bind fun z=>ifD z (some (.ret [B false] [])) ((bin .add false [] (sl s 14) (I 1)).bind fun z=>some (.nrm [sl s 0,sl s 1,sl s 2,sl s 3,sl s 4,sl s 5,sl s 6,sl s 7,sl s 8,sl s 9,sl s 10,sl s 11,sl s 12,sl s 13,z]))) (some (.ext 4 [sl s 0,sl s 1,sl s 2,sl s 3,sl s 4,sl s 5,sl s 6,sl s 7,sl s 9,sl s 10,sl s 11]))) [sl s 0,sl s 1,sl s 2,sl s 3,sl s 4,sl s 5,sl s 6,sl s 7,sl s 8,sl s 10,sl s 11,sl s 12,sl s 9,z,I 0]).bind fun o=>outK o (fun i s=>ifN (i.beq 4) ((bin .add false [] (sl s 10) (I 1)).bind fun z=>some (.nrm [sl s 0,sl s 1,sl s 2,sl s 3,sl s 4,sl s 5,sl s 6,sl s 7,sl s 8,sl s 9,z])) (ifN (i.beq 1) ((bin .add false [] (sl s 10) (I 1)).bind fun z=>some (.nrm [sl s 0,sl s 1,sl s 2,sl s 3,sl s 4,sl s 5,sl s 6,sl s 7,sl s 8,sl s 9,z])) (some (.ext i [sl s 0])))) fun a b=>some (.ret a b)) (ifN (i.beq 1) ((bin .add false [] (sl s 12) (I 1)).bind fun z=>some (.nrm [sl s 0,sl s 1,sl s 2,sl s 3,sl s 4,sl s 5,sl s 6,sl s 7,sl s 10,sl s 11,z])) (some (.ext i [sl s 0])))) fun a b=>some (.ret a b)))) (some (.ext 0 [sl s 0]))) [x1,z,k,l,g,y_1,z_9,z_12,g,h,I 0]).bind fun o=>outK o (fun i s=>ifN (i.beq 0) (j [sl s 0]) none) fun a b=>some (.ret a b)) (j [x1])) fun s=>callK (cv [sl s 0]) fun c _=>(al (.tup c) 0).bind fun z=>(al (.tup c) 1).bind fun h=>(al (.tup c) 2).bind fun y=>(al (bS (.tup c) 2) 3).bind fun e=>callK (cK [z,h,y,e]) fun c _=>(al (.tup c) 0).bind fun q=>(al (.tup c) 1).bind fun r=>callK (cf [z,h,y,e]) fun c _=>(al (.tup c) 0).bind fun zn=>(al (.tup c) 1).bind fun zo=>callK (bn [z,h,y,e]) fun c _=>(al (.tup c) 0).bind fun za=>(al (.tup c) 1).bind fun zb=>callK (aZ [z,h,y,e]) fun c _=>(al (.tup c) 0).bind fun zc=>(al (.tup c) 1).bind fun zp=>(bin .neq true [] r zo).bind fun m=>(aj (.tup []) m false (some q)).bind fun zq=>(aj (.tup []) m false (some zn)).bind fun zr=>cd m false (callK (bd [zq,zr]) fun c _=>some (.nrm [sl c 0])) [.tup []] fun d=>(aj (.tup []) m false (un .not (sl d 0))).bind fun zs=>(aJ m (B true) zs).bind fun t=>(aj (.tup []) t false (some zb)).bind fun zl=>(aj (.tup []) t false (some zp)).bind fun zt=>(aj (.tup []) t false (bin .neq true [] zl zt)).bind fun zu=>(aJ t (B true) zu).bind fun n=>(aj (.tup []) n false (some za)).bind fun zv=>(aj (.tup []) n false (some zc)).bind fun zw=>cd n false (callK (bd [zv,zw]) fun c _=>some (.nrm [sl c 0])) [.tup []] fun d=>(aj (.tup []) n false (un .not (sl d 0))).bind fun z_62=>(aJ n (B true) z_62).bind fun z_63=>ifD z_63 (some (.ret [B false] [])) (uT (fun j=>ifD r (callK (bf [z,h,y,e,q]) fun c _=>(al (.tup c) 0).bind fun y_5=>(al (bS (.tup c) 0) 1).bind fun zd=>(un .not zd).bind fun f=>(aj (.tup []) f false (some y_5)).bind fun ze=>(aj (.tup []) f false (lenD false ze)).bind fun z_67=>(aj (.tup []) f false (some e)).bind fun z_68=>(aj (.tup []) f false (lenD false z_68)).bind fun z_69=>(aj (.tup []) f false (bin .neq false [] z_67 z_69)).bind fun zf=>(aJ f (B true) zf).bind fun zg=>ifD zg (some (.ret [B false] [])) (j [z,h,y,e,q,r,za,zb])) (j [z,h,y,e,q,r,za,zb])) fun s=>(aj (.tup []) (sl s 5) true (some (sl s 7))).bind fun z=>(aJ (sl s 5) z (B false)).bind fun z=>ifD z (callK (bQ [sl s 0,sl s 1,sl s 2,sl s 3,sl s 4,sl s 6]) fun c _=>(al (.tup c) 0).bind fun y=>(al (bS (.tup c) 0) 1).bind fun z=>(aj (.tup []) z true (some y)).bind fun zd=>(aj (.tup []) z true (lenD false zd)).bind fun f=>(aj (.tup []) z true (bin .eql false [] f (I 0))).bind fun ze=>(aJ z ze (B false)).bind fun z=>some (.ret [z] [])) (some (.ret [B true] [])))))):=by kernel_rfl
set_option maxRecDepth 100000
structure Ctx (wd ht:Nat) (l:Ps) (ps:List Pl) (f:Gr):Prop where
 w1:1≤wd
 w8:wd≤8
 h1:1≤ht
 h8:ht≤8
 ok:eT l=true
 pl:qv ps
 ch:chG l wd ht none (fun _ _=>-1) ps=some f
 g:GOK wd ht f
theorem jo {l:Ps} (h:eT l=true):l.length≤8:=by
 unfold eT at h;simp only [IE,decide_eq_true_eq] at h;exact h.2
theorem AK {w h:Int} {l:Ps} {ps:List Pl} {f:Gr} (e:cG w h l ps=some f) (hp:qv ps):∃wd ht:Nat,w=wd∧h=ht∧Ctx wd ht l ps f:=by
 obtain⟨wd,ht,h1,h2,h3,h4,h5,h6,h7,h8,h9⟩:=AY e;exact⟨wd,ht,h1,h2,h3,h4,h5,h6,h7,hp,h8,h9⟩
section
variable {wd ht:Nat} {l:Ps} {ps:List Pl} {f:Gr}
theorem Ctx.chase (C:Ctx wd ht l ps f):cG (wd:Int) (ht:Int) l ps=some f:=by rw [An C.w1 C.w8 C.h1 C.h8 C.ok];exact C.ch
theorem Ctx.b (C:Ctx wd ht l ps f):gZ (wd:Int) (ht:Int) l ps=true:=by unfold gZ;rw [C.chase];rfl
theorem Ctx.e_chase (C:Ctx wd ht l ps f):gY [I (wd:Int),I (ht:Int),pcs l,pls ps]=some (.ret [bg (aM wd ht f),B true] []):=by
 have:=jo C.ok;rw [kP _ _ l ps (by omega) C.pl,C.b];unfold oO;rw [C.chase];rfl
theorem Ctx.e_asked (C:Ctx wd ht l ps f):bB [I (wd:Int),I (ht:Int),pcs l,pls ps]=some (.ret [B true] []):=by
 have:=jo C.ok;rw [ko _ _ l ps (by omega) C.pl,C.b]
theorem Ctx.e_grid (C:Ctx wd ht l ps f):bM [I (wd:Int),I (ht:Int),pcs l,pls ps]=some (.ret [ints (an wd ht f),B true] []):=by
 rw [lP wd ht C.w1 C.h1 C.w8 C.h8 l C.ok ps C.pl,C.ch];rfl
theorem Ctx.e_turned (C:Ctx wd ht l ps f):ja [bg (aM wd ht f)]=some (.ret [bg (aM ht wd (bw f))] []):=pJ wd ht f C.w1 C.w8 C.h1 C.h8
end
theorem rC {w h:Int} {l:Ps} {ps:List Pl} (hl:l.length≤1048576) (hp:qv ps) (e:cG w h l ps=none):gY [I w,I h,pcs l,pls ps]=some (.ret [ints [],B false] [])∧bB [I w,I h,pcs l,pls ps]=some (.ret [B false] []):=by
 have hb:gZ w h l ps=false:=by unfold gZ;rw [e];rfl
 refine⟨?_,?_⟩
 ·rw [kP _ _ l ps hl hp,hb]
  unfold oO;rw [e];rfl
 ·rw [ko _ _ l ps hl hp,hb]
theorem ji (a:List (List Int)) (b:Bool):al (D.tup [bg a,B b]) 0=some (bg a)∧al (D.tup [bg a,B b]) 1=some (B b):=⟨rfl,rfl⟩
theorem cu (a:List Int) (b:Bool):al (D.tup [ints a,B b]) 0=some (ints a)∧al (D.tup [ints a,B b]) 1=some (B b)∧al (bS (D.tup [ints a,B b]) 0) 1=some (B b):=⟨rfl,rfl,rfl⟩
def cH:Option (List Int)→List D
 | none=>[ints [],B false]
 | some l=>[ints l,B true]
theorem xN {wd ht:Nat} {f:Gr} {R:List Int} {m:List (Int × Bool)} (hf:GOK wd ht f) (h1:1≤wd) (h:SetM m (jG wd ht f R)):pL [.mp m]=some (.ret [ints (bv wd ht f R)] [])∧m.length=(bv wd ht f R).length∧m.length≤8:=by
 obtain⟨k1,k2,k3⟩:=h.keys (prs8 hf h1);refine⟨?_,k2,k3⟩
 rw [ig m (by omega),k1];rfl
section
variable {w h:Int} {l:Ps} {ps:List Pl}
theorem EY (hl:l.length≤1048576) (hp:qv ps) (e:cG w h l ps=none) (d:D):bf [I w,I h,pcs l,pls ps,d]=some (.ret (cH none) [])∧bT [I w,I h,pcs l,pls ps,d]=some (.ret (cH none) []):=by
 obtain⟨e1,e2⟩:=rC hl hp e;obtain⟨t1,t2,t3⟩:=cu [] false;refine⟨?_,?_⟩
 ·rw [eo,e1]
  simp -implicitDefEqProofs [t1,t2,-aA,cH];rfl
 ·rw [er,e2]
  simp -implicitDefEqProofs [cH]
theorem Ee (hl:l.length≤1048576) (hp:qv ps) (e:cG w h l ps=none) (d:D):bU [I w,I h,pcs l,pls ps,d]=some (.ret (cH none) [])∧bZ [I w,I h,pcs l,pls ps,d]=some (.ret (cH none) []):=by
 obtain⟨e1,e2⟩:=rC hl hp e;obtain⟨t1,t2,t3⟩:=cu [] false;refine⟨?_,?_⟩
 ·rw [ek,e1]
  simp -implicitDefEqProofs [t1,t2,-aA,cH];rfl
 ·rw [ec,e2]
  simp -implicitDefEqProofs [cH]
theorem Eb (hl:l.length≤1048576) (hp:qv ps) (e:cG w h l ps=none) (d d':D):bQ [I w,I h,pcs l,pls ps,d,d']=some (.ret (cH none) [])∧dq [I w,I h,pcs l,pls ps,d,d']=some (.ret (cH none) []):=by
 obtain⟨e1,e2⟩:=rC hl hp e;obtain⟨t1,t2,t3⟩:=cu [] false;refine⟨?_,?_⟩
 ·rw [gr,oG,e1]
  simp -implicitDefEqProofs [t1,t2,-aA,cH];rfl
 ·rw [gu,oe,e2]
  simp -implicitDefEqProofs [cH]
theorem Ds (hl:l.length≤1048576) (hp:qv ps) (e:cG w h l ps=none):(cK [I w,I h,pcs l,pls ps]=some (.ret (cH none) [])∧cf [I w,I h,pcs l,pls ps]=some (.ret (cH none) []))∧bn [I w,I h,pcs l,pls ps]=some (.ret (cH none) [])∧aZ [I w,I h,pcs l,pls ps]=some (.ret (cH none) []):=by
 obtain⟨e1,e2⟩:=rC hl hp e;obtain⟨t1,t2,t3⟩:=cu [] false;have t4:al (D.tup [D.arr 1 [],B false]) 0=some (D.arr 1 []):=rfl;have t5:al (D.tup [D.arr 1 [],B false]) 1=some (B false):=rfl;refine⟨⟨?_,?_⟩,?_,?_⟩
 ·rw [lJ,e1]
  simp -implicitDefEqProofs [t1,t2,-aA,cH];rfl
 ·rw [lz,kO,e2]
  simp -implicitDefEqProofs [cH,t4,t5,-aA]
 ·rw [fI,e1]
  simp -implicitDefEqProofs [t1,t2,-aA,cH];rfl
 ·rw [fG,kO,e2]
  simp -implicitDefEqProofs [cH,t4,t5,-aA]
end
section
variable {wd ht:Nat} {l:Ps} {ps:List Pl} {f:Gr}
def mJ (wd ht:Nat) (f:Gr) (R:List Int):Option (List Int):=if dp R 0 ((ht:Int) - 1)=true then some (bv wd ht f R) else none
theorem Ctx.right (C:Ctx wd ht l ps f) {d:D} {R:List Int} (hd:RowD d R):bf [I (wd:Int),I (ht:Int),pcs l,pls ps,d]=some (.ret (cH (mJ wd ht f R)) [])∧bT [I (wd:Int),I (ht:Int),pcs l,pls ps,d]=some (.ret (cH (mJ wd ht f R)) []):=by
 have e1:=C.e_chase;have e2:=C.e_asked;have e3:=C.e_grid;obtain⟨t1,t2⟩:=ji (aM wd ht f) true;obtain⟨t3,t4,t5⟩:=cu (an wd ht f) true;have:=C.h8;have hw:Ix.wrap ((ht:Int) - 1)=(ht:Int) - 1:=ai (by omega) (by omega);have i1:=fF hd 0 ((ht:Int) - 1);have i2:=gd hd 0 ((ht:Int) - 1);unfold mJ;cases hr:dp R 0 ((ht:Int) - 1)
 ·rw [hr] at i1 i2
  refine⟨?_,?_⟩
  ·rw [eo,e1]
   simp -implicitDefEqProofs [t1,t2,-aA,hw,i1,cH];rfl
  ·rw [er,e2]
   simp -implicitDefEqProofs [hw,i2,cH]
 ·rw [hr] at i1 i2
  have hin:∀r∈R,0≤r∧r<ht:=fun r h=>by have:=tS hr r h;omega
  obtain⟨m,p1,p2⟩:=fu wd ht f C.g C.w1 C.w8 C.h8 hd hin;obtain⟨k1,_,_⟩:=xN C.g C.w1 p2;have p3:=kA wd ht f C.g C.w8 C.h8 C.w1 C.h1 hd hin;refine⟨?_,?_⟩
  ·rw [eo,e1]
   simp -implicitDefEqProofs [t1,t2,-aA,hw,i1,p1,k1,cH]
  ·rw [er,e2]
   simp -implicitDefEqProofs [hw,i2,e3,t3,t5,-aA,-cj,p3,cH]
theorem Ctx.below (C:Ctx wd ht l ps f) {d:D} {R:List Int} (hd:RowD d R):bU [I (wd:Int),I (ht:Int),pcs l,pls ps,d]=some (.ret (cH (mJ ht wd (bw f) R)) [])∧bZ [I (wd:Int),I (ht:Int),pcs l,pls ps,d]=some (.ret (cH (mJ ht wd (bw f) R)) []):=by
 have e1:=C.e_chase;have e2:=C.e_asked;have e3:=C.e_grid;have e4:=C.e_turned;obtain⟨t1,t2⟩:=ji (aM wd ht f) true;obtain⟨t3,t4,t5⟩:=cu (an wd ht f) true;have:=C.w8;have hw:Ix.wrap ((wd:Int) - 1)=(wd:Int) - 1:=ai (by omega) (by omega);have i1:=fF hd 0 ((wd:Int) - 1);have i2:=gd hd 0 ((wd:Int) - 1);unfold mJ;cases hr:dp R 0 ((wd:Int) - 1)
 ·rw [hr] at i1 i2
  refine⟨?_,?_⟩
  ·rw [ek,e1]
   simp -implicitDefEqProofs [t1,t2,-aA,hw,i1,cH];rfl
  ·rw [ec,e2]
   simp -implicitDefEqProofs [hw,i2,cH]
 ·rw [hr] at i1 i2
  have hin:∀r∈R,0≤r∧r<wd:=fun r h=>by have:=tS hr r h;omega
  obtain⟨m,p1,p2⟩:=fu ht wd (bw f) (mI C.g) C.h1 C.h8 C.w8 hd hin;obtain⟨k1,_,_⟩:=xN (mI C.g) C.h1 p2;have p3:=lf wd ht f C.g C.w8 C.h8 C.w1 C.h1 hd hin;refine⟨?_,?_⟩
  ·rw [ek,e1]
   simp -implicitDefEqProofs [t1,t2,-aA,hw,i1,e4,p1,k1,cH]
  ·rw [ec,e2]
   simp -implicitDefEqProofs [hw,i2,e3,t3,t5,-aA,-cj,p3,cH]
end
theorem jD {d d':D} {l:List Int} (h:RowD d l) (h':RowD d' l):bd [d,d']=some (.ret [B true] []):=by
 have hm:=h.max;rw [tG];simp -implicitDefEqProofs only [h.len,h'.len,Iy,qI,decide_true,Bool.not_true,dv,IM,if_false];refine aE _ (dJ l.length (fun i=>[d,d',I (l.length:Int),I (i:Int)]) (.ext 0 []) (fun i hi=>?_) ?_ rfl rfl) ?_
 ·have hw:Ix.wrap ((i:Int)+1)=(i:Int)+1:=ai (by omega) (by omega)
  have hi':(i:Int)<(l.length:Int):=by omega
  simp -implicitDefEqProofs [hi',h.at_ i hi,h'.at_ i hi,hw]
 ·simp
 ·simp
theorem kv {d:D} {l:List Int} (h:RowD d l) (n:Int):dS [d,I n]=some (.ret [B (decide (n∈l))] []):=by
 have hm:=h.max;rw [Bs];simp only [h.len,Iy];refine aE _ (ju l (fun i=>[I n,d,I l.length,I i]) (fun _ x=>!decide (x=n)) (.ret [B true] []) (.ext 0 []) (fun i hi=>?_) ?_ rfl rfl rfl) ?_
 ·have hw:Ix.wrap ((i:Int)+1)=(i:Int)+1:=ai (by omega) (by omega)
  have hi':(i:Int)<(l.length:Int):=by omega
  by_cases h1:l[i]=n<;>simp -implicitDefEqProofs [hi',h.at_ i hi,hw,h1]
 ·simp
 ·rw [uL]
  by_cases hm:n∈l<;>simp [hm]
end Go.Proofs.Ytccaheogjpfhjaa

namespace Go.Proofs.Ytccaheogjpfhjaa
open Go Go.V
set_option maxRecDepth 100000
def uo (A E:List Int) (acc:List Int) (p:Pl):List Int:=if p.1∈A∧p.1∈E then acc else acc++[p.1]
def gi (ps:List Pl) (A E:List Int):List Int:=ps.foldl (uo A E) []
theorem wI (A E:List Int) (n:Int):∀(ps:List Pl) (acc:List Int),n∈ps.foldl (uo A E) acc↔n∈acc∨(n∈ps.map (·.1)∧¬(n∈A∧n∈E))
 | [],acc=>by simp
 | p::ps,acc=>by
  rw [IF,wI A E n ps];unfold uo;split
  ·rename_i h
   constructor
   ·rintro(h1 | ⟨h1,h2⟩)
    ·exact .inl h1
    ·exact .inr ⟨by simp only [IH,IA];exact .inr h1,h2⟩
   ·rintro(h1 | ⟨h1,h2⟩)
    ·exact .inl h1
    ·rw [IH] at h1
     rcases IA.1 h1 with h3 | h1
     ·rw [h3] at h2
      exact absurd h h2
     ·exact .inr ⟨h1,h2⟩
  ·rename_i h
   constructor
   ·rintro(h1 | ⟨h1,h2⟩)
    ·rcases IL.1 h1 with h1 | h1
     ·exact .inl h1
     ·rw [II.1 h1]
      exact .inr ⟨by simp,h⟩
    ·exact .inr ⟨by simp only [IH,IA];exact .inr h1,h2⟩
   ·rintro(h1 | ⟨h1,h2⟩)
    ·exact .inl (IL.2 (.inl h1))
    ·rw [IH] at h1
     rcases IA.1 h1 with h3 | h1
     ·exact .inl (IL.2 (.inr (by rw [h3];simp)))
     ·exact .inr ⟨h1,h2⟩
theorem wQ {ps:List Pl} {A E:List Int} {n:Int}:n∈gi ps A E↔n∈ps.map (·.1)∧¬(n∈A∧n∈E):=by
 unfold gi;rw [wI];simp
theorem su (A E:List Int):∀(ps:List Pl) (acc:List Int),(ps.foldl (uo A E) acc).length≤acc.length+ps.length
 | [],acc=>by simp
 | p::ps,acc=>by
  rw [IF];have:=su A E ps (uo A E acc p);have h2:(uo A E acc p).length≤acc.length+1:=by
   unfold uo;split
   ·omega
   ·simp
  simp only [List.length_cons];omega
theorem Ae {ps:List Pl} {i:Nat} (h:i<ps.length):aF 4 (pls ps) (I (i:Int))=some [I ps[i].1,I ps[i].2.1,I ps[i].2.2.1,B ps[i].2.2.2]:=by simp [h]
theorem iq {P:Int→Prop} (h:In8 P) (n:Int):n∈setL P↔P n:=by rw [kq];exact⟨fun h=>h.2,fun h'=>⟨h n h',h'⟩⟩
theorem yw {m:List (Int × Bool)} {P:Int→Prop} (h:SetM m P) (h8:In8 P) (n:Int):lR m n=decide (n∈setL P):=by
 rw [Jf,h.get,decide_eq_true_eq,iq h8]
section
variable {wd ht:Nat} {l:Ps} {ps:List Pl} {f:Gr}
theorem Ctx.prs8 (C:Ctx wd ht l ps f) (R:List Int):In8 (jG wd ht f R):=Go.Proofs.Ytccaheogjpfhjaa.prs8 C.g C.w1
theorem Ctx.prs8' (C:Ctx wd ht l ps f) (R:List Int):In8 (jG ht wd (bw f) R):=Go.Proofs.Ytccaheogjpfhjaa.prs8 (mI C.g) C.h1
set_option maxHeartbeats 1000000 in
theorem Ctx.i_loose (C:Ctx wd ht l ps f) {d d':D} {R R':List Int} (hd:RowD d R) (hd':RowD d' R') (hR:∀r∈R,0≤r∧r<ht) (hR':∀r∈R',0≤r∧r<wd):jV [bg (aM wd ht f),pls ps,d,d']=some (.ret [ints (gi ps (bv wd ht f R) (bv ht wd (bw f) R'))] []):=by
 obtain⟨m,p1,p2⟩:=fu wd ht f C.g C.w1 C.w8 C.h8 hd hR;obtain⟨m',q1,q2⟩:=fu ht wd (bw f) (mI C.g) C.h1 C.h8 C.w8 hd' hR';have g1:=fun n=>yw p2 (C.prs8 R) n
 have g2:=fun n=>yw q2 (C.prs8' R') n
 have hpl:=C.pl.1;have e4:=C.e_turned;rw [xw];simp -implicitDefEqProofs only [p1,e4,q1,aN,bA,ma,Iy,ca,IB];refine aE _ (iV ps (fun i acc=>[.mp m,.mp m',ints acc,pls ps,I (ps.length:Int),I (i:Int)]) (fun i acc=>acc.length≤i) (fun _=>uo (bv wd ht f R) (bv ht wd (bw f) R')) (fun acc=>.ext 0 [ints acc]) [] (fun i acc hi ha=>?_) (fun acc ha=>?_) (fun _=>rfl) (IQ _) rfl) ?_
 ·have hw:Ix.wrap ((i:Int)+1)=(i:Int)+1:=ai (by omega) (by omega)
  have hi':(i:Int)<(ps.length:Int):=by omega
  have hri:=Ae hi;have hg1:=g1 ps[i].1;have hg2:=g2 ps[i].1;have ho:=mK ps[i].1;have hc:=tU ps[i].1;have hap:=fU (l:=acc) (m:=[ps[i].1]) (by simp;omega);unfold uo;rw [show setL (jG wd ht f R)=bv wd ht f R from rfl] at hg1;rw [show setL (jG ht wd (bw f) R')=bv ht wd (bw f) R' from rfl] at hg2;generalize bv wd ht f R=A at *;generalize bv ht wd (bw f) R'=E at *;generalize ps[i]=p at *;by_cases c1:p.1∈A
  ·by_cases c2:p.1∈E
   ·rw [if_pos ⟨c1,c2⟩]
    exact⟨by simp -implicitDefEqProofs [hi',hri,hg1,hg2,c1,c2,hw],by omega⟩
   ·rw [if_neg (fun h=>c2 h.2)]
    exact⟨by simp -implicitDefEqProofs [hi',hri,hg1,hg2,c1,c2,hw,ho,hc,hap,-bO],by simp;omega⟩
  ·rw [if_neg (fun h=>c1 h.1)]
   exact⟨by simp -implicitDefEqProofs [hi',hri,hg1,c1,hw,ho,hc,hap,-bO],by simp;omega⟩
 ·simp
 ·rw [fj]
  simp [gi]
set_option maxHeartbeats 1000000 in
theorem Ctx.s_loose (C:Ctx wd ht l ps f) {d d':D} {R R':List Int} (hd:RowD d R) (hd':RowD d' R') (hR:∀r∈R,0≤r∧r<ht) (hR':∀r∈R',0≤r∧r<wd):gU [I (wd:Int),I (ht:Int),pcs l,pls ps,d,d']=some (.ret [ints (gi ps (bv wd ht f R) (bv ht wd (bw f) R'))] []):=by
 have p1:=kA wd ht f C.g C.w8 C.h8 C.w1 C.h1 hd hR;have q1:=lf wd ht f C.g C.w8 C.h8 C.w1 C.h1 hd' hR';have g1:=fun n=>(Ok8.setL (jG wd ht f R)).has n
 have g2:=fun n=>(Ok8.setL (jG ht wd (bw f) R')).has n
 have hpl:=C.pl.1;have e3:=C.e_grid;obtain⟨t3,t4,t5⟩:=cu (an wd ht f) true;rw [vw];simp -implicitDefEqProofs only [e3,t3,t5,p1,q1,aN,bA,Iy,ca,IB];refine aE _ (iV ps (fun i acc=>[ints (bv wd ht f R),ints (bv ht wd (bw f) R'),ints acc,pls ps,I (ps.length:Int),I (i:Int)]) (fun i acc=>acc.length≤i) (fun _=>uo (bv wd ht f R) (bv ht wd (bw f) R')) (fun acc=>.ext 0 [ints acc]) [] (fun i acc hi ha=>?_) (fun acc ha=>?_) (fun _=>rfl) (IQ _) rfl) ?_
 ·have hw:Ix.wrap ((i:Int)+1)=(i:Int)+1:=ai (by omega) (by omega)
  have hi':(i:Int)<(ps.length:Int):=by omega
  have hri:=Ae hi;have hg1:=g1 ps[i].1;have hg2:=g2 ps[i].1;have ho:=mK ps[i].1;have hc:=tU ps[i].1;have hap:=fU (l:=acc) (m:=[ps[i].1]) (by simp;omega);unfold uo;rw [show setL (jG wd ht f R)=bv wd ht f R from rfl] at hg1;rw [show setL (jG ht wd (bw f) R')=bv ht wd (bw f) R' from rfl] at hg2;generalize bv wd ht f R=A at *;generalize bv ht wd (bw f) R'=E at *;generalize ps[i]=p at *;by_cases c1:p.1∈A
  ·by_cases c2:p.1∈E
   ·rw [if_pos ⟨c1,c2⟩]
    exact⟨by simp -implicitDefEqProofs [hi',hri,hg1,hg2,c1,c2,hw],by omega⟩
   ·rw [if_neg (fun h=>c2 h.2)]
    exact⟨by simp -implicitDefEqProofs [hi',hri,hg1,hg2,c1,c2,hw,ho,hc,hap,-bO],by simp;omega⟩
  ·rw [if_neg (fun h=>c1 h.1)]
   exact⟨by simp -implicitDefEqProofs [hi',hri,hg1,c1,hw,ho,hc,hap,-bO],by simp;omega⟩
 ·simp
 ·rw [fj]
  simp [gi]
def sc (wd ht:Nat) (f:Gr) (ps:List Pl) (R R':List Int):Option (List Int) :=
 if dp R 0 ((ht:Int) - 1)=true∧dp R' 0 ((wd:Int) - 1)=true then some (gi ps (bv wd ht f R) (bv ht wd (bw f) R')) else none
theorem Ctx.loose (C:Ctx wd ht l ps f) {d d':D} {R R':List Int} (hd:RowD d R) (hd':RowD d' R'):bQ [I (wd:Int),I (ht:Int),pcs l,pls ps,d,d']=some (.ret (cH (sc wd ht f ps R R')) [])∧dq [I (wd:Int),I (ht:Int),pcs l,pls ps,d,d']=some (.ret (cH (sc wd ht f ps R R')) []):=by
 have e1:=C.e_chase;have e2:=C.e_asked;have hw8:=C.w8;have hh8:=C.h8;have ww:Ix.wrap ((wd:Int) - 1)=(wd:Int) - 1:=ai (by omega) (by omega);have wh:Ix.wrap ((ht:Int) - 1)=(ht:Int) - 1:=ai (by omega) (by omega);have i1:=fF hd 0 ((ht:Int) - 1);have i2:=gd hd 0 ((ht:Int) - 1);have j1:=fF hd' 0 ((wd:Int) - 1);have j2:=gd hd' 0 ((wd:Int) - 1);obtain⟨t1,t2⟩:=ji (aM wd ht f) true;have t3:∀b,al (D.tup [bg (aM wd ht f),B b]) 0=some (bg (aM wd ht f))∧al (D.tup [bg (aM wd ht f),B b]) 1=some (B b):=fun b=>ji _ b
 have hq:gX [I (wd:Int),I (ht:Int),pcs l,pls ps,d,d']=some (.ret [bg (aM wd ht f),B (dp R 0 ((ht:Int) - 1)&&dp R' 0 ((wd:Int) - 1))] []):=by
  rw [oG,e1];cases hr:dp R 0 ((ht:Int) - 1)
  ·rw [hr] at i1
   simp -implicitDefEqProofs [t1,t2,-aA,wh,i1]
  ·rw [hr] at i1
   cases hr':dp R' 0 ((wd:Int) - 1)
   ·rw [hr'] at j1
    simp -implicitDefEqProofs [t1,t2,-aA,wh,i1,ww,j1]
   ·rw [hr'] at j1
    simp -implicitDefEqProofs [t1,t2,-aA,wh,i1,ww,j1]
 have hq2:gW [I (wd:Int),I (ht:Int),pcs l,pls ps,d,d']=some (.ret [B (dp R 0 ((ht:Int) - 1)&&dp R' 0 ((wd:Int) - 1))] []):=by
  rw [oe,e2];cases hr:dp R 0 ((ht:Int) - 1)
  ·rw [hr] at i2
   simp -implicitDefEqProofs [wh,i2]
  ·rw [hr] at i2
   cases hr':dp R' 0 ((wd:Int) - 1)
   ·rw [hr'] at j2
    simp -implicitDefEqProofs [wh,i2,ww,j2]
   ·rw [hr'] at j2
    simp -implicitDefEqProofs [wh,i2,ww,j2]
 unfold sc;by_cases hr:dp R 0 ((ht:Int) - 1)=true∧dp R' 0 ((wd:Int) - 1)=true
 ·have hin:∀r∈R,0≤r∧r<ht:=fun r h=>by have:=tS hr.1 r h;omega
  have hin':∀r∈R',0≤r∧r<wd:=fun r h=>by have:=tS hr.2 r h;omega
  have l1:=C.i_loose hd hd' hin hin';have l2:=C.s_loose hd hd' hin hin';rw [if_pos hr];rw [hr.1,hr.2] at hq hq2;obtain⟨t4,t5⟩:=t3 true;refine⟨?_,?_⟩
  ·rw [gr,hq]
   simp -implicitDefEqProofs [t1,t2,-aA,l1,cH]
  ·rw [gu,hq2]
   simp -implicitDefEqProofs [l2,cH]
 ·rw [if_neg hr]
  have hf:(dp R 0 ((ht:Int) - 1)&&dp R' 0 ((wd:Int) - 1))=false:=by
   cases h1:dp R 0 ((ht:Int) - 1)
   ·rfl
   ·cases h2:dp R' 0 ((wd:Int) - 1)
    ·rfl
    ·exact absurd ⟨h1,h2⟩ hr
  rw [hf] at hq hq2;obtain⟨t4,t5⟩:=t3 false;refine⟨?_,?_⟩
  ·rw [gr,hq]
   simp -implicitDefEqProofs [t4,t5,-aA,cH];rfl
  ·rw [gu,hq2]
   simp -implicitDefEqProofs [cH]
end
theorem CW {β:Type} {body:List D→Option Out} (l:List β) (st:Nat→List D) (p:β→Bool) (o:β→Out) (fin:Out) (hs:∀(i:Nat) (hi:i<l.length),body (st i)=some (if p l[i]=true then o l[i] else .nrm (st (i+1)))) (he:body (st l.length)=some fin) (h1:∀x,(o x).ends=true) (h2:fin.ends=true) {s0:List D} (h:s0=st 0) :
  aI body s0=some (match l.find? p with
   | some x=>o x
   | none=>fin):=by
 rw [h];have key:∀(n i:Nat),i+n=l.length→Runs body (st i) (match (l.drop i).find? p with
   | some x=>o x
   | none=>fin):=by
  intro n;induction n with
  | zero =>
   intro i hi;have:i=l.length:=by omega
   subst this;rw [List.drop_length];exact Runs.one he h2
  | succ n ih =>
   intro i hi;have hlt:i<l.length:=by omega
   have hb:=hs i hlt;rw [Jc hlt,List.find?_cons];cases hp:p l[i]
   ·rw [hp,if_neg (by simp)] at hb
    exact .nrm hb (ih (i+1) (by omega))
   ·rw [hp,if_pos rfl] at hb
    exact Runs.one hb (h1 _)
 exact(key l.length 0 (by omega)).loop
def gO (wd ht:Nat) (f:Gr) (many:Nat):Option (List Int):=(dU ht).find? fun R=>decide ((bv wd ht f R).length=many)
theorem BC {n:Nat} (hn:n<9) {s:List Int} (hs:s∈dU n):(∀k∈s,0≤k∧k<n)∧s.length≤n:=⟨((mA hn).2.1 s hs).1,((mA hn).2.1 s hs).2.1⟩
theorem jN (wd ht:Nat) (f:Gr) (hf:GOK wd ht f) (hw1:1≤wd) (hw8:wd≤8) (hh8:ht≤8) (many:Nat):cV [bg (aM wd ht f),I (many:Int)]=some (.ret (cH (gO wd ht f many)) []):=by
 have hl1:((aM wd ht f).map ints).length=ht:=by simp [rH]
 have hsu:=uB ht (by omega);have hlen:(dU ht).length≤256:=by
  rw [(Cd (n:=ht) (by omega)).2];have:2 ^ ht≤2 ^ 8:=Nat.pow_le_pow_right (by decide) hh8;omega
 have hin:∀R∈dU ht,(∀k∈R,0≤k∧k<ht)∧R.length≤ht:=fun R h=>BC (by omega) h
 rw [pE];simp only [ca,hl1,Iy,hsu,aN,bA,IB];unfold gO;generalize dU ht=S at *;refine aE _ (CW S (fun i=>[bg (aM wd ht f),I (many:Int),bg S,I (S.length:Int),I (i:Int)]) (fun R=>decide ((bv wd ht f R).length=many)) (fun R=>.ret [ints R,B true] []) (.ext 0 []) (fun i hi=>?_) ?_ (fun _=>rfl) rfl rfl) ?_
 ·have hw:Ix.wrap ((i:Int)+1)=(i:Int)+1:=ai (by omega) (by omega)
  have hi':(i:Int)<(S.length:Int):=by omega
  have hri:aF 1 (bg S) (I (i:Int))=some [ints S[i]]:=by simp [hi]
  obtain⟨h1,h2⟩:=hin S[i] (IG hi);generalize S[i]=R at *;obtain⟨m,p1,p2⟩:=fu wd ht f hf hw1 hw8 hh8 (RowD.ints (l:=R) (by omega)) h1;obtain⟨k1,k2,k3⟩:=xN hf hw1 p2;have hlm:=FW m;rw [k2] at hlm;by_cases hc:(bv wd ht f R).length=many
  ·rw [hc] at hlm
   simp -implicitDefEqProofs [hi',hri,p1,hlm,hc]
  ·have hc':¬((bv wd ht f R).length:Int)=(many:Int):=by omega
   simp -implicitDefEqProofs [hi',hri,p1,hlm,hc,hc',hw]
 ·simp
 ·cases S.find? (fun R=>decide ((bv wd ht f R).length=many)) with
  | none=>simp -implicitDefEqProofs [cH,ma]
  | some q=>simp -implicitDefEqProofs [cH]
section
variable {wd ht:Nat} {l:Ps} {ps:List Pl} {f:Gr}
theorem Ctx.rows (C:Ctx wd ht l ps f):cK [I (wd:Int),I (ht:Int),pcs l,pls ps]=some (.ret (cH (gO wd ht f ps.length)) []) ∧
  ∃z,cf [I (wd:Int),I (ht:Int),pcs l,pls ps]=some (.ret [z,B (gO wd ht f ps.length).isSome] [])∧QD z ((gO wd ht f ps.length).getD []):=by
 have e1:=C.e_chase;obtain⟨t1,t2⟩:=ji (aM wd ht f) true;have hq:=jN wd ht f C.g C.w1 C.w8 C.h8 ps.length;have hres:∃a b,cH (gO wd ht f ps.length)=[ints a,B b]:=by
  cases gO wd ht f ps.length with
  | none=>exact⟨[],false,rfl⟩
  | some q=>exact⟨q,true,rfl⟩
 obtain⟨a,b,hab⟩:=hres;obtain⟨t3,t4,t5⟩:=cu a b;refine⟨?_,?_⟩
 ·rw [lJ,e1,hab]
  rw [hab] at hq;simp -implicitDefEqProofs [t1,t2,-aA,hq,t3,t4]
 ·obtain⟨z,ok,h1,h2⟩:=oP true wd ht f C.g C.w8 C.h8 C.w1 C.h1 l ps C.ok C.pl C.ch
  rw [if_pos rfl,←yO ht (by have:=C.h8;omega)] at h2;have hfb:kI true wd ht f ps.length=fun R=>decide ((bv wd ht f R).length=ps.length):=rfl
  rw [hfb] at h2;have hfr:(dU ht).find? (fun R=>decide ((bv wd ht f R).length=ps.length))=gO wd ht f ps.length:=rfl;rw [hfr] at h2;rw [lz];cases hf:gO wd ht f ps.length with
  | none =>
   rw [hf] at h2;obtain⟨rfl,rfl⟩:=h2;obtain⟨t6,t7,t8⟩:=cu [] false;exact⟨ints [],by rw [h1];simp -implicitDefEqProofs [t6,t7,-aA],.inl rfl⟩
  | some q =>
   rw [hf] at h2;obtain⟨rfl,h3⟩:=h2;obtain⟨t6,t7⟩:=nU h3 true;exact⟨z,by rw [h1];simp -implicitDefEqProofs [t6,t7,-aA],h3⟩
theorem Ctx.cols (C:Ctx wd ht l ps f):bn [I (wd:Int),I (ht:Int),pcs l,pls ps]=some (.ret (cH (gO ht wd (bw f) ps.length)) []) ∧
  ∃z,aZ [I (wd:Int),I (ht:Int),pcs l,pls ps]=some (.ret [z,B (gO ht wd (bw f) ps.length).isSome] [])∧QD z ((gO ht wd (bw f) ps.length).getD []):=by
 have e1:=C.e_chase;have e4:=C.e_turned;obtain⟨t1,t2⟩:=ji (aM wd ht f) true;have hq:=jN ht wd (bw f) (mI C.g) C.h1 C.h8 C.w8 ps.length;have hres:∃a b,cH (gO ht wd (bw f) ps.length)=[ints a,B b]:=by
  cases gO ht wd (bw f) ps.length with
  | none=>exact⟨[],false,rfl⟩
  | some q=>exact⟨q,true,rfl⟩
 obtain⟨a,b,hab⟩:=hres;obtain⟨t3,t4,t5⟩:=cu a b;refine⟨?_,?_⟩
 ·rw [fI,e1,hab]
  rw [hab] at hq;simp -implicitDefEqProofs [t1,t2,-aA,e4,hq,t3,t4]
 ·obtain⟨z,ok,h1,h2⟩:=oP false wd ht f C.g C.w8 C.h8 C.w1 C.h1 l ps C.ok C.pl C.ch
  rw [if_neg (by simp),←yO wd (by have:=C.w8;omega)] at h2;have hfb:kI false wd ht f ps.length=fun R=>decide ((bv ht wd (bw f) R).length=ps.length):=rfl
  rw [hfb] at h2;have hfr:(dU wd).find? (fun R=>decide ((bv ht wd (bw f) R).length=ps.length))=gO ht wd (bw f) ps.length:=rfl;rw [hfr] at h2;rw [fG];cases hf:gO ht wd (bw f) ps.length with
  | none =>
   rw [hf] at h2;obtain⟨rfl,rfl⟩:=h2;obtain⟨t6,t7,t8⟩:=cu [] false;exact⟨ints [],by rw [h1];simp -implicitDefEqProofs [t6,t7,-aA],.inl rfl⟩
  | some q =>
   rw [hf] at h2;obtain⟨rfl,h3⟩:=h2;obtain⟨t6,t7⟩:=nU h3 true;exact⟨z,by rw [h1];simp -implicitDefEqProofs [t6,t7,-aA],h3⟩
end
end Go.Proofs.Ytccaheogjpfhjaa

end
