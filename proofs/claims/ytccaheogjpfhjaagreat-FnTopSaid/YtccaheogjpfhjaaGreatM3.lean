/-
  A part of the proof: contracts and plain forms of functions beneath the statement, made small by a program (names shortened, what is not needed left out).
-/
import Derived.Test.YtccaheogjpfhjaaGreatRows
import Derived.Test.YtccaheogjpfhjaaGreatM2
import Derived.Laws.RangeString
import Derived.MapKept
open Option renaming bind_eq_some_iff → ZE, map_eq_some_iff → ZF, bind_some → ZO, bind_assoc → ZZ
open List.cons renaming injEq → ZG
open List renaming getD_eq_getElem?_getD → ZH, map_cons → ZI, mem_cons → ZJ, drop_zero → ZN, getElem?_eq_none → ZR, map_nil → ZT, nil_append → ZU, length_eq_one_iff → aab, mem_append_right → aae, drop_eq_getElem_cons → aai, getElem?_eq_some_iff → aak, length_cons → aan, getElem?_eq_getElem → aao, cons_append → aap, map_toArray → aaq, getElem?_cons_zero → aas, getD_cons_zero → aaw
open Go.MapKept renaming run_getObj_map → ZK, run_checkKey → ZM, run_findKey → ZP
open Go.Instr renaming findNow → ZL, lookup → ZY, sameNow → aac, next → aaj, mapUpdate → aat
open Nat renaming lt_of_lt_of_le → ZQ, beq → ZX, le_trans → aaf, beq_refl → aay
open Go.Region renaming wanted → ZS
open Go.Result renaming andThen → ZV
open Array renaming toArray_toList → ZW, getD_eq_getD_getElem? → aag, getElem?_eq_some_iff → aah, getElem?_eq_getElem → aal, getElem?_toList → aav, length_toList → aax
open Option.some renaming injEq → aaa
open Bool renaming and_eq_true → aad, false_eq_true → aaz
open Ne renaming symm → aam
open Classical renaming choose → aar, choose_spec → aau
open Go.Builtin renaming len_ → aaA, min2 → aaB, max2 → aaC
open Go.Value renaming bool → aaD, int → aaE
set_option maxRecDepth 100000
set_option linter.unusedSimpArgs false
set_option linter.unusedVariables false
noncomputable section
namespace Go.V
open Go.RowKit
set_option maxRecDepth 100000
def cR (w:World) (F own:Nat→Prop) (k:Kd) (d:D) (y:Value):Prop :=
 d = .bad∨match k with
  | .dat lv=>bf w (FB F 0 lv) d y
  | .own z lv true=>fY w (FB F 0 lv) own z d y
  | .box n lv true=>Dj w (FB F 0 lv) own n d y
  | _=>False
def dU (w:World) (F:Nat→Prop) (ow:Nat→Option Nat):Nat→List Kd→List D→List Value→Prop
 | _,[],[],[]=>True
 | i,k::ks,d::ds,y::ys=>cR w F (fun g=>ow g=some i) k d y∧dU w F ow (i+1) ks ds ys
 | _,_,_,_=>False
def mW:Kd→Bool
 | .own _ _ true=>true
 | .box _ _ true=>true
 | _=>false
def qI (w:World) (F:Nat→Prop):List Kd→List D→List Value→Prop
 | [],[],_=>True
 | k::ks,us,y::ys=>if mW k then(match us with
   | u::us=>u ≠ .bad∧cR w F (fun _=>True) k u y∧qI w F ks us ys
   | []=>False) else qI w F ks us ys
 | _,_,_=>False
def KO (w:World) (F:Nat→Prop) (B:Nat) (own:Nat→Prop) (k:Kd) (d:D) (y:Value):Prop :=
 d = .bad∨match k with
  | .dat lv=>bf w (FB F B lv) d y
  | .own z lv false=>fY w (FB F B lv) (fun g=>own g∧B≤g) z d y
  | _=>False
def jW:List Value→Value
 | [y]=>y
 | ys=>.tuple ys.toArray
structure CallPost (S:FS) (args:Array Value) (rs us:List D) (w:World) (F:Nat→Prop) (ow:Nat→Option Nat) (F':Nat→Prop) (R:Nat→Option Nat) (vs:List Value) (w':World):Prop where
 os:w'.os=w.os
 tape:w'.tape=w.tape
 output:w'.output=w.output
 size:w.heap.size≤w'.heap.size
 keep:∀b,b<w.heap.size→ow b=none→w'.heap[b]?=w.heap[b]?
 f0:∀b,F b→F' b
 fn:∀b,F' b→(F b∨w.heap.size≤b)∧b<w'.heap.size∧R b=none
 rn:∀b j,R b=some j→w.heap.size≤b∧b<w'.heap.size
 len:vs.length=S.rm.length
 lenD:rs.length=S.rm.length
 res:∀j,KO w' F' w.heap.size (fun g=>R g=some j) (aq S.rm j) (nth rs j) (vs.getD j undef)
 us:qI w' F' S.pm us args.toList
def XV (P:Program) (f:FuncId) (args:Array Value) (w:World) (R:Value→World→Prop):Prop :=
 ∀(o:Oper) (a:Act) (next:Act→World→Prop) (Q:Exit→Act→World→Prop),(∀v w',R v w'→next (a.put o.dst v) w')→o.upon P a next Q ((callFunc f args).run P w)
def aw (G:List (Nat × (Obj→Prop))) (P:Program) (f:FuncId) (S:FS):Prop :=
 ∀(ds rs us:List D),S.f ds=some (.ret rs us)→∀(args:Array Value) (w:World) (F:Nat→Prop) (ow:Nat→Option Nat),gOk G w F→dU w F ow 0 S.pm ds args.toList →
  (∀b,F b→b<w.heap.size∧ow b=none)→(∀b i,ow b=some i→b<w.heap.size)→XV P f args w fun v w'=>∃F' R vs,v=jW vs∧CallPost S args rs us w F ow F' R vs w'
section
variable {P:Program} {c:Cx} {B:Nat} {X:Nat→Prop} {w0:World} {F0 F:Nat→Prop} {O:Nat→Option (Nat × Nat)} {a:Act} {w:World} {δ:List D}
def dh:List Ag→List D→Option (List D)
 | [],_=>some []
 | .d x chk::l,is=>match x with
  | .tmp _=>match is with
   | i::is=>match chk with
    | false=>(dh l is).map (i::·)
    | true=>(bq i).bind fun i=>(dh l is).map (i::·)
   | []=>none
  | .const v=>(dh l is).map (yR v::·)
  | .func f=>(dh l is).map (.clo f []::·)
  | .global _=>none
 | .bor t r::l,is=>match ZX t r with
  | true=>match is with
   | i::is=>(dh l is).map (i::·)
   | _=>none
  | false=>match is with
   | p::i::is=>(aa p i).bind fun i=>(dh l is).map (i::·)
   | _=>none
 | .io t r::l,is=>match ZX t r with
  | true=>match is with
   | i::is=>(aa i i).bind fun i=>(dh l is).map (i::·)
   | _=>none
  | false=>match is with
   | p::i::is=>(bn p i).bind fun i=>(aa i i).bind fun i=>(dh l is).map (i::·)
   | _=>none
theorem pI (o:Option (List D)) (i:D) (acc:List D) (k:List D→Option Out):((o.map (i::·)).bind fun ds=>k (acc++ds))=o.bind fun ds=>k (app acc [i]++ds):=by
 cases o<;>simp [gp]
theorem ir:∀(l:List Ag) (acc is:List D) (k:List D→Option Out),gJ acc l is k=(dh l is).bind fun ds=>k (acc++ds)
 | [],acc,is,k=>by simp [gJ,dh]
 | .d x chk::l,acc,is,k=>by
  cases x with
  | tmp t =>
   cases is with
   | nil=>simp [gJ,dh]
   | cons i is =>
    cases chk
    ·simp only [gJ,dh]
     rw [pI,ir l]
    ·simp only [gJ,dh,ZZ]
     congr 1
     funext i
     rw [pI,ir l]
  | const v=>simp only [gJ,dh];rw [pI,ir l]
  | func f=>simp only [gJ,dh];rw [pI,ir l]
  | global g=>simp [gJ,dh]
 | .bor t r::l,acc,is,k=>by
  cases hb:ZX t r
  ·rcases is with _ | ⟨p,_ | ⟨i,is⟩⟩
   ·simp [gJ,dh,hb]
   ·simp [gJ,dh,hb]
   ·simp only [gJ,dh,hb,ZZ]
    refine congrArg _ (funext fun i=>?_)
    rw [pI,ir l]
  ·cases is with
   | nil=>simp [gJ,dh,hb]
   | cons i is=>simp only [gJ,dh,hb];rw [pI,ir l]
 | .io t r::l,acc,is,k=>by
  cases hb:ZX t r
  ·rcases is with _ | ⟨p,_ | ⟨i,is⟩⟩
   ·simp [gJ,dh,hb]
   ·simp [gJ,dh,hb]
   ·simp only [gJ,dh,hb,ZZ]
    refine congrArg _ (funext fun i=>?_)
    refine congrArg _ (funext fun i=>?_)
    rw [pI,ir l]
  ·cases is with
   | nil=>simp [gJ,dh,hb]
   | cons i is =>
    simp only [gJ,dh,hb,ZZ];refine congrArg _ (funext fun i=>?_)
    rw [pI,ir l]
theorem BQ {F' own:Nat→Prop} {lv l:Nat} {d:D} {y:Value} (hF:∀b,F b→F' b) (h:de w (FB F B lv) d y) (hl:lv≤l) (h1:l≠1):cR w F' own (.dat l) d y:=by
 rcases h with h | h
 ·exact .inl h
 ·refine .inr (aK (fun b hb=>?_) (fun _ _=>rfl) h)
  match l,h1,hl with
  | 0,_,hl =>
   have:lv=0:=by omega
   subst this;exact hb
  | l+2,_,_=>exact hF b (gz b hb)
def DV:List Ag→Nat→Option Nat
 | [],_=>none
 | .io _ r::_,0=>some r
 | _::_,0=>none
 | _::l,n+1=>DV l n
theorem Mn (hI:Inv c B X w0 F0 F O a w δ) {F':Nat→Prop} {ow:Nat→Option Nat} (hF:∀b,F b→F' b):∀(xs:List Operand) (pm:List Kd) (ags:List Ag) (i0:Nat) (ds:List D),kL c.K xs pm=some ags→kA pm=true →
  dh ags (ao δ (fX ags))=some ds→(∀r∈gU ags,∀b,O b=some (r,0)→F' b)→(∀j r,DV ags j=some r→∀b,O b=some (r,0)→ow b=some (i0+j))→dU w F' ow i0 pm ds (xs.map a.eval)
 | [],[],ags,i0,ds,h,_,hd,_,_=>by
  simp only [kL,aaa] at h;subst h;simp [dh] at hd;subst hd;trivial
 | [],_::_,_,_,_,h,_,_,_,_=>by simp [kL] at h
 | _::_,[],_,_,_,h,_,_,_,_=>by simp [kL] at h
 | x::xs,m::pm,ags,i0,ds,h,hpm,hd,hbor,hio=>by
  simp only [kL] at h;split at h
  case h_2=>cases h
  rename_i g l hg hl;cases h;have hpm':kA pm=true∧(∀lv,m = .dat lv→lv≠1)∧(∀z lv io,m = .own z lv io→io=true∧lv≠1)∧(∀z lv io,m = .box z lv io→io=true∧lv≠1):=by
   cases m with
   | dat lv =>
    simp only [kA] at hpm;split at hpm
    case h_2=>cases hpm
    rename_i h1 h2;exact⟨hpm,fun l e=>by cases e;intro e;subst e;simp at h1,fun _ _ _ e=>(by cases e),fun _ _ _ e=>(by cases e)⟩
   | own z lv io =>
    cases io
    ·simp [kA] at hpm
    simp only [kA] at hpm;split at hpm
    case h_2=>cases hpm
    rename_i h1 h2;exact⟨hpm,fun _ e=>(by cases e),fun _ l _ e=>by cases e;exact⟨rfl,fun e=>by subst e;simp at h1⟩,fun _ _ _ e=>(by cases e)⟩
   | box z lv io =>
    cases io
    ·simp [kA] at hpm
    simp only [kA] at hpm;split at hpm
    case h_2=>cases hpm
    rename_i h1 h2;exact⟨hpm,fun _ e=>(by cases e),fun _ _ _ e=>(by cases e),fun _ l _ e=>by cases e;exact⟨rfl,fun e=>by subst e;simp at h1⟩⟩
   | _=>simp [kA] at hpm
  obtain⟨hp1,hp2,hp3,hp4⟩:=hpm';have rest:∀d' ds',ds=d'::ds'→dh l (ao δ (fX l))=some ds'→(∀r∈gU l,∀b,O b=some (r,0)→F' b)→(∀j r,DV l j=some r→∀b,O b=some (r,0)→ow b=some (i0+1+j)) →
    cR w F' (fun g=>ow g=some i0) m d' (a.eval x)→dU w F' ow i0 (m::pm) ds ((x::xs).map a.eval):=by
   intro d' ds' e h1 h2 h3 h4;subst e;exact⟨h4,Mn hI hF xs pm l (i0+1) ds' hl hp1 h1 h2 h3⟩
  have hio':∀j r,DV l j=some r→∀b,O b=some (r,0)→ow b=some (i0+1+j):=fun j r hj b hb=>by
   have:=hio (j+1) r (by cases g<;>exact hj) b hb;rw [this];congr 1
   omega
  have hbor':∀r∈gU l,∀b,O b=some (r,0)→F' b:=fun r hr=>hbor r (by cases g<;>simp [gU,hr])
  unfold uC at hg;split at hg
  ·rename_i lm
   have hl1:=hp2 lm rfl;split at hg
   ·rename_i t
    split at hg
    ·rename_i lv hk
     have hrep:=hI.dat hk;split at hg
     ·rename_i hle
      cases hg;simp only [app,ao,dh] at hd;obtain⟨ds',h1,rfl⟩:=ZF.1 hd;exact rest _ _ rfl h1 hbor' hio' (BQ hF hrep (bO.1 hle) hl1)
     ·split at hg
      case h_2=>cases hg
      rename_i hle h0;cases hg;simp only [app,ao,dh] at hd;obtain⟨i,hc,hd⟩:=ZE.1 hd;obtain⟨ds',h1,rfl⟩:=ZF.1 hd;refine rest _ _ rfl h1 hbor' hio' ?_
      unfold bq at hc;split at hc
      case isFalse=>cases hc
      rename_i hv;cases hc;refine .inr (rJ hv (hrep.rep ?_))
      intro e;rw [e] at hv;simp [D.isV] at hv
    ·rename_i z lv io hk
     split at hg
     case h_2=>cases hg
     rename_i hl2;cases hg;simp only [fX,aay,ao,dh] at hd;obtain⟨ds',h1,rfl⟩:=ZF.1 hd;refine rest _ _ rfl h1 hbor' hio' ?_
     by_cases hb:nth δ t = .bad
     ·exact .inl hb
     ·refine .inr (aK (fun b hb=>?_) (fun _ _=>rfl) (lu (hI.own hk hb)))
      rw [aZ] at hl2;subst hl2;rcases hb with hb | hb
      ·exact hF b (gz b hb)
      ·exact hbor t (by simp [gU]) b hb.1
    ·rename_i r hk
     split at hg
     case h_2=>cases hg
     rename_i hl2 hown;cases hg;rw [aZ] at hl2;subst hl2;have hviaD:∀(hbt:nth δ t ≠ .bad),cR w F' (fun g=>ow g=some i0) (.dat 2) (nth δ r) (a.eval (.tmp t)):=by
      intro hbt;obtain⟨g1,g2,g3,g4⟩:=hI.via hk hbt;obtain⟨z,lv,io,hkr⟩:∃z lv io,aq c.K r = .own z lv io:=by
       unfold Kh at hown;split at hown
       ·exact⟨_,_,_,‹_›⟩
       ·cases hown
      rw [cC,g1];refine .inr (aK (fun b hb=>?_) (fun _ _=>rfl) (lu (hI.own hkr g3)))
      rcases hb with hb | hb
      ·exact hF b (gz b hb)
      ·exact hbor r (by simp [gU]) b hb.1
     cases htr:ZX t r
     ·simp only [fX,htr,ao,dh] at hd
      obtain⟨i,hc,hd⟩:=ZE.1 hd;obtain⟨ds',h1,rfl⟩:=ZF.1 hd;obtain⟨hbt,rfl⟩:=bN hc;exact rest _ _ rfl h1 hbor' hio' (hviaD hbt)
     ·have:=aZ.1 htr
      subst this;simp only [fX,htr,ao,dh] at hd;obtain⟨ds',h1,rfl⟩:=ZF.1 hd;refine rest _ _ rfl h1 hbor' hio' ?_
      by_cases hb:nth δ t = .bad
      ·exact .inl hb
      ·exact hviaD hb
    ·cases hg
   ·cases hg
   ·rename_i f
    cases hg;simp only [fX,app,dh] at hd;obtain⟨ds',h1,rfl⟩:=ZF.1 hd;refine rest _ _ rfl h1 hbor' hio' (BQ hF (lv:=0) (hI.opd (x:=.func f) (by simp [eF])) (Nat.zero_le _) hl1)
   ·rename_i v
    split at hg
    case h_2=>cases hg
    rename_i hv;cases hg;simp only [fX,app,dh] at hd;obtain⟨ds',h1,rfl⟩:=ZF.1 hd;have:=hI.opd (x:=.const v) (by simp [eF,hv]);simp only [eF,hv,opD] at this;exact rest _ _ rfl h1 hbor' hio' (BQ hF this (Nat.zero_le _) hl1)
  ·rename_i z l'
   have hl1:=(hp3 z l' true rfl).2;have hcv:∀(lv:Nat),l'=lv→∀b,FB F B lv b→FB F' 0 l' b:=by
    intro lv e b hb;subst e
    match l',hl1 with
    | 0,_=>exact hb.elim
    | n+2,_=>exact hF b hb
   split at hg
   case h_2=>cases hg
   rename_i t;split at hg
   ·rename_i z' lv io hk
    split at hg
    case h_2=>cases hg
    rename_i h1 h2;rw [aZ] at h1 h2;subst h1;cases hg;simp only [fX,aay,ao,dh] at hd;obtain⟨i,hc,hd⟩:=ZE.1 hd;obtain⟨ds',h1',rfl⟩:=ZF.1 hd;obtain⟨hb,rfl⟩:=bN hc;exact rest _ _ rfl h1' hbor' hio' (.inr (dv (hcv lv h2) (fun _ _=>rfl) (fun g _ ho=>⟨by simpa using hio 0 t rfl g ho.1,rfl⟩) (hI.own hk hb)))
   ·rename_i r hk
    split at hg
    case h_2=>cases hg
    rename_i z' lv io hkr;split at hg
    case h_2=>cases hg
    rename_i h1 h2;rw [aZ] at h1 h2;subst h1;cases hg;have hvia:nth δ t ≠ .bad→nth δ r ≠ .bad→cR w F' (fun g=>ow g=some i0) (.own z l' true) (nth δ r) (a.eval (.tmp t)):=by
     intro hbt hb;rw [cC,(hI.via hk hbt).1];exact .inr (dv (hcv lv h2) (fun _ _=>rfl) (fun g _ ho=>⟨by simpa using hio 0 r rfl g ho.1,rfl⟩) (hI.own hkr hb))
    cases htr:ZX t r
    ·simp only [fX,htr,ao,dh] at hd
     obtain⟨i,hc,hd⟩:=ZE.1 hd;obtain⟨i',hc',hd⟩:=ZE.1 hd;obtain⟨ds',h1',rfl⟩:=ZF.1 hd;obtain⟨hb,rfl⟩:=bN hc';unfold bn at hc;split at hc
     case h_2=>cases hc
     rename_i hr0;cases hc;exact rest _ _ rfl h1' hbor' hio' (hvia (by rw [hr0];simp) hb)
    ·have e:=aZ.1 htr
     subst e;rw [hk] at hkr;cases hkr
   ·cases hg
  ·rename_i n l'
   have hl1:=(hp4 n l' true rfl).2;have hcv:∀(lv:Nat),l'=lv→∀b,FB F B lv b→FB F' 0 l' b:=by
    intro lv e b hb;subst e
    match l',hl1 with
    | 0,_=>exact hb.elim
    | n+2,_=>exact hF b hb
   split at hg
   case h_2=>cases hg
   rename_i t;split at hg
   ·rename_i z' lv io hk
    split at hg
    case h_2=>cases hg
    rename_i h1 h2;rw [aZ] at h1 h2;subst h1;cases hg;simp only [fX,aay,ao,dh] at hd;obtain⟨i,hc,hd⟩:=ZE.1 hd;obtain⟨ds',h1',rfl⟩:=ZF.1 hd;obtain⟨hb,rfl⟩:=bN hc;exact rest _ _ rfl h1' hbor' hio' (.inr (vp (hcv lv h2) (fun _ _=>rfl) (fun g ho=>⟨by simpa using hio 0 t rfl g ho.1,rfl⟩) (hI.box hk hb)))
   ·rename_i r hk
    split at hg
    case h_2=>cases hg
    rename_i z' lv io hkr;split at hg
    case h_2=>cases hg
    rename_i h1 h2;rw [aZ] at h1 h2;subst h1;cases hg;cases htr:ZX t r
    ·simp only [fX,htr,ao,dh] at hd
     obtain⟨i,hc,hd⟩:=ZE.1 hd;obtain⟨i',hc',hd⟩:=ZE.1 hd;obtain⟨ds',h1',rfl⟩:=ZF.1 hd;obtain⟨hb,rfl⟩:=bN hc';unfold bn at hc;split at hc
     case h_2=>cases hc
     rename_i hr0;cases hc;obtain⟨ii,ff,h5,_,h6⟩:=hI.ref hk (by rw [hr0];simp);rw [hr0] at h5;cases h5;rw [hkr] at h6;obtain⟨g0,e1,e2⟩:=h6;refine rest _ _ rfl h1' hbor' hio' (.inr ?_)
     rw [cC,e2,←e1];exact vp (hcv lv h2) (fun _ _=>rfl) (fun g ho=>⟨by simpa using hio 0 r rfl g ho.1,rfl⟩) (hI.box hkr hb)
    ·have e:=aZ.1 htr
     subst e;rw [hk] at hkr;cases hkr
   ·cases hg
  ·cases hg
end
end Go.V

namespace Go.V
open Go.RowKit
set_option maxRecDepth 100000
section
variable {P:Program} {c:Cx} {B:Nat} {X:Nat→Prop} {w0:World} {F0 F:Nat→Prop} {O:Nat→Option (Nat × Nat)} {a:Act} {w:World} {δ:List D}
theorem gI {w w':World} {F F':Nat→Prop} {own own':Nat→Prop} {n:Nat} {d:D} {y:Value} (hF:∀b,F b→F' b) (hw:∀b,F b→w'.heap[b]?=w.heap[b]?)
  (ho:∀g,V.blk y=some g→own g→own' g∧w'.heap[g]?=w.heap[g]?) (h:Dj w F own n d y):Dj w' F' own' n d y:=by
 obtain⟨l,us,g,e,a1,rfl,a3,a4,a5,a6,a7⟩:=h;exact⟨l,us,g,e,a1,rfl,(ho g rfl a7).2.trans a3,bG hF hw _ _ a4,a5,a6,(ho g rfl a7).1⟩
theorem Dj.blk {F:Nat→Prop} {own:Nat→Prop} {n:Nat} {d:D} {y:Value} (h:Dj w F own n d y):∀b,V.blk y=some b→own b∧b<w.heap.size:=by
 intro b hb;obtain⟨l,us,g,e,a1,rfl,a3,a4,a5,a6,a7⟩:=h;simp [V.blk] at hb;subst hb;exact⟨a7,(aah.1 a3).1⟩
def we:List Ag→Nat→Nat→Option Nat
 | [],_,_=>none
 | .io _ q::l,r,i=>if q=r then some i else we l r (i+1)
 | .d _ _::l,r,i=>we l r (i+1)
 | .bor _ _::l,r,i=>we l r (i+1)
theorem uf:∀{l:List Ag} {r i j:Nat},we l r i=some j→r∈dD l
 | .io _ q::l,r,i,j,h=>by
  simp only [we] at h;split at h
  ·rename_i e;subst e;simp [dD]
  ·simp [dD,uf h]
 | .d _ _::l,r,i,j,h=>by simpa [dD] using uf (l:=l) h
 | .bor _ _::l,r,i,j,h=>by simpa [dD] using uf (l:=l) h
theorem uQ:∀{l:List Ag} {r j:Nat},DV l j=some r→r∈dD l
 | .io _ q::l,r,0,h=>by simp [DV] at h;simp [dD,h]
 | .io _ q::l,r,j+1,h=>by simp only [dD,ZJ];exact .inr (uQ (l:=l) h)
 | .d _ _::l,r,0,h=>by simp [DV] at h
 | .bor _ _::l,r,0,h=>by simp [DV] at h
 | .d _ _::l,r,j+1,h=>by simpa [dD] using uQ (l:=l) h
 | .bor _ _::l,r,j+1,h=>by simpa [dD] using uQ (l:=l) h
theorem uE {a:Nat} {l:List Nat} (h:lP (a::l)=true):a∉l∧lP l=true:=by
 simp only [lP,fx] at h;split at h
 ·cases h
 ·rename_i h1
  exact⟨by simpa using h1,h⟩
theorem EH:∀{l:List Ag} {r i j:Nat},lP (dD l)=true→DV l j=some r→we l r i=some (i+j)
 | .io _ q::l,r,i,0,_,h=>by simp [DV] at h;simp [we,h]
 | .io _ q::l,r,i,j+1,hn,h=>by
  obtain⟨h1,h2⟩:=uE hn;have h3:=uQ (l:=l) h;have hne:¬q=r:=fun e=>h1 (by rw [e];exact h3)
  simp only [we];rw [if_neg hne,EH (l:=l) h2 h];congr 1;omega
 | .d _ _::l,r,i,0,_,h=>by simp [DV] at h
 | .bor _ _::l,r,i,0,_,h=>by simp [DV] at h
 | .d _ _::l,r,i,j+1,hn,h=>by simp only [we];rw [EH (l:=l) hn h];congr 1;omega
 | .bor _ _::l,r,i,j+1,hn,h=>by simp only [we];rw [EH (l:=l) hn h];congr 1;omega
def NB (c:Cx) (a:Act) (δ:List D):List Ag→List Kd→List Operand→Prop
 | [],[],[]=>True
 | .io _ r::l,m::pm,x::xs=>(nth δ r ≠ .bad∧a.eval x=av a r∧((∃z lv io,m = .own z lv true∧aq c.K r = .own z lv io∧lv≠1)∨∃n lv io,m = .box n lv true∧aq c.K r = .box n lv io∧lv≠1))∧NB c a δ l pm xs
 | _::l,m::pm,_::xs=>mW m=false∧NB c a δ l pm xs
 | _,_,_=>False
theorem JZ {m:Kd} {pm:List Kd} (h:kA (m::pm)=true):kA pm=true∧(∀z lv,m = .own z lv true→lv≠1)∧∀n lv,m = .box n lv true→lv≠1:=by
 cases m with
 | dat lv =>
  simp only [kA] at h;split at h
  case h_2=>cases h
  exact⟨h,fun _ _ e=>(by cases e),fun _ _ e=>(by cases e)⟩
 | own z lv io =>
  cases io
  ·simp [kA] at h
  simp only [kA] at h;split at h
  case h_2=>cases h
  rename_i h1 h2;exact⟨h,fun _ l e=>by cases e;intro e;subst e;simp at h1,fun _ _ e=>(by cases e)⟩
 | box z lv io =>
  cases io
  ·simp [kA] at h
  simp only [kA] at h;split at h
  case h_2=>cases h
  rename_i h1 h2;exact⟨h,fun _ _ e=>(by cases e),fun _ l e=>by cases e;intro e;subst e;simp at h1⟩
 | _=>simp [kA] at h
theorem Sn {K:List Kd} {x:Operand} {m:Kd} {t r:Nat} (h:uC K x m=some (.bor t r)):∃lv,m = .dat lv:=by
 cases m with
 | dat lv=>exact⟨lv,rfl⟩
 | own z lv io =>
  exfalso;cases io
  ·simp [uC] at h
  ·simp only [uC] at h
   repeat (split at h<;>try cases h)
 | box z lv io =>
  exfalso;cases io
  ·simp [uC] at h
  ·simp only [uC] at h
   repeat (split at h<;>try cases h)
 | _=>simp [uC] at h
theorem WJ {K:List Kd} {x:Operand} {m:Kd} {t r:Nat} (h:uC K x m=some (.io t r)):x = .tmp t∧((∃z lv io,m = .own z lv true∧((t=r∧aq K t = .own z lv io)∨(aq K t = .via r∧aq K r = .own z lv io))) ∨
  ∃n lv io,m = .box n lv true∧((t=r∧aq K t = .box n lv io)∨(aq K t = .ref r∧aq K r = .box n lv io))):=by
 cases m with
 | dat lv =>
  exfalso;simp only [uC] at h
  repeat (split at h<;>try cases h)
 | own z lv io =>
  cases io
  ·simp [uC] at h
  ·simp only [uC] at h
   split at h
   case h_2=>cases h
   split at h
   ·rename_i hk
    split at h
    case h_2=>cases h
    rename_i h1 h2;rw [aZ] at h1 h2;cases h;exact⟨rfl,.inl ⟨_,_,_,rfl,.inl ⟨rfl,by rw [hk,h1,h2]⟩⟩⟩
   ·rename_i hk
    split at h
    case h_2=>cases h
    rename_i hk2;split at h
    case h_2=>cases h
    rename_i h1 h2;rw [aZ] at h1 h2;cases h;exact⟨rfl,.inl ⟨_,_,_,rfl,.inr ⟨hk,by rw [hk2,h1,h2]⟩⟩⟩
   ·cases h
 | box z lv io =>
  cases io
  ·simp [uC] at h
  ·simp only [uC] at h
   split at h
   case h_2=>cases h
   split at h
   ·rename_i hk
    split at h
    case h_2=>cases h
    rename_i h1 h2;rw [aZ] at h1 h2;cases h;exact⟨rfl,.inr ⟨_,_,_,rfl,.inl ⟨rfl,by rw [hk,h1,h2]⟩⟩⟩
   ·rename_i hk
    split at h
    case h_2=>cases h
    rename_i hk2;split at h
    case h_2=>cases h
    rename_i h1 h2;rw [aZ] at h1 h2;cases h;exact⟨rfl,.inr ⟨_,_,_,rfl,.inr ⟨hk,by rw [hk2,h1,h2]⟩⟩⟩
   ·cases h
 | _=>simp [uC] at h
theorem BW (hI:Inv c B X w0 F0 F O a w δ):∀(xs:List Operand) (pm:List Kd) (ags:List Ag) (ds:List D),kL c.K xs pm=some ags→kA pm=true→dh ags (ao δ (fX ags))=some ds→NB c a δ ags pm xs
 | [],[],ags,ds,h,_,_=>by
  simp only [kL,aaa] at h;subst h;trivial
 | [],_::_,_,_,h,_,_=>by simp [kL] at h
 | _::_,[],_,_,h,_,_=>by simp [kL] at h
 | x::xs,m::pm,ags,ds,h,hpm,hd=>by
  simp only [kL] at h;split at h
  case h_2=>cases h
  rename_i g l hg hl;cases h;obtain⟨hp1,hp2,hp3⟩:=JZ hpm;cases g with
  | d y chk =>
   have hnio:mW m=false:=by
    cases m with
    | own z lv io=>cases io<;>first | rfl | (simp only [uC] at hg;repeat (split at hg<;>try cases hg))
    | box z lv io=>cases io<;>first | rfl | (simp only [uC] at hg;repeat (split at hg<;>try cases hg))
    | _=>rfl
   have hd':∃ds',dh l (ao δ (fX l))=some ds':=by
    cases y with
    | tmp t =>
     simp only [app,ao,dh] at hd;split at hd
     ·obtain⟨ds',h1,_⟩:=ZF.1 hd
      exact⟨ds',h1⟩
     ·obtain⟨i,_,hd⟩:=ZE.1 hd
      obtain⟨ds',h1,_⟩:=ZF.1 hd;exact⟨ds',h1⟩
    | const v =>
     simp only [fX,app,dh] at hd;obtain⟨ds',h1,_⟩:=ZF.1 hd;exact⟨ds',h1⟩
    | func v =>
     simp only [fX,app,dh] at hd;obtain⟨ds',h1,_⟩:=ZF.1 hd;exact⟨ds',h1⟩
    | global v=>simp [dh] at hd
   obtain⟨ds',hd'⟩:=hd';exact⟨hnio,BW hI xs pm l ds' hl hp1 hd'⟩
  | bor t r =>
   have hnio:mW m=false:=by
    obtain⟨lv,e⟩:=Sn hg;rw [e];rfl
   have hd':∃ds',dh l (ao δ (fX l))=some ds':=by
    cases htr:ZX t r
    ·simp only [fX,htr,ao,dh] at hd
     obtain⟨i,_,hd⟩:=ZE.1 hd;obtain⟨ds',h1,_⟩:=ZF.1 hd;exact⟨ds',h1⟩
    ·simp only [fX,htr,ao,dh] at hd
     obtain⟨ds',h1,_⟩:=ZF.1 hd;exact⟨ds',h1⟩
   obtain⟨ds',hd'⟩:=hd';exact⟨hnio,BW hI xs pm l ds' hl hp1 hd'⟩
  | io t r =>
   obtain⟨rfl,hk⟩:=WJ hg;have main:(nth δ r ≠ .bad∧(t=r∨nth δ t = .ref 0 0))∧∃ds',dh l (ao δ (fX l))=some ds':=by
    cases htr:ZX t r
    ·simp only [fX,htr,ao,dh] at hd
     obtain⟨i,hc,hd⟩:=ZE.1 hd;obtain⟨i',hc',hd⟩:=ZE.1 hd;obtain⟨ds',h1,_⟩:=ZF.1 hd;obtain⟨hb,rfl⟩:=bN hc';unfold bn at hc;split at hc
     case h_2=>cases hc
     rename_i hr0;cases hc;exact⟨⟨hb,.inr hr0⟩,ds',h1⟩
    ·have e:=aZ.1 htr
     subst e;simp only [fX,htr,ao,dh] at hd;obtain⟨i',hc',hd⟩:=ZE.1 hd;obtain⟨ds',h1,_⟩:=ZF.1 hd;exact⟨⟨(bN hc').1,.inl rfl⟩,ds',h1⟩
   obtain⟨⟨hb,hre⟩,ds',hd'⟩:=main;refine⟨⟨hb,?_,?_⟩,BW hI xs pm l ds' hl hp1 hd'⟩
   ·rcases hre with e | hr0
    ·rw [e];rfl
    ·rcases hk with ⟨z,lv,io,_,h2⟩ | ⟨n,lv,io,_,h2⟩
     ·rcases h2 with ⟨e,_⟩ | ⟨h3,h4⟩
      ·rw [e];rfl
      ·exact(hI.via h3 (by rw [hr0];simp)).1
     ·rcases h2 with ⟨e,_⟩ | ⟨h3,h4⟩
      ·rw [e];rfl
      ·obtain⟨ii,ff,h5,_,h6⟩:=hI.ref h3 (by rw [hr0];simp)
       rw [hr0] at h5;cases h5;rw [h4] at h6;obtain⟨g0,e1,e2⟩:=h6;rw [cC,e1,e2]
   ·rcases hk with ⟨z,lv,io,h1,h2⟩ | ⟨n,lv,io,h1,h2⟩
    ·refine .inl ⟨z,lv,io,h1,?_,hp2 z lv h1⟩
     rcases h2 with ⟨e,h2⟩ | ⟨_,h2⟩
     ·rw [←e];exact h2
     ·exact h2
    ·refine .inr ⟨n,lv,io,h1,?_,hp3 n lv h1⟩
     rcases h2 with ⟨e,h2⟩ | ⟨_,h2⟩
     ·rw [←e];exact h2
     ·exact h2
def Za (w':World) (F':Nat→Prop) (k:Kd) (u:D) (y:Value):Prop :=
 u ≠ .bad∧match k with
  | .own z lv _=>lv≠1∧fY w' (FB F' 0 lv) (fun _=>True) z u y
  | .box n lv _=>lv≠1∧Dj w' (FB F' 0 lv) (fun _=>True) n u y
  | _=>False
theorem CR {w':World} {F':Nat→Prop}:∀(ags:List Ag) (pm:List Kd) (xs:List Operand) (us:List D),NB c a δ ags pm xs→qI w' F' pm us (xs.map a.eval) →
  us.length=(dD ags).length∧∀(m r:Nat),(dD ags)[m]?=some r→nth δ r ≠ .bad∧∃u:D,us[m]?=some u∧Za w' F' (aq c.K r) u (av a r)
 | [],[],[],us,_,hu=>by
  cases us with
  | nil=>simp [dD]
  | cons u us=>simp [qI] at hu
 | .io t r::l,m::pm,x::xs,us,h,hu=>by
  obtain⟨⟨h1,h2,h3⟩,h4⟩:=h;simp only [ZI,qI] at hu;have hio:mW m=true:=by rcases h3 with ⟨z,lv,io,rfl,_⟩ | ⟨n,lv,io,rfl,_⟩<;>rfl
  rw [if_pos hio] at hu;cases us with
  | nil=>exact hu.elim
  | cons u us =>
   obtain⟨u1,u2,u3⟩:=hu;obtain⟨g1,g2⟩:=CR l pm xs us h4 u3;refine⟨by simp [dD,g1],fun j q hj=>?_⟩
   cases j with
   | zero =>
    simp only [dD,aas,aaa] at hj;subst hj;refine⟨h1,u,rfl,u1,?_⟩
    rw [h2] at u2;have u2:=u2.resolve_left u1;rcases h3 with ⟨z,lv,io,rfl,hk,hlv⟩ | ⟨n,lv,io,rfl,hk,hlv⟩
    ·rw [hk];exact⟨hlv,u2⟩
    ·rw [hk];exact⟨hlv,u2⟩
   | succ j =>
    simp only [dD,List.getElem?_cons_succ] at hj;exact g2 j q hj
 | .d y chk::l,m::pm,x::xs,us,h,hu=>by
  obtain⟨h1,h2⟩:=h;simp only [ZI,qI,h1] at hu;exact CR l pm xs us h2 hu
 | .bor y chk::l,m::pm,x::xs,us,h,hu=>by
  obtain⟨h1,h2⟩:=h;simp only [ZI,qI,h1] at hu;exact CR l pm xs us h2 hu
 | [],[],_::_,_,h,_=>h.elim
 | [],_::_,_,_,h,_=>h.elim
 | .io _ _::_,[],_,_,h,_=>h.elim
 | .io _ _::_,_::_,[],_,h,_=>h.elim
 | .d _ _::_,[],_,_,h,_=>h.elim
 | .d _ _::_,_::_,[],_,h,_=>h.elim
 | .bor _ _::_,[],_,_,h,_=>h.elim
 | .bor _ _::_,_::_,[],_,h,_=>h.elim
theorem Qd (us:List D):∀(ios:List Nat) (j:Nat),j+ios.length≤us.length→mO.go us j ios=(us.drop j).take ios.length
 | [],j,_=>by simp [mO.go]
 | _::l,j,h=>by
  simp only [aan] at h;simp only [mO.go];rw [Qd us l (j+1) (by omega)];have hj:j<us.length:=by omega
  rw [aai hj,aan,List.take_succ_cons,fp,ZH,aao hj];rfl
theorem sI:∀(ss:List Nat) (ds δ:List D) (m s:Nat),lP ss=true→ss[m]?=some s→s<δ.length→nth (aj δ ss ds) s=nth ds m
 | t::ss,[],δ,m,s,hn,hm,hl=>by
  rw [ll _ _ _ (List.mem_of_getElem? hm)]
 | t::ss,d::ds,δ,0,s,hn,hm,hl=>by
  obtain⟨h1,h2⟩:=uE hn;simp at hm;subst hm;simp only [aj];rw [aD _ _ _ _ h1,bH,if_pos hl]
 | t::ss,d::ds,δ,m+1,s,hn,hm,hl=>by
  obtain⟨h1,h2⟩:=uE hn;simp only [aj];rw [sI ss ds _ m s h2 (by simpa using hm) (by rw [gi];exact hl)]
theorem QV {d:Nat} {l:List Nat} (h1:lF d l=false) (h2:lP l=true):lP ([d]++l)=true:=by
 simp only [aap,ZU,lP,h1];exact h2
theorem Kr:∀{l m:List Nat},Gj l m=true→∀x∈l,x∉m
 | a::l,m,h,x,hx=>by
  simp only [Gj,fx] at h;split at h
  ·cases h
  ·rename_i h1
   rcases ZJ.1 hx with rfl | hx
   ·simpa using h1
   ·exact Kr h x hx
theorem Vr {K:List Kd} {r:Nat} (h:dP K r):r<K.length:=by
 by_cases hd:r<K.length
 ·exact hd
 ·exfalso
  have:∀(K:List Kd) (r:Nat),¬r<K.length→aq K r = .no:=by
   intro K;induction K with
   | nil=>intro r _;rfl
   | cons k K ih =>
    intro r hr;cases r with
    | zero=>simp at hr
    | succ r=>exact ih r (by simpa using hr)
  rw [dP,this K r hd] at h;exact h
theorem Fc {m:Kd} {pm:List Kd} (h:io0 (m::pm)=true):io0 pm=true∧(∀z lv io,m = .own z lv io→lv=0)∧∀n lv io,m = .box n lv io→lv=0:=by
 cases m with
 | own z lv io =>
  simp only [io0] at h;split at h
  case h_2=>cases h
  rename_i h0;exact⟨h,fun _ _ _ e=>by cases e;exact aZ.1 h0,fun _ _ _ e=>(by cases e)⟩
 | box z lv io =>
  simp only [io0] at h;split at h
  case h_2=>cases h
  rename_i h0;exact⟨h,fun _ _ _ e=>(by cases e),fun _ _ _ e=>by cases e;exact aZ.1 h0⟩
 | _=>exact⟨by simpa only [io0] using h,fun _ _ _ e=>(by cases e),fun _ _ _ e=>(by cases e)⟩
theorem ME:∀(ags:List Ag) (pm:List Kd) (xs:List Operand),NB c a δ ags pm xs→io0 pm=true→∀(m r:Nat),(dD ags)[m]?=some r→∀lv,((∃z io,aq c.K r = .own z lv io)∨∃n io,aq c.K r = .box n lv io)→lv=0
 | [],_,_,_,_,m,r,hm,_,_=>by simp [dD] at hm
 | .io t q::l,m::pm,x::xs,h,h0,j,r,hj,lv,hk=>by
  obtain⟨⟨_,_,h3⟩,h4⟩:=h;obtain⟨g1,g2,g3⟩:=Fc h0;cases j with
  | zero =>
   simp only [dD,aas,aaa] at hj;subst hj;rcases h3 with ⟨z,lv',io,rfl,hk',_⟩ | ⟨n,lv',io,rfl,hk',_⟩
   ·have:=g2 z lv' true rfl
    subst this;rw [hk'] at hk;rcases hk with ⟨_,_,e⟩ | ⟨_,_,e⟩<;>cases e;rfl
   ·have:=g3 n lv' true rfl
    subst this;rw [hk'] at hk;rcases hk with ⟨_,_,e⟩ | ⟨_,_,e⟩<;>cases e;rfl
  | succ j=>exact ME l pm xs h4 g1 j r (by simpa [dD] using hj) lv hk
 | .d _ _::l,m::pm,x::xs,h,h0,j,r,hj,lv,hk=>ME l pm xs h.2 (Fc h0).1 j r (by simpa [dD] using hj) lv hk
 | .bor _ _::l,m::pm,x::xs,h,h0,j,r,hj,lv,hk=>ME l pm xs h.2 (Fc h0).1 j r (by simpa [dD] using hj) lv hk
 | .io _ _::_,[],_,h,_,_,_,_,_,_=>h.elim
 | .io _ _::_,_::_,[],h,_,_,_,_,_,_=>h.elim
 | .d _ _::_,[],_,h,_,_,_,_,_,_=>h.elim
 | .d _ _::_,_::_,[],h,_,_,_,_,_,_=>h.elim
 | .bor _ _::_,[],_,h,_,_,_,_,_,_=>h.elim
 | .bor _ _::_,_::_,[],h,_,_,_,_,_,_=>h.elim
theorem rc (hI:Inv c B X w0 F0 F O a w δ) {S:FS} {ags:List Ag} {xs:List Operand} {ds rs us:List D} {F':Nat→Prop} {R:Nat→Option Nat} {vs:List Value} {w':World} {v:Value} {dst:Option Nat} {x:List D}
  (hags:kL c.K xs S.pm=some ags) (hpm:kA S.pm=true) (hds:dh ags (ao δ (fX ags))=some ds) (hnd:lP (dD ags)=true)
  (hbor:gU ags=[]∨(uz S.rm=true∧io0 S.pm=true))
  (hpost:CallPost S (xs.map a.eval).toArray rs us w (fun b=>F b∨∃r∈gU ags,O b=some (r,0)) (fun b=>match O b with
   | some (r,0)=>we ags r 0
   | _=>none) F' R vs w')
  (hdx:(dst=none∧x=[])∨∃d y,dst=some d∧x=[y]∧lF d (dD ags)=false) (g:Nat→Option (Nat × Nat)) (hg:∀j p,g j=some p→∀d,dst=some d→p.1=d) (hgn:dst=none→∀j,g j=none)
  (hU:∀(F2:Nat→Prop) (O2:Nat→Option (Nat × Nat)),(∀lv b,(gU ags=[]∨lv≤1)→FB F' w.heap.size lv b→FB F2 B lv b)→(∀b j,R b=some j→O2 b=g j∧B≤b∧(g j=none→F2 b))→∀d y,dst=some d→x=[y]→d<δ.length→xZ c.K B F2 O2 (a.put dst v) w' d y) :
  ∃F2 O2,Inv c B X w0 F0 F2 O2 (a.put dst v) w' (aj δ (dst.toList++(dD ags++aY c.K dst.toList)) (x++us)):=by
 have hB:=hI.bb;have hioA:=BW hI xs S.pm ags ds hags hpm hds;obtain⟨hul,hun⟩:=CR (c:=c) (a:=a) (δ:=δ) ags S.pm xs us hioA (by simpa using hpost.us);have hkeep:∀b,b<w.heap.size→(∀p,O b=some p→p.1∉dD ags)→w'.heap[b]?=w.heap[b]?:=by
  intro b hb hp;refine hpost.keep b hb ?_
  split
  ·rename_i r he
   cases h:we ags r 0 with
   | none=>rfl
   | some j=>exact absurd (uf h) (hp _ he)
  ·rfl
 have hRn:∀b,b<w.heap.size→R b=none:=fun b hb=>by
  cases h:R b with
  | none=>rfl
  | some j=>have:=(hpost.rn b j h).1;omega
 let F2:Nat→Prop:=fun b=>F b∨(F' b∧w.heap.size≤b)∨∃j,R b=some j∧g j=none
 let O2:Nat→Option (Nat × Nat):=fun b=>match R b with
  | some j=>g j
  | none=>O b
 have hO2n:∀b,R b=none→O2 b=O b:=fun b h=>by simp only [O2,h]
 have hO2s:∀b j,R b=some j→O2 b=g j:=fun b j h=>by simp only [O2,h]
 have hOlt:∀b,w.heap.size≤b→O b=none:=fun b hb=>by
  cases h:O b with
  | none=>rfl
  | some p=>have:=(hI.ol b p h).1;omega
 have hlv:∀lv b,(gU ags=[]∨lv≤1)→FB F' w.heap.size lv b→FB F2 B lv b:=by
  intro lv b hbl hb
  match lv,hbl,hb with
  | 0,_,hb=>exact hb.elim
  | 1,_,hb=>exact⟨.inr (.inl hb),aaf hB hb.2⟩
  | n+2,hbl,hb =>
   have he:gU ags=[]:=hbl.resolve_right (by omega);rcases(hpost.fn b hb).1 with h1 | h1
   ·rcases h1 with h1 | ⟨r,hr,_⟩
    ·exact .inl h1
    ·rw [he] at hr;cases hr
   ·exact .inr (.inl ⟨hb,h1⟩)
 have hnd2:lP (dst.toList++dD ags)=true:=by
  rcases hdx with ⟨rfl,_⟩ | ⟨d,y,rfl,_,hm⟩
  ·exact hnd
  ·exact QV hm hnd
 have hlen:(x++us).length=(dst.toList++dD ags).length:=by
  rcases hdx with ⟨rfl,rfl⟩ | ⟨d,y,rfl,rfl,_⟩<;>simp [hul]
 have hlt:∀r,dP c.K r→r<δ.length:=fun r hr=>by
  rw [hI.ld];exact Vr hr
 have hgetio:∀(m r:Nat),(dD ags)[m]?=some r→dP c.K r→nth (aj δ (dst.toList++dD ags) (x++us)) r=nth us m:=by
  intro m r hm hr;rcases hdx with ⟨rfl,rfl⟩ | ⟨d,y,rfl,rfl,_⟩
  ·exact sI _ _ _ m r hnd (by simpa using hm) (hlt r hr)
  ·have:=sI (δ:=δ) ([d]++dD ags) ([y]++us) (m:=m+1) (s:=r) hnd2 (by simpa using hm) (hlt r hr)
   simpa [nth] using this
 have hrootIo:∀(m r:Nat),(dD ags)[m]?=some r→dP c.K r:=by
  intro m r hm;obtain⟨_,u,_,hn⟩:=hun m r hm;obtain⟨_,hn⟩:=hn;unfold dP;generalize aq c.K r=kk at hn;cases kk<;>first | exact hn.elim | trivial
 refine⟨F2,O2,hI.many hlen (by cases dst<;>simp [Act.put]) (by cases dst<;>rfl) (fun s hs=>?_) (fun r hr _ hb=>?_) (fun s hs=>?_) (fun _ hb=>.inl hb) (fun b hb=>?_) (fun b p hp hm=>?_) (fun b hb=>?_) (fun b p hp=>?_) (fun b hb=>?_) hpost.size hpost.os hpost.tape hpost.output (fun b hb hx=>?_)⟩
 ·cases dst with
  | none=>rfl
  | some d=>exact cQ fun e=>hs (by simp [e])
 ·obtain⟨m,hm⟩:=List.getElem?_of_mem hr
  obtain⟨_,u,hu,hn⟩:=hun m r hm;rw [hgetio m r hm (hrootIo m r hm),fp,ZH,hu];exact hn.1
 ·rcases List.mem_append.1 hs with hs | hs
  ·rcases hdx with ⟨rfl,_⟩ | ⟨d,y,rfl,rfl,_⟩
   ·cases hs
   ·have:s=d:=by simpa using hs
    subst this;by_cases hsl:s<δ.length
    ·have e:=sI (δ:=δ) ([s]++dD ags) ([y]++us) (m:=0) (s:=s) hnd2 rfl hsl
     simp only [Option.toList_some] at e ⊢;rw [e];exact hU F2 O2 hlv (fun b j hj=>⟨hO2s b j hj,aaf hB (hpost.rn b j hj).1,fun hn=>.inr (.inr ⟨j,hj,hn⟩)⟩) s y rfl rfl hsl
    ·refine .inl ?_
     have:∀(l:List D) (n:Nat),¬n<l.length→nth l n = .bad:=fun l n h=>by
      rw [fp,ZH,ZR (by omega)];rfl
     exact this _ _ (by rw [dz];exact hsl)
  ·have hs':=hs
   obtain⟨m,hm⟩:=List.getElem?_of_mem hs;have hr:=hrootIo m s hm;obtain⟨hb,u,hu,hn⟩:=hun m s hm;rw [hgetio m s hm hr,fp,ZH,hu];have hav:av (a.put dst v) s=av a s:=by
    cases dst with
    | none=>rfl
    | some d =>
     refine cQ ?_
     rcases hdx with ⟨h,_⟩ | ⟨d',y,h,_,hm'⟩
     ·cases h
     ·cases h
      rintro rfl;rw [fx] at hm';exact(of_decide_eq_false hm') hs'
   refine .inr ?_
   obtain⟨hn1,hn2⟩:=hn;have hbl:∀lv,lv≠1→(gU ags=[]∨lv≤1)→∀b,FB F' 0 lv b→FB F2 B lv b:=by
    intro lv h1 h2 b hb;refine hlv lv b h2 ?_
    match lv,h1 with
    | 0,_=>exact hb
    | n+2,_=>exact hb
   have hlv1:∀lv,(∃z io,aq c.K s = .own z lv io)∨(∃n io,aq c.K s = .box n lv io)→gU ags=[]∨lv≤1:=by
    intro lv hk;rcases hbor with h | ⟨_,h0⟩
    ·exact .inl h
    ·right
     have:=ME ags S.pm xs hioA h0 m s hm lv hk;omega
   generalize hks:aq c.K s=kk at hn2;cases kk with
   | own z lv io =>
    refine .inr ?_
    obtain⟨h1,h2⟩:=hn2;rw [hav];have hown:=(hI.own hks hb).blk;exact dv (hbl lv h1 (hlv1 lv (.inl ⟨z,io,hks⟩))) (fun _ _=>rfl) (fun b hbk _=>⟨⟨(hO2n b (hRn b (hown b hbk).2)).trans (hown b hbk).1.1,(hown b hbk).1.2⟩,rfl⟩) h2
   | box n lv io =>
    refine .inr ?_
    obtain⟨h1,h2⟩:=hn2;rw [hav];have hown:=(hI.box hks hb).blk;exact gI (hbl lv h1 (hlv1 lv (.inr ⟨n,io,hks⟩))) (fun _ _=>rfl) (fun b hbk _=>⟨⟨(hO2n b (hRn b (hown b hbk).2)).trans (hown b hbk).1.1,(hown b hbk).1.2⟩,rfl⟩) h2
   | _=>exact hn2.elim
 ·exact hkeep b (hI.fl b hb).1 fun p hp=>by rw [(hI.fl b hb).2] at hp;cases hp
 ·have hb:=(hI.ol b p hp).1
  exact⟨(hO2n b (hRn b hb)).trans hp,hkeep b hb fun q hq=>by rw [hp] at hq;cases hq;exact fun hm'=>hm (aae _ hm')⟩
 ·rcases hb with hb | hb | ⟨j,hj,hn⟩
  ·obtain⟨h1,h2⟩:=hI.fl b hb
   exact⟨ZQ h1 hpost.size,(hO2n b (hRn b h1)).trans h2⟩
  ·obtain⟨_,h1,h2⟩:=hpost.fn b hb.1
   exact⟨h1,(hO2n b h2).trans (hOlt b hb.2)⟩
  ·exact⟨(hpost.rn b j hj).2,(hO2s b j hj).trans hn⟩
 ·cases h:R b with
  | none =>
   rw [hO2n b h] at hp;exact⟨ZQ (hI.ol b p hp).1 hpost.size,(hI.ol b p hp).2⟩
  | some j=>exact⟨(hpost.rn b j h).2,.inl (aaf hB (hpost.rn b j h).1)⟩
 ·rcases hb with hb | hb | ⟨j,hj,_⟩
  ·exact .inl hb
  ·exact .inr (aaf hB hb.2)
  ·exact .inr (aaf hB (hpost.rn b j hj).1)
 ·refine hkeep b (ZQ hb hB) fun p hp=>?_
  rcases(hI.ol b p hp).2 with h1 | h1
  ·omega
  ·exact absurd h1 hx
theorem OP:∀{ms:List Kd},uz ms=true→∀i lv,(aq ms i = .dat lv∨∃z io,aq ms i = .own z lv io)→lv≤1
 | [],_,i,lv,hk=>by simp [aq] at hk
 | m::ms,h,i,lv,hk=>by
  have:(∀l,m = .dat l→l≤1)∧(∀z l io,m = .own z l io→l≤1)∧uz ms=true:=by
   cases m with
   | dat a =>
    simp only [uz] at h;split at h
    case h_2=>cases h
    rename_i e;exact⟨fun l e'=>by cases e';exact bO.1 e,fun _ _ _ e=>(by cases e),h⟩
   | own z a io =>
    simp only [uz] at h;split at h
    case h_2=>cases h
    rename_i e;exact⟨fun _ e=>(by cases e),fun _ l _ e'=>by cases e';exact bO.1 e,h⟩
   | _=>simp [uz] at h
  obtain⟨h1,h2,h3⟩:=this;cases i with
  | zero =>
   simp only [aq] at hk;rcases hk with hk | ⟨z,io,hk⟩
   ·exact h1 lv hk
   ·exact h2 z lv io hk
  | succ i=>exact OP h3 i lv hk
theorem PM {o:Oper} {q:Call} {f:Nat} (ho:o.op = .call q) (hf:q.callee = .value (.func f)):(execOp a.eval o).run P w=(callFunc f (q.args.map a.eval)).run P w:=by
 simp [execOp,ho,resolve,hf,Deferred.ofValue,Act.eval,invoke]
theorem PO {o:Oper} {q:Call} {t f:Nat} {us:Array Value} (ho:o.op = .call q) (hf:q.callee = .value (.tmp t)) (hv:av a t = .func (.func f) #[] us):(execOp a.eval o).run P w=(callFunc f (q.args.map a.eval++us)).run P w:=by
 have hv':a.eval (.tmp t) = .func (.func f) #[] us:=hv;simp [execOp,ho,resolve,hf,Deferred.ofValue,hv',invoke]
theorem wu {w:World} {F:Nat→Prop} {ow:Nat→Option Nat}:∀(pm pn:List Kd) (ds cs:List D) (ys us:List Value) (i:Nat),dU w F ow i pm ds ys→dU w F ow (i+pm.length) pn cs us→dU w F ow i (pm++pn) (ds++cs) (ys++us)
 | [],pn,[],cs,[],us,i,_,h=>by simpa using h
 | k::pm,pn,d::ds,cs,y::ys,us,i,h1,h2=>⟨h1.1,wu pm pn ds cs ys us (i+1) h1.2 (by rw [show i+1+pm.length=i+(k::pm).length by simp;omega];exact h2)⟩
 | [],_,_::_,_,_,_,_,h,_=>h.elim
 | [],_,[],_,_::_,_,_,h,_=>h.elim
 | _::_,_,[],_,_,_,_,h,_=>h.elim
 | _::_,_,_::_,_,[],_,_,h,_=>h.elim
theorem KV {K:List Kd}:∀(xs:List Operand) (pm:List Kd) (ags:List Ag),kL K xs pm=some ags→pm.length=xs.length
 | [],[],_,_=>rfl
 | x::xs,m::ms,ags,h=>by
  simp only [kL] at h;split at h
  ·rename_i h1 h2
   simp [KV xs ms _ h2]
  ·cases h
 | [],_::_,_,h=>by simp [kL] at h
 | _::_,[],_,h=>by simp [kL] at h
theorem MX {α:Type}:∀(n:Nat) (l:List α),Gm n l=l.take n
 | 0,l=>by simp [Gm]
 | n+1,[]=>by simp [Gm]
 | n+1,_::l=>by simp [Gm,MX n l]
theorem Qr {w:World} {F:Nat→Prop} {ow:Nat→Option Nat}:∀(pn:List Kd) (cs:List D) (us:List Value) (i:Nat),nD pn=true→cs.length=pn.length→cs.all D.single=true→bW w F cs us→dU w F ow i pn cs us
 | [],[],us,i,_,_,_,h=>by
  rw [aW] at h;subst h;trivial
 | k::pn,d::cs,us,i,hk,hl,hs,h=>by
  obtain⟨v1,v2,rfl,h1,h2⟩:=aA.1 h;simp only [List.all_cons,aad] at hs;obtain⟨y,rfl,_⟩:=oM d v1 hs.1 h1;cases k with
  | dat lv =>
   simp only [nD] at hk;split at hk
   case h_2=>cases hk
   rename_i e;rw [aZ] at e;subst e;exact⟨.inr ((gB hs.1).2 h1),Qr pn cs v2 (i+1) hk (by simpa using hl) hs.2 h2⟩
  | _=>simp [nD] at hk
 | [],_::_,_,_,_,hl,_,_=>by simp at hl
 | _::_,[],_,_,_,hl,_,_=>by simp at hl
theorem Ga {w:World} {F:Nat→Prop}:∀(pm pn:List Kd) (us:List D) (ys zs:List Value),pm.length=ys.length→nD pn=true→qI w F (pm++pn) us (ys++zs)→qI w F pm us ys
 | [],pn,us,[],zs,_,hn,h=>by
  have:∀(pn:List Kd) (us:List D) (zs:List Value),nD pn=true→qI w F pn us zs→us=[]:=by
   intro pn;induction pn with
   | nil =>
    intro us zs _ h;cases us with
    | nil=>rfl
    | cons u us=>exact h.elim
   | cons k pn ih =>
    intro us zs hk h;cases k with
    | dat lv =>
     cases zs with
     | nil=>cases us<;>exact h.elim
     | cons z zs =>
      simp only [qI,mW,aaz,if_false] at h;simp only [nD] at hk;split at hk
      ·exact ih us zs hk h
      ·cases hk
    | _=>simp [nD] at hk
  have e:=this pn us zs hn (by simpa using h);subst e;trivial
 | k::pm,pn,us,y::ys,zs,hl,hn,h=>by
  simp only [aap,qI] at h ⊢;split
  ·rename_i hk
   rw [if_pos hk] at h;cases us with
   | nil=>exact h
   | cons u us=>exact⟨h.1,h.2.1,Ga pm pn us ys zs (by simpa using hl) hn h.2.2⟩
  ·rename_i hk
   rw [if_neg hk] at h;exact Ga pm pn us ys zs (by simpa using hl) hn h
 | [],_,_,_::_,_,hl,_,_=>by simp at hl
 | _::_,_,_,[],_,hl,_,_=>by simp at hl
theorem RN (hS:∀f S,dr c.S f=some S→aw c.G P f S) {o:Oper} {q:Call} {t f:Nat} {S:FS} (ho:o.op = .call q) (hf:q.callee = .value (.tmp t)) (hlk:dr c.S f=some S) {A:Ac} (hA:Ny c o.dst t f S q.args.toList=some A) (hI:Inv c B X w0 F0 F O a w δ)
  {k:List D→Option Out} {r:Out} (hg:dM c A δ k=some r) (Q:Exit→Act→World→Prop):o.wp P a w (Next c B X w0 F0 k r) Q:=by
 have hM:=hS f S hlk;unfold Ny at hA;split at hA
 case h_2=>cases hA
 rename_i d lt lr hd hkt hrm;split at hA
 case h_2=>cases hA
 rename_i ags l hags hkd;split at hA
 case h_2=>cases hA
 rename_i hlr hlt hpm hdat hio hbor;cases hA;rw [lV,MX] at hags hpm;rw [lV,AO] at hdat;rw [bO] at hlr hlt;simp only [dM,ao] at hg;obtain⟨caps,hc1,hg⟩:=ZE.1 hg;rw [ir] at hg;obtain⟨ds,h1,hg⟩:=ZE.1 hg;simp only [ZU] at hg;unfold callK at hg;split at hg
 case h_2=>cases hg
 rename_i rs us h2;unfold Xi at hc1;split at hc1
 case h_2=>cases hc1
 rename_i g0 l0 hclo;split at hc1
 case isFalse=>cases hc1
 rename_i hcc;cases hc1;obtain⟨rfl,hcl,hcs⟩:=hcc;have hbt:nth δ t ≠ .bad:=fun e=>by rw [e] at hclo;cases hclo
 have hst:=(hI.slot t).resolve_left hbt;rw [hkt] at hst;have hrep:=hst.resolve_left hbt;rw [hclo] at hrep;simp only [bf,RepC] at hrep;obtain⟨uv,hav,hru⟩:=hrep;simp only [ZG,and_true] at hav;have hpmE:S.pm=S.pm.take q.args.toList.length++S.pm.drop q.args.toList.length:=(List.take_append_drop _ _).symm;have hlenA:=KV _ _ _ hags;have hFB:∀b,FB F B lt b→F b:=gz;have hargs:=Mn (F':=F) (ow:=fun _=>none) hI (fun _ h=>h) q.args.toList _ ags 0 ds hags hpm h1 (fun r hr b hb=>by rw [hbor] at hr;cases hr) (fun j r hj b hb=>by
  have:=uQ hj;rw [hio] at this;cases this)
 have hcaps:=Qr (w:=w) (F:=F) (ow:=fun _=>none) (S.pm.drop q.args.toList.length) caps uv (0+(S.pm.take q.args.toList.length).length) hdat (by rw [hcl,lV,lV,AO]) hcs (bG hFB (fun _ _=>rfl) _ _ hru);have hall:=wu _ _ _ _ _ _ 0 hargs hcaps;rw [←hpmE] at hall;have he:=hM (ds++caps) rs us h2 ((q.args.toList.map a.eval).toArray++uv.toArray) w F (fun _=>none) hI.gl (by simpa using hall) (fun b hb=>⟨(hI.fl b hb).1,rfl⟩) (fun b i hb=>by cases hb) o a (Next c B X w0 F0 k r) Q (fun v w' hp=>?_)
 ·unfold Oper.wp
  rw [PO ho hf hav];have:q.args.map a.eval=(q.args.toList.map a.eval).toArray:=by rw [←aaq,ZW]
  rw [this];exact he
 ·obtain⟨F',R,vs,hv,hp⟩:=hp
  have hpost:CallPost {pm:=S.pm.take q.args.toList.length,rm:=S.rm,f:=S.f} (q.args.toList.map a.eval).toArray rs us w (fun b=>F b∨∃r∈gU ags,O b=some (r,0)) (fun b=>match O b with
   | some (r,0)=>we ags r 0
   | _=>none) F' R vs w':=by
   refine⟨hp.os,hp.tape,hp.output,hp.size,fun b hb _=>hp.keep b hb rfl,fun b hb=>?_,fun b hb=>⟨?_,(hp.fn b hb).2⟩,hp.rn,hp.len,hp.lenD,hp.res,?_⟩
   ·rcases hb with hb | ⟨r,hr,_⟩
    ·exact hp.f0 b hb
    ·rw [hbor] at hr;cases hr
   ·rcases(hp.fn b hb).1 with h | h
    ·exact .inl (.inl h)
    ·exact .inr h
   ·have hu:=hp.us
    rw [hpmE] at hu;simp only [Array.toList_append] at hu;exact Ga _ _ _ _ _ (by simpa using hlenA) hdat hu
  have hvl:=hp.len;rw [hrm] at hvl;obtain⟨y,rfl⟩:=aab.1 hvl;simp only [jW] at hv;subst hv;have hres:=hp.res 0;rw [hrm] at hres;simp only [aq,aaw] at hres;have hsz:d<δ.length→av (a.put (some d) v) d=v:=fun h=>dT (by rw [hI.la,←hI.ld];exact h)
  obtain⟨F2,O2,hI'⟩:=rc (S:={pm:=S.pm.take q.args.toList.length,rm:=S.rm,f:=S.f}) (v:=v) (dst:=some d) (x:=[nth rs 0]) hI hags hpm h1 (by simp [hio,lP]) (.inl hbor) hpost (.inr ⟨d,nth rs 0,rfl,rfl,by simp [hio,lF]⟩) (fun _=>none) (fun _ _ h=>by cases h) (fun _ _=>rfl) (fun F2 O2 h4 h5 d' y' e1 e2 h6=>by
   cases e1;simp only [ZG,and_true] at e2;subst e2;by_cases hb:nth rs 0 = .bad
   ·exact .inl hb
   ·refine .inr ?_
    rw [hkd,hsz h6];exact .inr (aK (fun b hb=>mM hlr _ (h4 lr b (.inl hbor) hb)) (fun _ _=>rfl) (hres.resolve_left hb)))
  have hus:us=[]:=by
   have h3:=(CR (c:=c) (a:=a) (δ:=δ) ags _ q.args.toList us (BW hI _ _ _ _ hags hpm h1) (by simpa using hpost.us)).1;rw [hio] at h3;exact List.eq_nil_of_length_eq_zero h3
  subst hus;refine⟨F2,O2,_,by rw [hd];exact hI',?_⟩
  rw [hio];simpa using hg
theorem oZ {r:Out}:∀{l:List D} {o:Option Out},lvC l o=some r→o=some r∧∀u∈l,u ≠ .bad
 | [],o,h=>⟨h,fun u hu=>by cases hu⟩
 | u::l,o,h=>by
  simp only [lvC] at h;obtain⟨z,hz,h⟩:=ZE.1 h;obtain⟨h1,h2⟩:=oZ h;refine⟨h1,fun v hv=>?_⟩
  rcases ZJ.1 hv with rfl | hv
  ·intro e
   subst e;cases hz
  ·exact h2 v hv
theorem PW (hS:∀f S,dr c.S f=some S→aw c.G P f S) {o:Oper} {q:Call} {f:Nat} {S:FS} (ho:o.op = .call q) (hf:q.callee = .value (.func f)) (hlk:dr c.S f=some S) {A:Ac} (hA:mO c o.dst S q.args.toList=some A) (hI:Inv c B X w0 F0 F O a w δ)
  {k:List D→Option Out} {r:Out} (hg:dM c A δ k=some r) (Q:Exit→Act→World→Prop):o.wp P a w (Next c B X w0 F0 k r) Q:=by
 have hM:=hS f S hlk;unfold mO at hA;split at hA
 ·cases hA
 rename_i ags hags;simp only at hA;split at hA
 case h_2=>cases hA
 rename_i hokB hnd hpm;have hbor:gU ags=[]∨(uz S.rm=true∧io0 S.pm=true∧Gj (gU ags) (dD ags)=true):=by
  split at hokB
  ·rename_i e;exact .inl e
  ·split at hokB
   ·rename_i h1 h2;exact .inr ⟨h1,h2,hokB⟩
   ·cases hokB
 have hbor':gU ags=[]∨(uz S.rm=true∧io0 S.pm=true):=hbor.imp id fun h=>⟨h.1,h.2.1⟩
 have call:∀(ds rs us:List D),dh ags (ao δ (fX ags))=some ds→S.f ds=some (.ret rs us)→(∀v w' F' R vs,v=jW vs→CallPost S (q.args.toList.map a.eval).toArray rs us w (fun b=>F b∨∃r∈gU ags,O b=some (r,0)) (fun b=>match O b with
   | some (r,0)=>we ags r 0
   | _=>none) F' R vs w'→Next c B X w0 F0 k r (a.put o.dst v) w')→o.wp P a w (Next c B X w0 F0 k r) Q:=by
  intro ds rs us h1 h2 h3;have hargs:=Mn (F':=fun b=>F b∨∃r∈gU ags,O b=some (r,0)) (ow:=fun b=>match O b with
   | some (r,0)=>we ags r 0
   | _=>none) hI (fun _ h=>.inl h) q.args.toList S.pm ags 0 ds hags hpm h1 (fun r hr b hb=>.inr ⟨r,hr,hb⟩) (fun j r hj b hb=>by simp only [hb];rw [EH hnd hj])
  have he:=hM ds rs us h2 (q.args.toList.map a.eval).toArray w _ _ (GH (fun _ h=>Or.inl h) (fun _ _=>rfl) hI.gl) (by simpa using hargs) (fun b hb=>?_) (fun b i hb=>?_) o a (Next c B X w0 F0 k r) Q (fun v w' hp=>?_)
  ·unfold Oper.wp
   rw [PM ho hf];have:q.args.map a.eval=(q.args.toList.map a.eval).toArray:=by rw [←aaq,ZW]
   rw [this];exact he
  ·rcases hb with hb | ⟨r',hr,hb⟩
   ·obtain⟨g1,g2⟩:=hI.fl b hb
    exact⟨g1,by simp only [g2]⟩
   ·refine⟨(hI.ol b _ hb).1,?_⟩
    simp only [hb];cases h:we ags r' 0 with
    | none=>rfl
    | some j =>
     rcases hbor with h0 | ⟨_,_,h0⟩
     ·rw [h0] at hr;cases hr
     ·exact absurd (uf h) (Kr h0 r' hr)
  ·split at hb
   ·rename_i r' hr;exact(hI.ol b _ hr).1
   ·cases hb
  ·obtain⟨F',R,vs,h4,h5⟩:=hp
   exact h3 v w' F' R vs h4 h5
 have asm:∀(K:List D→List D→Option Out),gJ [] ags (ao δ (fX ags)) (fun ds=>callK (S.f ds) K)=some r→∃ds rs us,dh ags (ao δ (fX ags))=some ds∧S.f ds=some (.ret rs us)∧K rs us=some r:=by
  intro K h;rw [ir] at h;obtain⟨ds,h1,h2⟩:=ZE.1 h;simp only [ZU] at h2;unfold callK at h2;split at h2
  ·rename_i rs us h3
   exact⟨ds,rs,us,h1,h3,h2⟩
  ·cases h2
 have uslen:∀{ds rs us:List D} {F':Nat→Prop} {R:Nat→Option Nat} {vs:List Value} {w':World} {F1:Nat→Prop} {ow:Nat→Option Nat},dh ags (ao δ (fX ags))=some ds→CallPost S (q.args.toList.map a.eval).toArray rs us w F1 ow F' R vs w'→mO.outs us (dD ags)=us:=by
  intro ds rs us F' R vs w' F1 ow h1 h2;have h3:=(CR (c:=c) (a:=a) (δ:=δ) ags S.pm q.args.toList us (BW hI _ _ _ _ hags hpm h1) (by simpa using h2.us)).1;unfold mO.outs;rw [Qd us _ 0 (by omega),ZN,←h3,List.take_length]
 have hlv0:∀i lv,(aq S.rm i = .dat lv∨∃z io,aq S.rm i = .own z lv io)→gU ags=[]∨lv≤1:=fun i lv hk=>hbor'.imp id fun h=>OP h.1 i lv hk
 split at hA
 ·rename_i hd
  split at hA
  case h_2=>cases hA
  rename_i hrm;cases hA;obtain⟨ds,rs,us,h1,h2,h3⟩:=asm _ hg;replace h3:=(oZ h3).1;refine call ds rs us h1 h2 (fun v w' F' R vs hv hp=>?_)
  obtain⟨F2,O2,hI'⟩:=rc (v:=v) (dst:=none) (x:=[]) hI hags hpm h1 hnd hbor' hp (.inl ⟨rfl,rfl⟩) (fun _=>none) (fun _ _ h=>by cases h) (fun _ _=>rfl) (fun _ _ _ _ _ _ h=>by cases h);rw [uslen h1 hp] at h3;exact⟨F2,O2,_,by rw [hd];exact hI',h3⟩
 ·rename_i d hd
  split at hA
  ·rename_i h1' h2' hrm
   cases hA;obtain⟨ds,rs,us,h1,h2,h3⟩:=asm _ hg;replace h3:=(oZ h3).1;refine call ds rs us h1 h2 (fun v w' F' R vs hv hp=>?_)
   obtain⟨F2,O2,hI'⟩:=rc (v:=v) (dst:=some d) (x:=[.bad]) hI hags hpm h1 hnd hbor' hp (.inr ⟨d,.bad,rfl,rfl,h2'⟩) (fun _=>none) (fun _ _ h=>by cases h) (fun _ _=>rfl) (fun _ _ _ _ d y _ h _=>by
    simp only [ZG,and_true] at h;exact .inl h.symm)
   rw [uslen h1 hp] at h3;exact⟨F2,O2,_,by rw [hd];exact hI',h3⟩
  ·rename_i kd h1' h2' hrm
   cases hA;obtain⟨ds,rs,us,h1,h2,h3⟩:=asm _ hg;replace h3:=(oZ h3).1;refine call ds rs us h1 h2 (fun v w' F' R vs hv hp=>?_)
   have hvl:=hp.len;rw [hrm] at hvl;obtain⟨y,rfl⟩:=aab.1 hvl;simp only [jW] at hv;subst hv;have hres:=hp.res 0;rw [hrm] at hres;simp only [aq,aaw] at hres;rw [hrm] at h1';have hlv:=hlv0 0;rw [hrm] at hlv;simp only [aq] at hlv;have fin:∀(g:Nat→Option (Nat × Nat)),(∀j p,g j=some p→p.1=d)→(∀(F2:Nat→Prop) (O2:Nat→Option (Nat × Nat)),(∀lv b,(gU ags=[]∨lv≤1)→FB F' w.heap.size lv b→FB F2 B lv b)→(∀b j,R b=some j→O2 b=g j∧B≤b∧(g j=none→F2 b))→d<δ.length→xZ c.K B F2 O2 (a.put (some d) v) w' d (nth rs 0)) →
     Next c B X w0 F0 k r (a.put o.dst v) w':=by
    intro g hg' hU;obtain⟨F2,O2,hI'⟩:=rc (v:=v) (dst:=some d) (x:=[nth rs 0]) hI hags hpm h1 hnd hbor' hp (.inr ⟨d,nth rs 0,rfl,rfl,h2'⟩) g (fun j p h d' e=>by cases e;exact hg' j p h) (fun h=>by cases h) (fun F2 O2 h4 h5 d' y' e1 e2 h6=>by
     cases e1;simp only [ZG,and_true] at e2;subst e2;exact hU F2 O2 h4 h5 h6)
    rw [uslen h1 hp] at h3;exact⟨F2,O2,_,by rw [hd];exact hI',h3⟩
   have hsz:d<δ.length→av (a.put (some d) v) d=v:=fun h=>dT (by rw [hI.la,←hI.ld];exact h)
   by_cases hb:nth rs 0 = .bad
   ·exact fin (fun _=>none) (fun _ _ h=>by cases h) (fun _ _ _ _ _=>.inl hb)
   have hres:=hres.resolve_left hb;cases kd with
   | dat lv =>
    simp only [Ow] at h1';split at h1'
    case h_2=>cases h1'
    rename_i l hkd;rw [bO] at h1';refine fin (fun _=>none) (fun _ _ h=>by cases h) (fun F2 O2 h4 h5 h6=>.inr ?_)
    rw [hkd,hsz h6];exact .inr (aK (fun b hb=>mM h1' _ (h4 lv b (hlv lv (.inl rfl)) hb)) (fun _ _=>rfl) hres)
   | own z lv io =>
    cases io
    case true =>
     simp only [Ow] at h1';split at h1'
     ·simp [im] at h1'
     ·cases h1'
    simp only [Ow] at h1';have hlv':=hlv lv (.inr ⟨z,false,rfl⟩);rcases sH h1' with ⟨l,hkd,hle⟩ | ⟨l,hkd,h1l,hle⟩
    ·refine fin (fun _=>some (d,0)) (fun _ _ h=>by cases h;rfl) (fun F2 O2 h4 h5 h6=>.inr ?_)
     rw [hkd,hsz h6];exact .inr (dv (fun b hb=>mM hle _ (h4 lv b hlv' hb)) (fun _ _=>rfl) (fun b _ hb=>⟨⟨(h5 b 0 hb.1).1,fun _=>(h5 b 0 hb.1).2.1⟩,rfl⟩) hres)
    ·refine fin (fun _=>none) (fun _ _ h=>by cases h) (fun F2 O2 h4 h5 h6=>.inr ?_)
     rw [hkd,hsz h6];refine .inr (aK (fun b hb=>?_) (fun _ _=>rfl) (lu hres))
     rcases hb with hb | ⟨hb1,hb2⟩
     ·exact mM hle _ (h4 lv b hlv' hb)
     ·obtain⟨_,g2,g3⟩:=h5 b 0 hb1
      match l,h1l with
      | 1,_=>exact⟨g3 rfl,g2⟩
      | _+2,_=>exact g3 rfl
   | _=>exact hres.elim
  ·rename_i h1' h2' hn0 hn1
   cases hA;obtain⟨ds,rs,us,h1,h2,h3⟩:=asm _ hg;replace h3:=(oZ h3).1;refine call ds rs us h1 h2 (fun v w' F' R vs hv hp=>?_)
   have hvl:=hp.len;have hfit:∃ns,aq c.K d = .tup ns∧im S.rm ns=true:=by
    unfold Ow at h1';split at h1'
    ·rename_i e;exact absurd e (hn1 _)
    ·rename_i e;exact absurd e (hn1 _)
    ·rename_i e;exact absurd e hn0
    ·split at h1'
     ·exact⟨_,‹_›,h1'⟩
     ·cases h1'
   obtain⟨ns,hkd,hsame⟩:=hfit;have hv2:v = .tuple vs.toArray:=by
    rw [hv];unfold jW;split
    ·rename_i y
     exfalso;have:S.rm.length=1:=by rw [←hvl];rfl
     obtain⟨kk,e⟩:=aab.1 this;exact hn1 _ e
    ·rfl
   obtain⟨F2,O2,hI'⟩:=rc (v:=v) (dst:=some d) (x:=[.tup rs]) hI hags hpm h1 hnd hbor' hp (.inr ⟨d,.tup rs,rfl,rfl,h2'⟩) (fun j=>some (d,j+1)) (fun j p h d' e=>by cases e;cases h;rfl) (fun h=>by cases h) (fun F2 O2 h4 h5 d' y' e1 e2 h6=>by
    cases e1;simp only [ZG,and_true] at e2;subst e2;refine .inr ?_
    rw [hkd,dT (by rw [hI.la,←hI.ld];exact h6),hv2];refine⟨rs,vs.toArray,rfl,rfl,fun i=>?_⟩
    obtain⟨e1,e2⟩:=Ct hsame i;rw [e1];have hgd:vs.toArray.getD i undef=vs.getD i undef:=by simp
    rw [hgd];rcases hp.res i with hb | hres
    ·exact .inl hb
    rcases e2 with e2 | ⟨lv,e2⟩ | ⟨z,lv,e2⟩
    ·rw [e2] at hres;exact hres.elim
    ·rw [e2] at hres ⊢
     exact .inr (aK (fun b hb=>h4 lv b (hlv0 i lv (.inl e2)) hb) (fun _ _=>rfl) hres)
    ·rw [e2] at hres ⊢
     exact .inr (dv (fun b hb=>h4 lv b (hlv0 i lv (.inr ⟨z,false,e2⟩)) hb) (fun _ _=>rfl) (fun b _ hb=>⟨⟨(h5 b i hb.1).1,fun _=>(h5 b i hb.1).2.1⟩,rfl⟩) hres))
   rw [uslen h1 hp] at h3;exact⟨F2,O2,_,by rw [hd];exact hI',h3⟩
  ·cases hA
end
end Go.V

namespace Go.V
open Go.RowKit
set_option maxRecDepth 100000
section
variable {P:Program} {c:Cx} {B:Nat} {X:Nat→Prop} {w0:World} {F0 F:Nat→Prop} {O:Nat→Option (Nat × Nat)} {a:Act} {w:World} {δ:List D}
theorem Inv.itr (h:Inv c B X w0 F0 F O a w δ) {s:Nat} (hk:aq c.K s = .itr) (hb:nth δ s ≠ .bad):Vs w (fun g=>O g=some (s,0)∧B≤g) (nth δ s) (av a s):=by
 have h0:=(h.slot s).resolve_left hb;rw [hk] at h0;exact h0.resolve_left hb
theorem Inv.freshI (h:Inv c B X w0 F0 F O a w δ) {d:Nat} (hk:aq c.K d = .itr) (s:ByteArray) :
  ∃F' O',Inv c B X w0 F0 F' O' (a.put (some d) (.pointer (some ⟨w.heap.size,0,none⟩))) (w.alloc (.stringIter s 0)) (aj δ ([d]++([]++aY c.K [d])) [.itr s 0]):=by
 have sz:w.heap.size≤(w.alloc (.stringIter s 0)).heap.size:=by simp
 have hw:∀b,b<w.heap.size→(w.alloc (.stringIter s 0)).heap[b]?=w.heap[b]?:=fun b hb=>heap_alloc_old w _ hb
 have hg:w.heap.size<(w.alloc (.stringIter s 0)).heap.size:=by simp
 refine⟨F,fH O (.pointer (some ⟨w.heap.size,0,none⟩)) (some (d,0)),h.many (by simp) gy rfl (fun s hs=>cQ fun e=>hs (by simp [e])) (by simp) (fun s' hs=>?_) (fun _ hb=>hb) (fun b hb=>hw b (h.fl b hb).1) (fun b p hp _=>⟨?_,hw b (h.ol b p hp).1⟩) (fun b hb=>⟨ZQ (h.fl b hb).1 sz,?_⟩) (fun b p hp=>?_) (fun _ hb=>.inl hb) sz rfl rfl rfl (fun b hb _=>hw b (ZQ hb h.bb))⟩
 ·rw [List.append_nil] at hs ⊢
  rcases fJ (δ:=δ) (x:=.itr s 0) (ts:=[]) hs with e | ⟨rfl,hd,e⟩
  ·exact .inl e
  ·refine .inr ?_
   simp only [ZT] at e;rw [hk,e,dT (by rw [h.la,←h.ld];exact hd)];exact .inr ⟨s,0,_,rfl,rfl,heap_alloc_new w _,Al rfl,h.bb⟩
 ·have:=(h.ol b p hp).1
  rw [gR (fun e=>by rw [vm] at e;omega)];exact hp
 ·have:=(h.fl b hb).1
  rw [gR (fun e=>by rw [vm] at e;omega)];exact(h.fl b hb).2
 ·by_cases e:w.heap.size=b
  ·subst e
   exact⟨hg,.inl h.bb⟩
  ·rw [gR (fun e'=>e (vm.1 e'))] at hp
   exact⟨ZQ (h.ol b p hp).1 sz,(h.ol b p hp).2⟩
theorem Ou (hT:okT P c.T=true) {o:Oper} {t:Nat} {x:Operand} (ho:o.op = .range t x):iC P c o:=by
 intro A hA B X w0 F0 F O a w δ hI k r hg Q;simp only [cf,ho] at hA;obtain⟨i,hi,hA⟩:=aH hA;split at hA
 case h_2=>cases hA
 rename_i hstr;have hti:=tok hT hi;unfold VX at hA;split at hA
 ·cases hA
 rename_i d hd;split at hA
 case h_2=>cases hA
 rename_i hk hlv;cases hA;simp only [dM] at hg;rw [cj] at hg;obtain⟨y,h1,h2⟩:=ZE.1 hg;obtain⟨d1,e,h1⟩:=bL h1;simp only [ZI,ZT,ZG,and_true] at e;subst e;unfold itD at h1;split at h1
 case h_2=>cases h1
 rename_i s hs;cases h1;have hx:=(hI.opd (bO.1 hlv)).rep (by rw [hs];simp);rw [hs] at hx;simp only [bf,RepC] at hx;have hv:a.eval x = .string s:=by simpa using hx.1
 have hrun:(execOp a.eval o).run P w = .ok (.value (.pointer (some ⟨w.heap.size,0,none⟩))) (w.alloc (.stringIter s 0)):=by
  refine dB (s:=Instr.range t (a.eval x)) (by simp only [execOp,ho]) ?_
  rw [hv];exact run_range_string w t s (hti.str hstr).1
 obtain⟨F',O',hI'⟩:=hI.freshI hk s;exact cG hd hrun hI' h2 Q
theorem On {g:Nat} {s:ByteArray} {p:Nat} (ty:TypeId) (hg:w.heap[g]?=some (.stringIter s p)) (h:p<s.size) (ha:(s[p]'h).toNat<128) :
  (aaj (.pointer (some ⟨g,0,none⟩)) true ty).run P w = .ok (.tuple #[.bool true,.int .i64 p,.int .i32 (s[p]'h).toNat]) {w with heap:=w.heap.setIfInBounds g (.stringIter s (p+1))}:=by
 have hl:=(aah.1 hg).1;simp only [aaj,getObj,setObj,Sem.run_bind,Sem.run,hg,ZV,h,if_true,decode_ascii s p h ha];simp [goInt]
theorem JA {g:Nat} {s:ByteArray} {p:Nat} (ty:TypeId) (hg:w.heap[g]?=some (.stringIter s p)) (h:¬p<s.size) :
  (aaj (.pointer (some ⟨g,0,none⟩)) true ty).run P w = .ok (.tuple #[.bool false]) w:=by
 simp [aaj,getObj,Sem.run,hg,h]
theorem Inv.nextI (h:Inv c B X w0 F0 F O a w δ) {d q g l1 l2 l3:Nat} (hq:aq c.K q = .itr) (hk:aq c.K d = .tup [.dat l1,.dat l2,.dat l3]) (hO:O g=some (q,0)) (hB:B≤g) (hy:av a q = .pointer (some ⟨g,0,none⟩))
  (s:ByteArray) (p:Nat) {vs:Array Value} {l:List D} (hl:l=vs.toList.map .v) (hf:∀v∈vs.toList,flat v=true) (h3:vs.size≤3) {w':World} (hg:w'.heap[g]?=some (.stringIter s p)) (hw:∀b,b≠g→w'.heap[b]?=w.heap[b]?) (sz:w'.heap.size=w.heap.size)
  (os:w'.os=w.os) (tape:w'.tape=w.tape) (output:w'.output=w.output) :
  Inv c B X w0 F0 F O (a.put (some d) (.tuple vs)) w' (aj δ ([d]++([q]++aY c.K [d])) [.tup l,.itr s p]):=by
 have hdq:d≠q:=fun e=>by
  subst e;rw [hq] at hk;cases hk
 have e0:∀t,nth (aj δ ([d]++[q]) [.tup l,.itr s p]) t=if t=q then(if q<δ.length then .itr s p else .bad) else if t=d then(if d<δ.length then .tup l else .bad) else nth δ t:=by
  intro t;simp only [aap,ZU,aj];by_cases h1:t=q
  ·subst h1
   rw [if_pos rfl,bH,gi]
  ·rw [if_neg h1,cK _ _ _ _ h1]
   by_cases h2:t=d
   ·subst h2
    rw [if_pos rfl,bH]
   ·rw [if_neg h2,cK _ _ _ _ h2]
 have hgl:=(h.ol g _ hO).1;refine h.many (by simp) gy rfl (fun s hs=>cQ fun e=>hs (by simp [e])) (fun r hr _ hb=>?_) (fun t ht=>?_) (fun _ hb=>hb) (fun b hb=>hw b fun e=>?_) (fun b p' hp hn=>⟨hp,hw b fun e=>?_⟩) (fun b hb=>⟨by rw [sz];exact(h.fl b hb).1,(h.fl b hb).2⟩) (fun b p' hp=>⟨by rw [sz];exact(h.ol b p' hp).1,(h.ol b p' hp).2⟩) (fun _ hb=>.inl hb) (Nat.le_of_eq sz.symm) os tape output (fun b hb _=>hw b (by omega))
 ·simp at hr
  subst hr;rw [e0,if_pos rfl];by_cases hlt:r<δ.length
  ·rw [if_pos hlt]
   simp
  ·refine absurd ?_ hb
   rw [fp,ZH,ZR (by omega)];rfl
 ·rw [e0]
  by_cases h1:t=q
  ·subst h1
   rw [if_pos rfl];by_cases hlt:t<δ.length
   ·rw [if_pos hlt]
    refine .inr ?_
    rw [hq,cQ (aam hdq),hy];exact .inr ⟨s,p,g,rfl,rfl,hg,hO,hB⟩
   ·rw [if_neg hlt]
    exact .inl rfl
  ·have h2:t=d:=by simpa [h1] using ht
   subst h2;rw [if_neg h1,if_pos rfl];by_cases hlt:t<δ.length
   ·rw [if_pos hlt]
    refine .inr ?_
    rw [hk,dT (by rw [h.la,←h.ld];exact hlt)];refine⟨l,vs,rfl,rfl,fun i=>?_⟩
    subst hl;by_cases hi:i<vs.size
    ·have hv:nth (vs.toList.map D.v) i = .v vs[i]:=by
      rw [fp,ZH];simp [hi]
     have hv2:vs.getD i undef=vs[i]:=by simp [Array.getD,hi]
     rw [hv,hv2];refine .inr ?_
     have hfl:=hf vs[i] (by simp);obtain⟨v,hv0⟩:∃v,v=vs[i]:=⟨_,rfl⟩
     rw [←hv0] at hfl ⊢;clear hv hv2 hv0
     match i,hi with
     | 0,_=>exact fb hfl
     | 1,_=>exact fb hfl
     | 2,_=>exact fb hfl
     | i+3,hi=>omega
    ·refine .inl ?_
     rw [fp,ZH,ZR (by simpa using hi)];rfl
   ·rw [if_neg hlt]
    exact .inl rfl
 ·subst e
  rw [(h.fl b hb).2] at hO;cases hO
 ·subst e
  rw [hO] at hp;cases hp;exact hn (by simp)
theorem Pr {o:Oper} {q:Nat} (ho:o.op = .next (.tmp q) true):iC P c o:=by
 intro A hA B X w0 F0 F O a w δ hI k r hg Q;simp only [cf,ho] at hA;unfold We at hA;split at hA
 ·cases hA
 rename_i d hd;split at hA
 case h_2=>cases hA
 rename_i l1 l2 l3 hq hk;cases hA;simp only [dM,ao,eM,nth] at hg;obtain⟨y,h1,h2⟩:=ZE.1 hg;have hb:nth δ q ≠ .bad:=fun e=>by
  rw [e] at h1;simp [nxS] at h1
 obtain⟨s,p,g,a1,a2,a3,a4,a5⟩:=hI.itr hq hb;have hgl:=(hI.ol g _ a4).1;rw [a1] at h1 h2;simp only [nxS] at h1;simp only [nxT] at h2;have hex:execOp a.eval o=(do pure (.value (←aaj (av a q) true o.type))):=by simp only [execOp,ho,cC]
 split at h1
 ·rename_i ch hch
  split at h1
  case isFalse=>cases h1
  rename_i hasc;cases h1;rw [hch] at h2;have hlt:p<s.size:=by
   have:=(aak.1 hch).1;rw [aax] at this;exact this
  have hcc:s[p]'hlt=ch:=by
   have:=(aak.1 hch).2;rw [←this];rfl
  have hr:=On (P:=P) o.type a3 hlt (by rw [hcc];exact hasc);rw [hcc] at hr;refine cG hd (dB hex (by rw [a2];exact hr)) (hI.nextI (w':={w with heap:=w.heap.setIfInBounds g (.stringIter s (p+1))}) hq hk a4 a5 a2 s (p+1) (vs:=#[.bool true,.int .i64 p,.int .i32 ch.toNat]) rfl (by simp [flat]) (by simp) ?_ (fun b hne=>?_) ?_ rfl rfl rfl) h2 Q
  ·simp [hgl]
  ·simp [aam hne]
  ·simp
 ·rename_i hch
  cases h1;rw [hch] at h2;have hlt:¬p<s.size:=by
   have:=List.getElem?_eq_none_iff.1 hch;rw [aax] at this;exact Nat.not_lt.2 this
  have hr:=JA (P:=P) o.type a3 hlt;exact cG hd (dB hex (by rw [a2];exact hr)) (hI.nextI hq hk a4 a5 a2 s p (vs:=#[.bool false]) rfl (by simp [flat]) (by simp) a3 (fun _ _=>rfl) rfl rfl rfl rfl) h2 Q
theorem In {o:Oper} {t:Nat} (ho:o.op = .makeMap t none):iC P c o:=by
 intro A hA B X w0 F0 F O a w δ hI k r hg Q;simp only [cf,ho] at hA;obtain⟨i,hi,hA⟩:=aH hA;split at hA
 case h_2=>cases hA
 unfold Vi at hA;split at hA
 ·cases hA
 rename_i d hd;split at hA
 case h_2=>cases hA
 rename_i hk;cases hA;simp only [dM] at hg;have hrun:(execOp a.eval o).run P w = .ok (.value (.map (some w.heap.size))) (w.alloc (.map #[] 0)):=by
  refine dB (s:=Instr.makeMap t none) (by simp only [execOp,ho,Option.map_none]) ?_
  simp [Instr.makeMap,newObj,Sem.run]
 obtain⟨F',O',hI'⟩:=hI.installM (ts:=[]) (l:=[]) (es:=#[]) (clock:=0) (.inl hk) (heap_alloc_new w _) ⟨Go.MapKept.stamped_empty 0,rfl⟩ hI.bb (.inl (Nat.le_refl _)) (by simp) (fun b hb=>heap_alloc_old w _ hb) rfl rfl rfl;exact cG hd hrun hI' hg Q
theorem Lb (n:Int) (v:Bool) (fk:MapEntry→MapEntry) (hf:∀e,(fk e).key = .int .i64 n∧(fk e).val = .bool v):∀(l:List (Int × Bool)) (es:List MapEntry) (i:Nat),
  es.map (fun e=>(e.key,e.val))=l.map (fun p=>(aaE .i64 p.1,aaD p.2)) →
  (ZL (.int .i64) (.int .i64 n) es i=some none∧uN l n=false∧qk l n v=l++[(n,v)]) ∨
  ∃p e,ZL (.int .i64) (.int .i64 n) es i=some (some (i+p,.bool (uN l n)))∧es[p]?=some e∧e.key = .int .i64 n∧(es.modify p fk).map (fun e=>(e.key,e.val))=(qk l n v).map fun p=>(aaE .i64 p.1,aaD p.2)
 | [],[],_,_=>.inl ⟨rfl,rfl,rfl⟩
 | [],_::_,_,h=>by cases h
 | _::_,[],_,h=>by cases h
 | (m,b)::l,e::es,i,h=>by
  simp only [ZI,ZG,Prod.mk.injEq] at h;obtain⟨⟨h1,h2⟩,h3⟩:=h;by_cases hm:m=n
  ·subst hm
   refine .inr ⟨0,e,by simp [ZL,aac,h1,h2,uN],rfl,h1,?_⟩
   simp [qk,hf,h3]
  ·have hnm:(n==m)=false:=beq_eq_false_iff_ne.2 (aam hm)
   rcases Lb n v fk hf l es (i+1) h3 with ⟨g1,g2,g3⟩ | ⟨p,e',g1,g2,g3,g4⟩
   ·refine .inl ⟨by simp [ZL,aac,h1,hnm,g1],by simp [uN,hm,g2],by simp [qk,hm,g3]⟩
   ·refine .inr ⟨p+1,e',?_,by simpa using g2,g3,?_⟩
    ·simp [ZL,aac,h1,hnm,g1,uN,hm]
     omega
    ·simp [qk,hm,h1,h2,g4]
theorem PX (n:Int):∀(l:List (Int × Bool)) (es:List MapEntry) (i:Nat),es.map (fun e=>(e.key,e.val))=l.map (fun p=>(aaE .i64 p.1,aaD p.2))→ZL (.int .i64) (.int .i64 n) es i=some none→∀e∈es,e.key ≠ .int .i64 n
 | _,[],_,_,_,e,he=>by cases he
 | [],_::_,_,h,_,_,_=>by cases h
 | (m,b)::l,e::es,i,h,hf,x,hx=>by
  simp only [ZI,ZG,Prod.mk.injEq] at h;obtain⟨⟨h1,h2⟩,h3⟩:=h;by_cases hm:m=n
  ·subst hm
   simp [ZL,aac,h1] at hf
  ·have hnm:(n==m)=false:=beq_eq_false_iff_ne.2 (aam hm)
   simp [ZL,aac,h1,hnm] at hf;rcases ZJ.1 hx with rfl | hx
   ·rw [h1]
    simp [hm]
   ·exact PX n l es (i+1) h3 hf x hx
theorem vo (n:Int):Go.MapKept.IsKey (.int .i64) (.int .i64 n):=rfl
theorem xw {t k e:TypeId} {g:Nat} {es:Array MapEntry} {clock:Nat} {l:List (Int × Bool)} {n:Int} (hu:P.underlying t=some (.map k e)) (hk:P.underlying k=some (.int .i64)) (hz:∀w:World,(zeroValue e).run P w = .ok (.bool false) w)
  (hb:w.heap[g]?=some (.map es clock)) (he:KR es clock l):(ZY t (.map (some g)) (.int .i64 n) false).run P w = .ok (.bool (uN l n)) w:=by
 rcases Lb n false (fun e=>{e with key:=.int .i64 n,val:=.bool false}) (fun _=>⟨rfl,rfl⟩) l es.toList 0 he.2 with ⟨g1,g2,_⟩ | ⟨p,e',g1,_,_,_⟩
 ·simp [ZY,run_underlying hu,ZK hb,ZM hk (vo n),ZP hk g1,hz,ZV,g2]
 ·simp [ZY,run_underlying hu,ZK hb,ZM hk (vo n),ZP hk g1,ZV]
theorem FK {t k e:TypeId} {n:Int} (hu:P.underlying t=some (.map k e)) (hk:P.underlying k=some (.int .i64)) (hz:∀w:World,(zeroValue e).run P w = .ok (.bool false) w) :
  (ZY t (.map none) (.int .i64 n) false).run P w = .ok (.bool false) w:=by
 simp [ZY,run_underlying hu,ZM hk (vo n),ZP hk (show ZL (.int .i64) (.int .i64 n) [] 0=some none from rfl),hz,ZV]
theorem Jg {t k e:TypeId} {g:Nat} {es:Array MapEntry} {clock:Nat} {l:List (Int × Bool)} {n:Int} {v:Bool} (hu:P.underlying t=some (.map k e)) (hk:P.underlying k=some (.int .i64))
  (hb:w.heap[g]?=some (.map es clock)) (he:KR es clock l):∃es' clock',(aat t (.map (some g)) (.int .i64 n) (.bool v)).run P w = .ok () {w with heap:=w.heap.setIfInBounds g (.map es' clock')}∧KR es' clock' (qk l n v):=by
 rcases Lb n v (fun e=>{e with key:=.int .i64 n,val:=.bool v}) (fun _=>⟨rfl,rfl⟩) l es.toList 0 he.2 with ⟨g1,_,g3⟩ | ⟨p,e',g1,g2,g3,g4⟩
 ·refine⟨es.push {key:=.int .i64 n,val:=.bool v,born:=clock},clock+1,?_,?_⟩
  ·simp [aat,run_underlying hu,ZK hb,ZM hk (vo n),ZP hk g1,Go.MapKept.run_setObj_map _ hb,ZV]
  ·refine⟨Go.MapKept.stamped_push he.1 fun x hx=>?_,?_⟩
   ·exact PX n l es.toList 0 he.2 g1 x hx
   ·rw [g3]
    simp [he.2]
 ·refine⟨es.modify p fun e=>{e with key:=.int .i64 n,val:=.bool v},clock,?_,?_⟩
  ·have hj:es[p]?=some e':=by simpa using g2
   have hs:=Go.MapKept.run_keyThatStays (P:=P) (w:=w) (vo n);simp [aat,run_underlying hu,ZK hb,ZM hk (vo n),ZP hk g1,hj,g3,hs,Go.MapKept.run_setObj_map _ hb,ZV]
  ·refine⟨Go.MapKept.stamped_modify he.1 p _ (fun _ _=>rfl) fun e h1 h2=>?_,?_⟩
   ·have hj:es[p]?=some e':=by simpa using g2
    rw [hj] at h2;cases h2;exact g3.symm
   ·rw [Array.toList_modify]
    exact g4
theorem Pb (hT:okT P c.T=true) {o:Oper} {x:Operand} {t:Nat} (ho:o.op = .call {callee:=.builtin .len,args:=#[x],argTypes:=#[t]}) {i:TI} (hi:dr c.T t=some i)
  (hm:i.mp=true) {A:Ac} (hA:UR c o.dst x=some A) (hI:Inv c B X w0 F0 F O a w δ) {k:List D→Option Out} {r:Out} (hg:dM c A δ k=some r) (Q:Exit→Act→World→Prop):o.wp P a w (Next c B X w0 F0 k r) Q:=by
 obtain⟨kt,et,hu,hkt,hz0⟩:=(tok hT hi).mp hm;unfold UR at hA;split at hA
 case h_2=>cases hA
 split at hA
 case h_2=>cases hA
 refine bm hA hI hg (fun hx z hz=>?_) Q
 obtain⟨d1,e,hz⟩:=bL hz;simp only [ZI,ZT,ZG,and_true] at e;subst e;have hr:=(hx _ (List.mem_singleton.2 rfl)).2;unfold Ze at hz;split at hz
 case h_2=>cases hz
 rename_i l hl;cases hz;rw [hl] at hr;have hr2:=hr.rep (by simp);replace hr2:RepC _ _ (.mp l) [_]:=hr2;simp only [RepC] at hr2;have run:∀y:Value,(aaA #[t] o.type #[y]).run P w = .ok (goInt l.length) w→∀x:Operand,o.op = .call {callee:=.builtin .len,args:=#[x],argTypes:=#[t]}→a.eval x=y→(execOp a.eval o).run P w = .ok (.value (goInt l.length)) w:=fun y h1 x hx2 h2=>by
  simp only [execOp,hx2,resolve,invoke,builtin,Sem.run_bind,Sem.run_pure,Result.andThen_ok,aaq,ZI,ZT,h2,h1]
 refine⟨_,run _ ?_ _ ho rfl,jL rfl rfl⟩
 rcases hr2 with ⟨h1,rfl⟩ | ⟨g,es,clock,h1,_,hb,he⟩
 ·simp only [ZG,and_true] at h1
  rw [h1];simp [aaA,run_underlying hu,goInt]
 ·simp only [ZG,and_true] at h1
  rw [h1];have hl2:es.size=l.length:=by
   have:=congrArg List.length he.2;simpa using this
  simp [aaA,run_underlying hu,goInt,ZK hb,hl2]
theorem Md (hT:okT P c.T=true) {o:Oper} {t q:Nat} {x:Operand} (ho:o.op = .lookup t (.tmp q) x false):iC P c o:=by
 intro A hA B X w0 F0 F O a w δ hI k r hg Q;simp only [cf,ho] at hA;obtain⟨i,hi,hA⟩:=aH hA;split at hA
 case h_2=>cases hA
 rename_i hm;obtain⟨kt,et,hu,hkt,hz⟩:=(tok hT hi).mp hm;have hex:execOp a.eval o=(do pure (.value (←ZY t (av a q) (a.eval x) false))):=by simp only [execOp,ho,cC]
 have own:∀(r d lv:Nat),aq c.K r = .mpo→av a q=av a r→aq c.K d = .dat lv→eF c.K x≤2→∀z,lkD (nth δ r) (opD δ x)=some z→∃y,(execOp a.eval o).run P w = .ok (.value y) w∧Fr c.K B F a w δ d z y:=by
  intro r d lv hq hav hkd hlv z hzz;have hb:nth δ r ≠ .bad:=fun e=>by
   rw [e] at hzz;simp [lkD] at hzz
  obtain⟨l,g,es,clock,e1,e2,e3,e4,_⟩:=hI.mpo hq hb;rw [e1] at hzz;unfold lkD at hzz;split at hzz
  case h_2=>cases hzz
  rename_i l' n e5 e6;cases e5;cases hzz;have h2:=hI.opd hlv;rw [e6] at h2;obtain⟨h2,_⟩:=br h2;refine⟨.bool (uN l n),dB hex ?_,.inr ?_⟩
  ·rw [h2,hav,e2]
   exact xw hu hkt hz e3 e4
  ·rw [hkd]
   exact fb rfl
 unfold Ww at hA;split at hA
 ·rename_i lv hq
  refine bm hA hI hg (fun hx z hzz=>?_) Q
  obtain⟨d1,d2,e,hzz⟩:=gW hzz;simp only [ZI,ZT,ZG,and_true] at e;obtain⟨rfl,rfl⟩:=e;unfold lkD at hzz;split at hzz
  case h_2=>cases hzz
  rename_i l n e1 e2;cases hzz;have h1:=(hx (.tmp q) (by simp)).2.rep (by rw [e1];simp);have h2:=(hx x (by simp)).2;rw [e1] at h1;rw [e2] at h2;obtain⟨h2,_⟩:=br h2;simp only [bf,RepC,cC] at h1;refine⟨.bool (uN l n),dB hex ?_,.inr (fb rfl)⟩
  rw [h2];rcases h1 with ⟨h1,rfl⟩ | ⟨g,es,clock,h1,_,h3,h4⟩
  ·simp only [ZG,and_true] at h1
   rw [h1];exact FK hu hkt hz
  ·simp only [ZG,and_true] at h1
   rw [h1];exact xw hu hkt hz h3 h4
 ·rename_i hq
  split at hA
  ·cases hA
  rename_i d hd;split at hA
  case h_2=>cases hA
  rename_i lv hkd hlv;cases hA;refine cP hI hd hg (fun z hzz=>?_) Q
  simp only [ao] at hzz;rw [cj] at hzz;obtain⟨d1,e,hzz⟩:=bL hzz;simp only [ZI,ZT,ZG,and_true] at e;subst e;exact own q d lv hq rfl hkd (bO.1 hlv) z hzz
 ·rename_i rr hq
  split at hA
  case h_2=>cases hA
  rename_i d hkr hd;split at hA
  case h_2=>cases hA
  rename_i lv hkd hlv;cases hA;refine cP hI hd hg (fun z hzz=>?_) Q
  simp only [ao] at hzz;obtain⟨b,hb1,hzz⟩:=ZE.1 hzz;obtain⟨hpb,rfl⟩:=bN hb1;rw [cj] at hzz;obtain⟨d1,e,hzz⟩:=bL hzz;simp only [ZI,ZT,ZG,and_true] at e;subst e;exact own rr d lv hkr (hI.via hq hpb).1 hkd (bO.1 hlv) z hzz
 ·cases hA
theorem DQ (hT:okT P c.T=true) {o:Oper} {t q:Nat} {x y:Operand} (ho:o.op = .mapUpdate t (.tmp q) x y):iC P c o:=by
 intro A hA B X w0 F0 F O a w δ hI k r hg Q;simp only [cf,ho] at hA;split at hA
 case h_2=>cases hA
 rename_i hdst;obtain⟨i,hi,hA⟩:=aH hA;split at hA
 case h_2=>cases hA
 rename_i hm;obtain⟨kt,et,hu,hkt,hz⟩:=(tok hT hi).mp hm;have main:∀(r1:Nat),aq c.K r1 = .mpo→av a q=av a r1→lB c.K [x,y]≤2→∀z,upM (nth δ r1) ([x,y].map (opD δ))=some z→k (aj δ ([]++([r1]++aY c.K [])) [z])=some r→o.wp P a w (Next c B X w0 F0 k r) Q:=by
  intro r1 hq hav hlv z h1 h2;have hb:nth δ r1 ≠ .bad:=fun e=>by
   rw [e] at h1;simp [upM] at h1
  obtain⟨l,g,es,clock,e1,e2,e3,e4,e5,e6⟩:=hI.mpo hq hb;rw [e1] at h1;unfold upM at h1;split at h1
  case h_2=>cases h1
  rename_i l' n v e7 e8;cases e7;cases h1;simp only [ZI,ZT,ZG,and_true] at e8;have hlx:=kq hlv x (by simp);have hly:=kq hlv y (by simp);have hx:=hI.opd hlx;have hy:=hI.opd hly;rw [e8.1] at hx;rw [e8.2] at hy;obtain⟨hx,_⟩:=br hx;obtain⟨hy,_⟩:=br hy;obtain⟨es',clock',hrun,he'⟩:=Jg (P:=P) (w:=w) (n:=n) (v:=v) hu hkt e3 e4;have hgl:=(hI.ol g _ e5).1;have hex:(execOp a.eval o).run P w = .ok .skip {w with heap:=w.heap.setIfInBounds g (.map es' clock')}:=by
   simp only [execOp,ho,cC,hav,e2,hx,hy];simp [hrun]
  have e0:∀s,nth (aj δ ([]++[r1]) [.mp (qk l n v)]) s=if s=r1 then(if r1<δ.length then .mp (qk l n v) else .bad) else nth δ s:=by
   intro s;simp only [ZU,aj];by_cases h:s=r1
   ·subst h
    rw [if_pos rfl,bH]
   ·rw [if_neg h,cK _ _ _ _ h]
  refine Ot hex ⟨F,O,_,?_,h2⟩
  rw [hdst];refine hI.many (hw:=[]) (cw:=[r1]) (outs:=[.mp (qk l n v)]) (by simp) rfl rfl (fun s _=>rfl) (fun r' hr _ hbr=>?_) (fun s hs=>?_) (fun _ hb=>hb) (fun b hbF=>?_) (fun b p hp hn=>⟨hp,?_⟩) (fun b hbF=>⟨by simpa using (hI.fl b hbF).1,(hI.fl b hbF).2⟩) (fun b p hp=>⟨by simpa using (hI.ol b p hp).1,(hI.ol b p hp).2⟩) (fun _ hb=>.inl hb) (by simp) rfl rfl rfl (fun b hbB _=>?_)
  ·simp at hr
   subst hr;rw [e0,if_pos rfl];by_cases hlt:r'<δ.length
   ·rw [if_pos hlt]
    simp
   ·refine absurd ?_ hbr
    rw [fp,ZH,ZR (by omega)];rfl
  ·simp at hs
   subst hs;rw [e0,if_pos rfl];by_cases hlt:s<δ.length
   ·rw [if_pos hlt]
    refine .inr ?_
    rw [hq];exact .inr ⟨_,g,es',clock',rfl,e2,by simp [hgl],he',e5,e6⟩
   ·rw [if_neg hlt]
    exact .inl rfl
  ·have hne:b≠g:=fun e=>by
    subst e;rw [(hI.fl b hbF).2] at e5;cases e5
   simp [aam hne]
  ·have hne:b≠g:=fun e=>by
    subst e;rw [e5] at hp;cases hp;exact hn (by simp)
   simp [aam hne]
  ·have hne:b≠g:=by omega
   simp [aam hne]
 unfold VE at hA;split at hA
 ·rename_i hq hlv
  cases hA;simp only [dM,ao] at hg;rw [cj] at hg;obtain⟨z,h1,h2⟩:=ZE.1 hg;exact main q hq rfl (bO.1 hlv) z h1 h2
 ·rename_i rr hq hlv
  split at hA
  case h_2=>cases hA
  rename_i hkr;cases hA;simp only [dM,ao] at hg;obtain⟨b,hb1,hg⟩:=ZE.1 hg;obtain⟨hpb,rfl⟩:=bN hb1;rw [cj] at hg;obtain⟨z,h1,h2⟩:=ZE.1 hg;exact main rr hkr (hI.via hq hpb).1 (bO.1 hlv) z h1 h2
 ·cases hA
end
end Go.V

namespace Go.V
open Go.RowKit
set_option maxRecDepth 100000
section
variable {P:Program} {c:Cx}
theorem Bd {o:Oper} {q:Call} (ho:o.op = .call q) {bi:Builtin} (hq:q.callee = .builtin bi) (f:D→D→Option D) (g:Value→Value→Sem Value) (hbi:(bi = .min∧f=QW∧g=aaB)∨(bi = .max∧f=RG∧g=aaC))
  {A:Ac} (hA:bT c o.dst q.args.toList 0 (Gl f)=some A) {B:Nat} {X:Nat→Prop} {w0:World} {F0 F:Nat→Prop} {O:Nat→Option (Nat × Nat)} {a:Act} {w:World} {δ:List D} (hI:Inv c B X w0 F0 F O a w δ) {k:List D→Option Out} {r:Out} (hg:dM c A δ k=some r) (Q:Exit→Act→World→Prop):o.wp P a w (Next c B X w0 F0 k r) Q:=by
 rcases hbi with ⟨rfl,rfl,rfl⟩ | ⟨rfl,rfl,rfl⟩
 ·refine Dw ho hq rfl (f:=QW) (g:=aaB) (fun w G a b z x y ha hb h=>VL ha hb h) (fun x rest v he hr=>?_) hA hI hg Q
  simp [builtin,Builtin.min_,he,hr]
 ·refine Dw ho hq rfl (f:=RG) (g:=aaC) (fun w G a b z x y ha hb h=>Wk ha hb h) (fun x rest v he hr=>?_) hA hI hg Q
  simp [builtin,Builtin.max_,he,hr]
theorem Rt (hT:okT P c.T=true) (hS:∀f S,dr c.S f=some S→aw c.G P f S) (o:Oper):iC P c o:=by
 intro A hA B X w0 F0 F O a w δ hI k r hg Q;have hA0:=hA;unfold cf at hA;split at hA
 case h_1 x ho=>exact NX (.inl ho) hA hI hg Q
 case h_2 x ho=>exact NX (.inr ho) hA hI hg Q
 case h_3 q x y ho=>exact PN ho A hA0 B X w0 F0 F O a w δ hI k r hg Q
 case h_4 t ho=>exact MJ hT ho A hA0 B X w0 F0 F O a w δ hI k r hg Q
 case h_5 t x ho=>exact QU ho A hA0 B X w0 F0 F O a w δ hI k r hg Q
 case h_6 t ps ho=>exact OH hT ho A hA0 B X w0 F0 F O a w δ hI k r hg Q
 case h_7 t n ps ho=>exact Cp hT ho A hA0 B X w0 F0 F O a w δ hI k r hg Q
 case h_8 t p ho=>exact Pe hT ho A hA0 B X w0 F0 F O a w δ hI k r hg Q
 case h_9 t p x ho=>exact MZ hT ho A hA0 B X w0 F0 F O a w δ hI k r hg Q
 case h_10 x ho=>exact GG ho A hA0 B X w0 F0 F O a w δ hI k r hg Q
 case h_11 op t x y _ ho=>exact OM hT ho A hA0 B X w0 F0 F O a w δ hI k r hg Q
 case h_12 op t x ho=>exact OZ ho A hA0 B X w0 F0 F O a w δ hI k r hg Q
 case h_13 s t x ho=>exact Im hT ho A hA0 B X w0 F0 F O a w δ hI k r hg Q
 case h_14 f u v ho=>exact Fm ho A hA0 B X w0 F0 F O a w δ hI k r hg Q
 case h_15 t n m ho=>exact Em hT ho A hA0 B X w0 F0 F O a w δ hI k r hg Q
 case h_16 t x lo hi ho =>
  have hA1:=aH hA;clear hA;obtain⟨i,hi',hA⟩:=hA1;have main:∀(hsl:i.str=false→nf i=true),JJ c o.dst i x lo hi=some A→o.wp P a w (Next c B X w0 F0 k r) Q:=by
   intro hsl hA;have hA2:=hA;unfold JJ at hA2;split at hA2
   case h_3=>cases hA2
   case h_2=>exact DR hT ho hi' hsl hA hI hg Q
   rename_i q;split at hA2
   ·rename_i lv hk;exact DX hT ho hi' hsl hk hA hI hg Q
   ·exact tf hT ho hi' hsl hA2 hI hg Q
   ·exact tf hT ho hi' hsl hA2 hI hg Q
   ·cases hA2
  split at hA
  ·rename_i h1 h2;exact main (fun _=>h1) hA
  ·rename_i h1 h2;exact main (fun h=>by rw [h] at h2;cases h2) hA
  ·cases hA
 case h_17 t x f ho=>exact DP hT ho A hA0 B X w0 F0 F O a w δ hI k r hg Q
 case h_18 t x f ho=>exact NA hT ho A hA0 B X w0 F0 F O a w δ hI k r hg Q
 case h_19 t x i ho=>exact Eb hT ho A hA0 B X w0 F0 F O a w δ hI k r hg Q
 case h_20 t x i ho=>exact MH hT ho A hA0 B X w0 F0 F O a w δ hI k r hg Q
 case h_21 x i ho=>exact JU ho A hA0 B X w0 F0 F O a w δ hI k r hg Q
 case h_22 q ho =>
  unfold Nl at hA;split at hA
  ·rename_i x t hq h1 h2
   have hA1:=aH hA;clear hA;obtain⟨i,hi,hA⟩:=hA1;have eq:q={callee:=.builtin .len,args:=#[x],argTypes:=#[t]}:=by
    obtain⟨cl,ar,ty⟩:=q;simp only at hq h1 h2;subst hq;congr
    ·rw [←ZW (xs:=ar),h1]
    ·rw [←ZW (xs:=ty),h2]
   rw [eq] at ho;split at hA
   ·rename_i g1 g2
    exact Ge hT ho hi (fun _=>g1) (fun h=>by cases h) hA hI hg Q
   ·rename_i g1 g2
    exact Ge hT ho hi (fun h=>by cases h) (fun _=>g2) hA hI hg Q
   ·split at hA
    ·rename_i gm
     exact Pb hT ho hi gm hA hI hg Q
    ·cases hA
   ·cases hA
  ·rename_i s x t u hq h1 h2
   split at hA
   case h_2=>cases hA
   rename_i htu;rw [aZ] at htu;subst htu;have hA1:=aH hA;clear hA;obtain⟨i,hi,hA⟩:=hA1;have hA1:=aH hA;clear hA;obtain⟨e,he,hA⟩:=hA1;split at hA
   case h_2=>cases hA
   rename_i hsl;exact MC hT ho hq h1 h2 hi he hsl hA hI hg Q
  ·rename_i hq;exact Bd ho hq QW aaB (.inl ⟨rfl,rfl,rfl⟩) hA hI hg Q
  ·rename_i hq;exact Bd ho hq RG aaC (.inr ⟨rfl,rfl,rfl⟩) hA hI hg Q
  ·rename_i f hq
   split at hA
   case h_2=>cases hA
   rename_i S hlk;exact PW hS ho hq hlk hA hI hg Q
  ·rename_i t hq
   split at hA
   case h_2=>cases hA
   rename_i f hC;split at hA
   case h_2=>cases hA
   rename_i S hlk;exact RN hS ho hq hlk hA hI hg Q
  ·cases hA
 case h_23 t x ho=>exact Ou hT ho A hA0 B X w0 F0 F O a w δ hI k r hg Q
 case h_24 q ho=>exact Pr ho A hA0 B X w0 F0 F O a w δ hI k r hg Q
 case h_25 t ho=>exact In ho A hA0 B X w0 F0 F O a w δ hI k r hg Q
 case h_26 t q x y ho=>exact DQ hT ho A hA0 B X w0 F0 F O a w δ hI k r hg Q
 case h_27 t q x ho=>exact Md hT ho A hA0 B X w0 F0 F O a w δ hI k r hg Q
 case h_28=>cases hA
def Nt (n:Nat) (f:(List D→Option Out)→Option Out):Prop:=∃o:Option (List D),(∀k,f k=o.bind k)∧∀l,o=some l→l.length=n
def jx:Ac→Prop
 | .one _ _ _=>True
 | .many _ hw cw fn=>∀is,Nt (hw++cw).length (fn is)
theorem fU {n:Nat} {l:List D} (h:l.length=n):Nt n (fun k=>k l):=⟨some l,fun _=>rfl,fun l' e=>by cases e;exact h⟩
theorem kI {n:Nat}:Nt n (fun _=>none):=⟨none,fun _=>rfl,fun _ e=>by cases e⟩
theorem ek {n:Nat} {X:Option D} {f:D→(List D→Option Out)→Option Out} (h:∀y,Nt n (f y)):Nt n (fun k=>X.bind fun y=>f y k):=by
 cases X with
 | none=>exact kI
 | some y=>exact h y
theorem TX {n:Nat} {X:Option (List D)} {f:List D→(List D→Option Out)→Option Out} (h:∀y,Nt n (f y)):Nt n (fun k=>X.bind fun y=>f y k):=by
 cases X with
 | none=>exact kI
 | some y=>exact h y
theorem sG {n:Nat} {is:List D} {i:Nat} {f:D→(List D→Option Out)→Option Out} (h:∀y,Nt n (f y)):Nt n (fun k=>eV is i fun y=>f y k):=by
 simp only [eM];exact h _
theorem Sw {n q r:Nat} {is:List D} {f:D→D→List D→(List D→Option Out)→Option Out} (h:∀b p is,Nt n (f b p is)):Nt n (fun k=>goP q r is fun b p is=>f b p is k):=by
 unfold goP;cases ZX q r
 ·rcases is with _ | ⟨p,_ | ⟨b,is⟩⟩
  ·exact kI
  ·exact kI
  ·exact h _ _ _
 ·cases is with
  | nil=>exact kI
  | cons b is=>exact h _ _ _
theorem Ta {n m:Nat} {chk:Bool} {b p y:D} {f:D→(List D→Option Out)→Option Out} (h:∀y,Nt n (f y)):Nt n (fun k=>stK chk m b p y fun b=>f b k):=by
 unfold stK;cases chk
 ·exact ek h
 ·exact ek fun _=>ek h
theorem LJ {n:Nat} {rd:List Nat} {is:List D} {f:D→(List D→Option Out)→Option Out} (h:∀y,Nt n (f y)):Nt n (fun k=>kV rd is fun y=>f y k):=by
 unfold kV;rcases rd with _ | ⟨a,_ | ⟨b,rd⟩⟩
 ·exact h _
 ·exact sG h
 ·exact sG fun p=>sG fun x=>ek h
theorem TT {n:Nat} {ags:List Ag} {is:List D} {f:List D→(List D→Option Out)→Option Out} (h:∀y,Nt n (f y)):Nt n (fun k=>gJ [] ags is fun y=>f y k):=by
 simp only [ir,ZU];cases dh ags is with
 | none=>exact kI
 | some y=>exact h y
theorem Qw {n:Nat} {r:Option Out} {f:List D→List D→(List D→Option Out)→Option Out} (h:∀y z,Nt n (f y z)):Nt n (fun k=>callK r fun y z=>f y z k):=by
 unfold callK;split
 ·exact h _ _
 ·exact kI
theorem WY {n:Nat} {f:(List D→Option Out)→Option Out} (h:Nt n f):∀l:List D,Nt n (fun k=>lvC l (f k))
 | []=>h
 | _::l=>ek fun _=>WY h l
theorem bU {dst:Option Nat} {xs:List Operand} {lv:Nat} {h:List D→Option D} {A:Ac} (hA:bT c dst xs lv h=some A):jx A:=by
 unfold bT at hA
 repeat' (split at hA)
 all_goals first | (cases hA;done) | (cases hA;trivial)
theorem QZ {rd:List Nat} {d lv l:Nat} {h:List D→Option D} {A:Ac} (hA:Ws (fun h=>Ac.one rd d h) (KN lv l h)=some A):jx A:=by
 unfold KN at hA
 repeat' (split at hA)
 all_goals first | (cases hA;done) | (cases hA;trivial)
theorem Nr {dst:Option Nat} {x:Operand} {t:Nat} {A:Ac} (hA:Le c dst x t=some A):jx A:=by
 unfold Le at hA
 repeat' (split at hA)
 all_goals first
  | (cases hA;done)
  | exact bU hA
  | (cases hA;trivial)
  | (cases hA;exact fun is=>sG fun x=>fU rfl)
  | (cases hA;exact fun is=>sG fun p=>sG fun x=>ek fun y=>fU rfl)
  | (cases hA;exact fun is=>fU rfl)
  | (obtain⟨i,_,hA⟩:=aH hA;exact bU hA)
theorem Ur {dst:Option Nat} {i:TI} {p:Operand} {A:Ac} (hA:VQ c dst i p=some A):jx A:=by
 unfold VQ at hA
 repeat' (split at hA)
 all_goals first | (cases hA;done) | exact bU hA | exact QZ hA
theorem SB {i:TI} {p x:Operand} {A:Ac} (hA:Tp c i p x=some A):jx A:=by
 have main:∀q r lv,NI c i q r lv x=some A→jx A:=by
  intro q r lv hA;unfold NI at hA
  repeat' (split at hA)
  all_goals first
   | (cases hA;done)
   | (cases hA;exact fun is=>Sw fun b p is=>sG fun y=>Ta fun b=>fU rfl)
   | (cases hA;exact fun is=>Sw fun b p is=>Ta fun b=>fU rfl)
 unfold Tp at hA
 repeat' (split at hA)
 all_goals first | (cases hA;done) | exact main _ _ _ hA
theorem Tz {dst:Option Nat} {i:TI} {f:Nat} {p:Operand} {A:Ac} (hA:Wm c dst i f p=some A):jx A:=by
 unfold Wm at hA
 repeat' (split at hA)
 all_goals first | (cases hA;done) | exact bU hA | (cases hA;trivial)
theorem So {dst:Option Nat} {i:TI} {x y:Operand} {A:Ac} (hA:WN c dst i x y=some A):jx A:=by
 unfold WN at hA
 repeat' (split at hA)
 all_goals first | (cases hA;done) | exact bU hA | (cases hA;trivial)
theorem Uz {dst:Option Nat} {i:TI} {n:Nat} {ps:List (Nat × Operand)} {A:Ac} (hA:VH c dst i n ps=some A):jx A:=by
 unfold VH at hA;simp only at hA
 repeat' (split at hA)
 all_goals first | (cases hA;done) | (cases hA;exact fun is=>ek fun y=>fU rfl)
theorem UB {n:Nat} {chk:Bool} {b:D} {f:D→(List D→Option Out)→Option Out} (h:∀y,Nt n (f y)):Nt n (fun k=>PU chk b fun b=>f b k):=by
 cases chk
 ·exact h b
 ·exact ek h
theorem Ud {dst:Option Nat} {i:TI} {x y:Operand} {A:Ac} (hA:Uu c dst i x y=some A):jx A:=by
 have main:∀d chk rs rx os,Sa c d i chk rs rx os=some A→jx A:=by
  intro d chk rs rx os hA;unfold Sa at hA
  repeat' (split at hA)
  all_goals first
   | (cases hA;done)
   | (cases hA;exact fun is=>LJ fun a=>LJ fun b=>UB fun b=>ek fun y=>fU rfl)
   | (cases hA;exact fun is=>LJ fun b=>UB fun b=>ek fun y=>fU rfl)
 unfold Uu at hA
 repeat' (split at hA)
 all_goals first
  | (cases hA;done)
  | exact main _ _ _ _ _ hA
theorem TR {dst:Option Nat} {str:Bool} {x:Operand} {A:Ac} (hA:Rm c dst str x=some A):jx A:=by
 unfold Rm at hA
 repeat' (split at hA)
 all_goals first | (cases hA;done) | exact bU hA | (cases hA;trivial)
theorem TS {dst:Option Nat} {i:TI} {x:Operand} {lo hi:Option Operand} {A:Ac} (hA:JJ c dst i x lo hi=some A):jx A:=by
 have own:Kp c dst i x lo hi=some A→jx A:=by
  intro hA;unfold Kp at hA
  repeat' (split at hA)
  all_goals first | (cases hA;done) | (cases hA;exact fun is=>LJ fun a=>ek fun y=>fU rfl)
 unfold JJ at hA
 repeat' (split at hA)
 all_goals first | (cases hA;done) | exact bU hA | exact own hA
theorem Up {dst:Option Nat} {i e:TI} {x y:Operand} {A:Ac} (hA:Wo c dst i e x y=some A):jx A:=by
 unfold Wo at hA
 repeat' (split at hA)
 all_goals first | (cases hA;done) | (cases hA;exact fun is=>ek fun y=>fU rfl)
theorem UM {dst:Option Nat} {i:TI} {x:Operand} {A:Ac} (hA:WH c dst i x=some A):jx A:=by
 unfold WH at hA
 repeat' (split at hA)
 all_goals first | (cases hA;done) | (cases hA;exact fun is=>ek fun y=>fU rfl) | (cases hA;exact fun is=>ek fun y=>ek fun y=>fU rfl)
theorem RY {dst:Option Nat} {t f:Nat} {S:FS} {xs:List Operand} {A:Ac} (hA:Ny c dst t f S xs=some A):jx A:=by
  unfold Ny at hA
  repeat' (split at hA)
  all_goals first
    | (cases hA;done)
    | (cases hA;exact fun is=>by
        cases is with
        | nil=>exact kI
        | cons cl is=>exact TX fun caps=>TT fun ds=>Qw fun rs us=>fU rfl)
theorem SS {dst:Option Nat} {i:TI} {A:Ac} (hA:VO c dst i=some A):jx A:=by
 unfold VO at hA
 repeat' (split at hA)
 all_goals first | (cases hA;done) | (cases hA;exact fun is=>fU rfl)
theorem SX {dst:Option Nat} {x:Operand} {i:Nat} {A:Ac} (hA:WO c dst x i=some A):jx A:=by
 unfold WO at hA
 repeat' (split at hA)
 all_goals first | (cases hA;done) | (cases hA;trivial) | (cases hA;exact fun is=>sG fun t=>ek fun y=>fU rfl)
theorem Gn (us:List D):∀(ios:List Nat) (j:Nat),(mO.go us j ios).length=ios.length
 | [],_=>rfl
 | _::l,j=>by simp [mO.go,Gn us l]
theorem TD {dst:Option Nat} {S:FS} {xs:List Operand} {A:Ac} (hA:mO c dst S xs=some A):jx A:=by
 unfold mO at hA;split at hA
 ·cases hA
 simp only at hA;split at hA
 case h_2=>cases hA
 repeat' (split at hA)
 all_goals first
  | (cases hA;done)
  | (cases hA;exact fun is=>TT fun ds=>Qw fun rs us=>WY (fU (by simp [mO.outs,Gn])) _)
theorem Sq {dst:Option Nat} {i j:TI} {x:Operand} {A:Ac} (hA:Wp c dst i j x=some A):jx A:=by
 unfold Wp at hA
 repeat' (split at hA)
 all_goals first | (cases hA;done) | exact bU hA | (cases hA;trivial)
theorem Sk {dst:Option Nat} {i:TI} {x y:Operand} {A:Ac} (hA:VA c dst i x y=some A):jx A:=by
 unfold VA at hA
 repeat' (split at hA)
 all_goals first | (cases hA;done) | exact bU hA | (obtain⟨i,_,hA⟩:=aH hA;exact bU hA)
theorem Ua {dst:Option Nat} {i:TI} {ps:List (Nat × Operand)} {A:Ac} (hA:Wn c dst i ps=some A):jx A:=by
 unfold Wn at hA;simp only at hA
 repeat' (split at hA)
 all_goals first | (cases hA;done) | exact bU hA
theorem Ty {dst:Option Nat} {x:Operand} {A:Ac} (hA:Wa c dst x=some A):jx A:=by
 unfold Wa at hA
 repeat' (split at hA)
 all_goals first | (cases hA;done) | exact bU hA | (cases hA;trivial)
theorem SO {dst:Option Nat} {x:Operand} {A:Ac} (hA:UR c dst x=some A):jx A:=by
 unfold UR at hA
 repeat' (split at hA)
 all_goals first | (cases hA;done) | exact bU hA
theorem Um {dst:Option Nat} {q:Call} {A:Ac} (hA:Nl c dst q=some A):jx A:=by
 unfold Nl at hA;split at hA
 ·obtain⟨i,_,hA⟩:=aH hA
  repeat' (split at hA)
  all_goals first | exact TR hA | exact SO hA | cases hA
 ·split at hA
  ·obtain⟨i,_,hA⟩:=aH hA
   obtain⟨e,_,hA⟩:=aH hA;split at hA<;>first | exact Ud hA | cases hA
  ·cases hA
 ·exact bU hA
 ·exact bU hA
 ·split at hA<;>first | exact TD hA | cases hA
 ·repeat' (split at hA)
  all_goals first | exact RY hA | cases hA
 ·cases hA
theorem Sv {dst:Option Nat} {x:Operand} {A:Ac} (hA:VX c dst x=some A):jx A:=by
 unfold VX at hA
 repeat' (split at hA)
 all_goals first | (cases hA;done) | (cases hA;exact fun is=>ek fun y=>fU rfl)
theorem TK {dst:Option Nat} {q:Nat} {A:Ac} (hA:We c dst q=some A):jx A:=by
 unfold We at hA
 repeat' (split at hA)
 all_goals first | (cases hA;done) | (cases hA;exact fun is=>sG fun x=>ek fun y=>fU rfl)
theorem UN {dst:Option Nat} {A:Ac} (hA:Vi c dst=some A):jx A:=by
 unfold Vi at hA
 repeat' (split at hA)
 all_goals first | (cases hA;done) | (cases hA;exact fun is=>fU rfl)
theorem Si {q:Nat} {x y:Operand} {A:Ac} (hA:VE c q x y=some A):jx A:=by
 unfold VE at hA
 repeat' (split at hA)
 all_goals first
  | (cases hA;done)
  | (cases hA;intro is;rcases is with _ | ⟨b,is⟩;exact kI;exact ek fun y=>fU rfl)
  | (cases hA;intro is;rcases is with _ | ⟨p,_ | ⟨b,is⟩⟩;exact kI;exact kI;exact ek fun b=>ek fun y=>fU rfl)
theorem Ug {dst:Option Nat} {q:Nat} {x:Operand} {A:Ac} (hA:Ww c dst q x=some A):jx A:=by
 unfold Ww at hA
 repeat' (split at hA)
 all_goals first | (cases hA;done) | exact bU hA | (cases hA;trivial)
theorem KG {o:Oper} {A:Ac} (hA:cf c o=some A):jx A:=by
 unfold cf at hA;split at hA
 case h_1=>exact Nr hA
 case h_2=>exact Nr hA
 case h_3=>exact bU hA
 case h_4=>obtain⟨i,_,hA⟩:=aH hA;exact SS hA
 case h_5=>obtain⟨i,_,hA⟩:=aH hA;exact UM hA
 case h_6=>obtain⟨i,_,hA⟩:=aH hA;exact Ua hA
 case h_7 =>
  obtain⟨i,_,hA⟩:=aH hA;obtain⟨e,_,hA⟩:=aH hA;split at hA<;>first | exact Uz hA | cases hA
 case h_8=>obtain⟨i,_,hA⟩:=aH hA;exact Ur hA
 case h_9 =>
  split at hA
  ·obtain⟨i,_,hA⟩:=aH hA;exact SB hA
  ·cases hA
 case h_10=>exact Ty hA
 case h_11 =>
  obtain⟨i,_,hA⟩:=aH hA;split at hA
  ·exact bU hA
  ·split at hA<;>exact bU hA
 case h_12=>exact bU hA
 case h_13 =>
  obtain⟨i,_,hA⟩:=aH hA;obtain⟨e,_,hA⟩:=aH hA;exact Sq hA
 case h_14=>split at hA<;>first | exact bU hA | cases hA
 case h_15 =>
  obtain⟨i,_,hA⟩:=aH hA;obtain⟨e,_,hA⟩:=aH hA;split at hA<;>first | exact Up hA | cases hA
 case h_16 =>
  obtain⟨i,_,hA⟩:=aH hA;split at hA<;>first | exact TS hA | cases hA
 case h_17=>obtain⟨i,_,hA⟩:=aH hA;exact Tz hA
 case h_18 =>
  obtain⟨i,_,hA⟩:=aH hA;split at hA<;>first | exact bU hA | cases hA
 case h_19=>obtain⟨i,_,hA⟩:=aH hA;exact So hA
 case h_20=>obtain⟨i,_,hA⟩:=aH hA;exact Sk hA
 case h_21=>exact SX hA
 case h_22=>exact Um hA
 case h_23 =>
  obtain⟨i,_,hA⟩:=aH hA;split at hA<;>first | exact Sv hA | cases hA
 case h_24=>exact TK hA
 case h_25 =>
  obtain⟨i,_,hA⟩:=aH hA;split at hA<;>first | exact UN hA | cases hA
 case h_26 =>
  split at hA
  ·obtain⟨i,_,hA⟩:=aH hA
   split at hA<;>first | exact Si hA | cases hA
  ·cases hA
 case h_27 =>
  obtain⟨i,_,hA⟩:=aH hA;split at hA<;>first | exact Ug hA | cases hA
 case h_28=>cases hA
end
end Go.V

namespace Go.V
open Go.RowKit
set_option maxRecDepth 100000
def Pv:Kd→Bool
 | .via _=>false
 | .ref _=>false
 | _=>true
def RD (c:Cx) (ops:List Oper) (o:Oper):Bool :=
 (match o.dst with
  | some d=>!mW (aq c.K d)
  | none=>true) &&
 (match o.guard with
  | none=>true
  | some (j,_)=>(match GU ops j with
    | some g=>(match aq c.K g with
     | .dat _=>true
     | _=>false)
    | none=>false) &&
   (match cf c o with
    | some (.one _ d _)=>(match o.dst with
     | some d'=>ZX d' d
     | none=>false)
    | some (.many _ hw cw _)=>(hw++cw).all (fun s=>Pv (aq c.K s))&&(match o.dst with
     | some d=>lF d hw
     | none=>true)
    | none=>true))
def IoV (c:Cx) (V:Nat→Value) (a:Act):Prop:=∀s,mW (aq c.K s)=true→av a s=V s
theorem SK {P:Program} {o:Oper} {a:Act} {next:Act→World→Prop} {Q:Exit→Act→World→Prop}:∀{res:Result Go.Next},o.upon P a next Q res→o.upon P a (fun a' w'=>next a' w'∧∀s,o.dst≠some s→av a' s=av a s) Q res:=by
 have key:∀(df:List Deferred) (v:Value) (s:Nat),o.dst≠some s→av (({a with defers:=df}:Act).put o.dst v) s=av a s:=by
  intro df v s hs;cases hd:o.dst with
  | none=>rfl
  | some d =>
   have:s≠d:=fun e=>hs (by rw [hd,e])
   exact(cQ this).trans rfl
 have key0:∀(v:Value) (s:Nat),o.dst≠some s→av (a.put o.dst v) s=av a s:=fun v s hs=>key a.defers v s hs
 intro res h;cases res with
 | ok n w' =>
  cases n<;>simp only [Oper.upon] at h ⊢ <;>
   first
    | exact⟨h,key0 _⟩
    | exact⟨h,key _ _⟩
    | exact Calls.mono h (fun e w'' he=>by cases e<;>first | exact⟨he,key0 _⟩ | exact he)
    | exact Rows.mono h (fun _ _ he=>⟨he,key0 _⟩)
 | halt x w'=>cases x<;>simp only [Oper.upon] at h ⊢<;>exact h
section
variable {P:Program} {c:Cx} {B:Nat} {X:Nat→Prop} {w0:World} {F0 F:Nat→Prop} {O:Nat→Option (Nat × Nat)} {a:Act} {w:World} {δ:List D}
theorem sq:∀(ss:List Nat) (l:List D) (j:Nat),j+ss.length=l.length→fit l j ss=l.drop j
 | [],l,j,h=>by simp [fit,List.drop_eq_nil_of_le (show l.length≤j by simp at h;omega)]
 | s::ss,l,j,h=>by
  simp only [aan] at h;have hj:j<l.length:=by omega
  simp only [fit];rw [sq ss l (j+1) (by omega),aai hj,fp,ZH,aao hj];rfl
def Df (K:List Kd) (dst:Option Nat) (δ:List D) (s:Nat):D :=
 match dst with
 | some d=>if lF s (d::fv d K 0) then Bk (aq K s) else nth δ s
 | none=>nth δ s
theorem zC (K:List Kd) (dst:Option Nat) (δ:List D):∀(ss:List Nat) (k:List D→Option Out),Ox K δ dst ss k=k (ss.map (Df K dst δ))
 | [],k=>by simp [Ox]
 | s::ss,k=>by
  cases dst with
  | none=>simp only [Ox,Df,eM,ZI];exact zC K none δ ss _
  | some d =>
   simp only [Ox,ZI];cases h:lF s (d::fv d K 0)
   ·simp only [eM]
    rw [zC K (some d) δ ss];simp only [Df,h,aaz,if_false]
   ·simp only
    rw [zC K (some d) δ ss];simp only [Df,h,if_true]
theorem pT (f:Nat→D):∀(ss:List Nat) (δ:List D) (s:Nat),nth (aj δ ss (ss.map f)) s=if s∈ss then(if s<δ.length then f s else .bad) else nth δ s
 | [],δ,s=>by simp [aj]
 | t::ss,δ,s=>by
  simp only [ZI,aj];rw [pT f ss (gS δ t (f t)) s,gi];by_cases hs:s∈ss
  ·simp [hs]
  ·by_cases ht:s=t
   ·subst ht
    simp only [hs,if_false,ZJ,true_or,if_true];exact bH _ _ _
   ·simp only [hs,if_false,ZJ,ht,or_self]
    exact cK _ _ _ _ ht
theorem Py {δ:List D} {s:Nat} (h:nth δ s ≠ .bad):s<δ.length:=by
 by_cases hl:s<δ.length
 ·exact hl
 ·exfalso
  rw [fp,ZH,ZR (by omega)] at h;exact h rfl
theorem Wr {s:Nat} (hs:s<a.tmps.size):xZ c.K B F O (a.put (some s) undef) w s (Bk (aq c.K s)):=by
 have hav:av (a.put (some s) undef) s=undef:=by
  simp [av,Act.put,hs]
 unfold Bk;split
 ·rename_i lv hk
  refine .inr ?_
  simp only [hk];refine .inr ?_
  rw [hav];exact⟨rfl,rfl⟩
 ·exact .inl rfl
theorem Inv.pass_over (h:Inv c B X w0 F0 F O a w δ) {dst:Option Nat} {hw cw:List Nat} (hk:∀s∈hw++cw,Pv (aq c.K s)=true) (hd:∀d,dst=some d→d∈hw) :
  Inv c B X w0 F0 F O (a.put dst undef) w (aj δ (hw++(cw++aY c.K hw)) ((hw++cw).map (Df c.K dst δ))):=by
 have hav:∀s,dst≠some s→av (a.put dst undef) s=av a s:=by
  intro s hs;cases dst with
  | none=>rfl
  | some d=>exact cQ fun e=>hs (by rw [e])
 have hnd:∀s,Pv (aq c.K s)=true→∀d,s∉fv d c.K 0:=fun s hs d hm=>by
  rcases vq hm with e | e<;>rw [e] at hs<;>cases hs
 refine h.many (by simp) (by cases dst<;>simp [Act.put]) (by cases dst<;>rfl) (fun s hs=>hav s fun e=>hs (hd s e)) (fun r hr hn hb=>?_) (fun s hs=>?_) (fun _ hb=>hb) (fun _ _=>rfl) (fun _ _ hp _=>⟨hp,rfl⟩) h.fl h.ol (fun _ hb=>.inl hb) (Nat.le_refl _) rfl rfl rfl (fun _ _ _=>rfl)
 ·rw [pT,if_pos (aae _ hr),if_pos (Py hb)]
  unfold Df;split
  ·rename_i d
   rw [if_neg]
   ·exact hb
   ·rw [fx]
    simp only [decide_eq_true_eq,ZJ,not_or];exact⟨fun e=>hn (e ▸ hd d rfl),hnd r (hk r (aae _ hr)) d⟩
  ·exact hb
 ·rw [pT,if_pos hs]
  split
  case isFalse=>exact .inl rfl
  rename_i hsl;have keep:dst≠some s→xZ c.K B F O (a.put dst undef) w s (nth δ s):=by
   intro hne;rcases h.slot s with hb | hb
   ·exact .inl hb
   ·refine .inr ?_
    have hks:=hk s hs;rw [hav s hne];generalize aq c.K s=kk at hks hb;cases kk<;>first | exact hb | cases hks
  unfold Df;split
  ·rename_i d
   split
   ·rename_i hm
    rw [fx] at hm;simp only [decide_eq_true_eq,ZJ] at hm;rcases hm with rfl | hm
    ·exact Wr (by rw [h.la,←h.ld];exact hsl)
    ·rcases vq hm with e | e<;>(rw [e];exact .inl rfl)
   ·rename_i hm
    rw [fx] at hm;simp only [decide_eq_true_eq,ZJ,not_or] at hm;exact keep fun e=>hm.1 (by cases e;rfl)
  ·exact keep (by simp)
def rdS (c:Cx) (ops:List Oper) (o:Oper):List Nat :=
 match cf c o with
 | none=>[]
 | some A=>match o.guard with
  | none=>Xq A
  | some (j,_)=>match GU ops j with
   | none=>[]
   | some g=>match A with
    | .one rd _ _=>g::rd
    | .many rd hw cw _=>g::(rd++(hw++cw))
def wrS (c:Cx) (o:Oper):List Nat :=
 match cf c o with
 | none=>[]
 | some (.one _ d _)=>d::fv d c.K 0
 | some (.many _ hw cw _)=>hw++(cw++aY c.K hw)
theorem kJ {δ δ':List D}:∀{ss:List Nat},(∀s∈ss,nth δ s=nth δ' s)→ao δ ss=ao δ' ss
 | [],_=>rfl
 | s::ss,h=>by
  simp only [ao];rw [h s (by simp),kJ fun t ht=>h t (by simp [ht])]
theorem Kt {δ δ':List D}:∀{ss:List Nat},ao δ ss=ao δ' ss→∀s∈ss,nth δ s=nth δ' s
 | t::ss,h,s,hs=>by
  simp only [ao,ZG] at h;rcases ZJ.1 hs with rfl | hs
  ·exact h.1
  ·exact Kt h.2 s hs
theorem rp (c:Cx) (ops:List Oper) (o:Oper):∃φ:List D→Option (List D),(∀δ k,cJ c ops o δ k=(φ δ).bind fun l=>k (aj δ (wrS c o) l))∧∀δ δ',ao δ (rdS c ops o)=ao δ' (rdS c ops o)→φ δ=φ δ':=by
 unfold cJ rdS wrS;cases hA:cf c o with
 | none=>exact⟨fun _=>none,fun _ _=>rfl,fun _ _ _=>rfl⟩
 | some A =>
  have hn:=KG hA;cases hgd:o.guard with
  | none =>
   cases A with
   | one rd d h =>
    refine⟨fun δ=>(h (ao δ rd)).map fun z=>[z],fun δ k=>?_,fun δ δ' e=>by simp only [Xq] at e;simp only [e]⟩
    simp only [bB];cases h (ao δ rd) with
    | none=>rfl
    | some z=>exact bP _ _ _ _
   | many rd hw cw fn =>
    refine⟨fun δ=>aar (hn (ao δ rd)),fun δ k=>?_,fun δ δ' e=>by simp only [Xq] at e;simp only [e]⟩
    simp only [bB,bP,gp];exact(aau (hn (ao δ rd))).1 _
  | some jp =>
   obtain⟨j,pol⟩:=jp;simp only;cases hg:GU ops j with
   | none=>exact⟨fun _=>none,fun _ _=>rfl,fun _ _ _=>rfl⟩
   | some g =>
    cases A with
    | one rd d h =>
     refine⟨fun δ=>(af (Bk (aq c.K d)) (nth δ g) pol (h (ao δ rd))).map fun z=>[z],fun δ k=>?_,fun δ δ' e=>by simp only [ao,ZG] at e;simp only [e.1,e.2]⟩
     simp only [bB,eM];cases af (Bk (aq c.K d)) (nth δ g) pol (h (ao δ rd)) with
     | none=>rfl
     | some z=>exact bP _ _ _ _
    | many rd hw cw fn =>
     refine⟨fun δ=>match nth δ g with
      | .v (.bool b)=>if b=pol then aar (hn (ao δ rd)) else some ((hw++cw).map (Df c.K o.dst δ))
      | .tup _=>some ((hw++cw).map (Df c.K o.dst δ))
      | _=>none,fun δ k=>?_,fun δ δ' e=>?_⟩
     ·simp only [bB,bP,eM,gp,zC]
      unfold bX;split
      ·rename_i b hb
       rw [hb];simp only;split
       ·obtain⟨h1,h2⟩:=aau (hn (ao δ rd))
        rw [h1];cases hc:aar (hn (ao δ rd)) with
        | none=>rfl
        | some l =>
         have hl:=h2 l hc;simp only [ZO];rw [sq _ l 0 (by omega),ZN,sq _ l 0 (by omega),ZN]
       ·simp only [ZO]
        rw [sq _ _ 0 (by simp),ZN]
      ·rename_i l hb
       rw [hb];simp only [ZO];rw [sq _ _ 0 (by simp),ZN]
      ·rename_i hb hb'
       split
       ·rename_i b hb2;exact absurd hb2 (hb b)
       ·rename_i l hb2;exact absurd hb2 (hb' l)
       ·rfl
     ·simp only [ao,ZG,jz] at e
      have e2:=List.append_inj e.2 (by rw [oX,oX]);have e3:∀s∈hw++cw,nth δ s=nth δ' s:=Kt (by rw [jz,jz];exact e2.2);have e4:(hw++cw).map (Df c.K o.dst δ)=(hw++cw).map (Df c.K o.dst δ'):=by
       refine List.map_congr_left fun s hs=>?_
       unfold Df;rw [e3 s hs]
      simp only [e.1,e2.1,e4]
def iO (c:Cx) (B:Nat) (X:Nat→Prop) (w0:World) (F0:Nat→Prop) (V:Nat→Value) (k:List D→Option Out) (r:Out) (a:Act) (w:World):Prop :=
 Next c B X w0 F0 k r a w∧IoV c V a
theorem Hu (hT:okT P c.T=true) (hS:∀f S,dr c.S f=some S→aw c.G P f S) {ops:Array Oper} {o:Oper} (hok:RD c ops.toList o=true) {V:Nat→Value} (hI:Inv c B X w0 F0 F O a w δ) (hV:IoV c V a) {k:List D→Option Out} {r:Out}
  (hg:cJ c ops.toList o δ k=some r) (Q:Exit→Act→World→Prop) :
  if ZS o (yielded ops a.tmps) then o.wp P a w (iO c B X w0 F0 V k r) Q else iO c B X w0 F0 V k r (a.put o.dst undef) w:=by
 unfold RD at hok;simp only [aad] at hok;obtain⟨hdst,hgd⟩:=hok;have hio:∀s,mW (aq c.K s)=true→o.dst≠some s:=fun s hs e=>by
  rw [e] at hdst;simp only at hdst;rw [hs] at hdst;cases hdst
 have lift:∀(A:Ac),cf c o=some A→dM c A δ k=some r→o.wp P a w (iO c B X w0 F0 V k r) Q:=by
  intro A hA hgo;have h:=Rt hT hS o A hA B X w0 F0 F O a w δ hI k r hgo Q;unfold Oper.wp at h ⊢;refine Oper.wp_mono (P:=P) (o:=o) (a:=a) (w:=w) (K:=fun a' w'=>Next c B X w0 F0 k r a' w'∧∀s,o.dst≠some s→av a' s=av a s) (fun a' w' hn=>⟨hn.1,fun s hs=>(hn.2 s (hio s hs)).trans (hV s hs)⟩) ?_
  exact SK h
 have skipV:IoV c V (a.put o.dst undef):=by
  intro s hs;cases hd:o.dst with
  | none=>exact hV s hs
  | some d=>exact(cQ (fun e=>hio s hs (by rw [hd,e]))).trans (hV s hs)
 unfold cJ at hg;cases hA:cf c o with
 | none=>rw [hA] at hg;cases hg
 | some A =>
  rw [hA] at hg;simp only at hg;cases hgu:o.guard with
  | none =>
   rw [hgu] at hg;rw [if_pos (by simp [ZS,hgu])];refine lift A hA ?_
   cases A with
   | one rd d h =>
    simp only [bB] at hg;obtain⟨z,h1,h2⟩:=ZE.1 hg;rw [bP] at h2;simp only [dM,h1,ZO];exact h2
   | many rd hw cw fn =>
    simp only [bB,bP,gp] at hg;exact hg
  | some jp =>
   obtain⟨j,pol⟩:=jp;rw [hgu] at hg;rw [hgu,hA] at hgd;simp only [aad] at hgd;simp only at hg;cases hgs:GU ops.toList j with
   | none=>rw [hgs] at hg;cases hg
   | some g =>
    rw [hgs] at hg hgd;simp only at hgd;obtain⟨hkd,hck⟩:=hgd;have hyield:∀b,nth δ g = .v (.bool b)→yielded ops a.tmps j=some b:=by
     intro b hb;obtain⟨lv,hk⟩:∃lv,aq c.K g = .dat lv:=by
      split at hkd
      ·exact⟨_,‹_›⟩
      ·cases hkd
     have hr:=hI.dat hk;rw [hb] at hr;obtain⟨hv,_⟩:=br hr;have hlt:g<a.tmps.size:=by
      rw [hI.la,←hI.ld];exact Py (by rw [hb];simp)
     have hg1:a.tmps[g]?=some (.bool b):=by
      rw [av,aag,aal hlt] at hv;rw [aal hlt];simpa using hv
     unfold GU at hgs;rw [AA,aav] at hgs;unfold yielded;cases ho:ops[j]? with
     | none=>rw [ho] at hgs;cases hgs
     | some oj =>
      rw [ho] at hgs;simp only at hgs;simp [hgs,hg1]
    have hyT:∀l,nth δ g = .tup l→yielded ops a.tmps j=none:=by
     intro l hb;obtain⟨lv,hk⟩:∃lv,aq c.K g = .dat lv:=by
      split at hkd
      ·exact⟨_,‹_›⟩
      ·cases hkd
     have hr:=hI.dat hk;rw [hb] at hr;have hv:av a g = .tuple #[]:=(hr.rep (by simp)).2;unfold yielded;rw [GU,AA,aav] at hgs;cases ho:ops[j]? with
     | none=>simp
     | some oj =>
      rw [ho] at hgs;simp only at hgs;simp only [ZO,hgs];cases hx:a.tmps[g]? with
      | none=>rfl
      | some x =>
       have:x = .tuple #[]:=by
        rw [←hv,av,aag,hx];rfl
       subst this;rfl
    cases A with
    | one rd d h =>
     simp only [eM,bB] at hg;obtain⟨z,h1,h2⟩:=ZE.1 hg;rw [bP] at h2;unfold af at h1;have skip:z=Bk (aq c.K d)→iO c B X w0 F0 V k r (a.put o.dst undef) w:=by
      rintro rfl;refine⟨⟨F,O,_,?_,h2⟩,skipV⟩
      simp only at hck;split at hck
      ·rename_i d' hd'
       rw [aZ] at hck;subst hck;rw [hd'];refine hI.put ?_
       unfold Bk Fr;split
       ·rename_i hkk
        refine .inr ?_
        rw [hkk];exact⟨rfl,rfl⟩
       ·exact .inl rfl
      ·cases hck
     split at h1
     case h_3=>cases h1
     case h_2 =>
      rename_i l hb;have hy:=hyT l hb;rw [if_neg (by simp [ZS,hgu,hy])];exact skip (by cases h1;rfl)
     rename_i b hb;have hy:=hyield b hb;split at h1
     ·rename_i hbp
      rw [if_pos (by simp [ZS,hgu,hy,hbp])];exact lift _ hA (by simp only [dM,h1,ZO];exact h2)
     ·rename_i hbp
      rw [if_neg (by simp [ZS,hgu,hy,hbp])];exact skip (by cases h1;rfl)
    | many rd hw cw fn =>
     simp only [eM,bB,zC,gp,bP] at hg;unfold bX at hg;have skip:k (aj δ (hw++(cw++aY c.K hw)) (fit ((hw++cw).map (Df c.K o.dst δ)) 0 (hw++cw)))=some r→iO c B X w0 F0 V k r (a.put o.dst undef) w:=by
      intro hg;rw [sq _ _ 0 (by simp),ZN] at hg;simp only [aad,List.all_eq_true] at hck;refine⟨⟨F,O,_,hI.pass_over hck.1 (fun d hd=>?_),hg⟩,skipV⟩
      have h3:=hck.2;rw [hd] at h3;simp only [fx,decide_eq_true_eq] at h3;exact h3
     split at hg
     case h_3=>cases hg
     case h_2 =>
      rename_i l hb;have hy:=hyT l hb;rw [if_neg (by simp [ZS,hgu,hy])];exact skip hg
     rename_i b hb;have hy:=hyield b hb;obtain⟨φ,hφ,hlen⟩:=KG hA (ao δ rd);split at hg
     ·rename_i hbp
      rw [if_pos (by simp [ZS,hgu,hy,hbp])];refine lift _ hA ?_
      simp only [dM];rw [hφ] at hg ⊢;cases hp:φ with
      | none=>rw [hp] at hg;cases hg
      | some l =>
       rw [hp] at hg;have hl:=hlen l hp;simp only [ZO] at hg ⊢;rw [sq _ l 0 (by omega),ZN,sq _ l 0 (by omega),ZN] at hg;exact hg
     ·rename_i hbp
      rw [if_neg (by simp [ZS,hgu,hy,hbp])];exact skip hg
theorem yi (hT:okT P c.T=true) (hS:∀f S,dr c.S f=some S→aw c.G P f S) {ops:Array Oper} {V:Nat→Value} {Q:Exit→Act→World→Prop} {k:List D→Option Out} {r:Out} (hQ:∀a w,iO c B X w0 F0 V k r a w→Q .normal a w) :
  ∀(l:List Oper),(∀o∈l,RD c ops.toList o=true)→∀(F:Nat→Prop) (O:Nat→Option (Nat × Nat)) (a:Act) (w:World) (δ:List D),Inv c B X w0 F0 F O a w δ→IoV c V a→ka c ops.toList l δ k=some r→wpList P ops Q l a w
 | [],_,F,O,a,w,δ,hI,hV,hg=>hQ a w ⟨⟨F,O,δ,hI,hg⟩,hV⟩
 | o::l,hok,F,O,a,w,δ,hI,hV,hg=>by
  simp only [ka] at hg;have h:=Hu hT hS (hok o (by simp)) hI hV hg Q;have ih:∀a w,iO c B X w0 F0 V (fun δ'=>ka c ops.toList l δ' k) r a w→wpList P ops Q l a w:=by
   rintro a w ⟨⟨F',O',δ',hI',hk'⟩,hV'⟩;exact yi hT hS hQ l (fun o' ho'=>hok o' (by simp [ho'])) F' O' a w δ' hI' hV' hk'
  unfold wpList;split
  ·rename_i hw
   rw [if_pos hw] at h;exact .inl (Oper.wp_mono ih h)
  ·rename_i hw
   rw [if_neg hw] at h;exact ih _ _ h
end
end Go.V

end
