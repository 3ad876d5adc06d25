/-
  A part of the proof: contracts and plain forms of functions beneath the statement, made small by a program (names shortened, what is not needed left out).
-/
import Derived.Test.YtepkkkphfmckdaaGreatDoorRows
import Derived.Test.YtepkkkphfmckdaaGreatDoorTie
import Derived.Test.YtepkkkphfmckdaaGreatDoorCards
import Derived.Test.YtepkkkphfmckdaaGreatDoorM2
import Derived.Laws.RangeString
import Derived.MapKept
open Option renaming bind_eq_some_iff → Hg, map_eq_some_iff → Hh, bind_some → Hm, bind_assoc → HI, getD_some → Ir, map_some → II
open List renaming getD_eq_getElem?_getD → Hi, map_cons → Hn, mem_cons → Hq, getElem?_eq_none → Hr, drop_zero → Hs, getElem?_eq_some_iff → HA, snd_lt_of_mem_zipIdx → HC, getElem?_eq_getElem → HD, all_eq_true → HE, nil_append → HH, drop_eq_getElem_cons → HU, map_nil → HY, length_eq_one_iff → Ib, length_cons → Ic, cons_append → Ie, mem_append_right → Ig, eq_nil_of_length_eq_zero → Ik, length_take → Ip, getElem?_take_of_lt → Iq, getElem?_cons_zero → It, mem_filter → Iv, take_append_drop → Iw, getD_cons_zero → Iy, filter_congr → ID, map_toArray → IF
open Array renaming getD_eq_getD_getElem? → Hj, getElem?_eq_getElem → Ht, getElem?_eq_some_iff → Hx, getElem?_setIfInBounds → HL, toArray_toList → HN, getElem?_toList → Ih, length_toList → Iz, replicate → IH
open Bool renaming and_eq_true → Hk, not_eq_true' → Hz, or_eq_true → HV, false_eq_true → Il, not_false → IJ
open List.cons renaming injEq → Hl
open Option.some renaming injEq → Ho, inj → IG
open Nat renaming beq → Hp, lt_of_lt_of_le → Hw, beq_refl → Ii, le_trans → Ij, le_refl → IE
open Go.MapKept renaming run_checkKey → Hu, run_findKey → Hv, run_getObj_map → HB
open Go.Region renaming wanted → Hy, binds → HF, ready → Ia
open Go.Result renaming andThen → HJ
open Classical renaming choose_spec → HK, choose → HO
open Go.Instr renaming findNow → HS, lookup → HZ, next → Im, mapUpdate → Iu, sameNow → Ix
open Ne renaming symm → Io
open Go.Builtin renaming min2 → IA, max2 → IB
open Go.Oper renaming wp_mono → IC
set_option maxRecDepth 100000
set_option linter.unusedSimpArgs false
set_option linter.unusedVariables false
noncomputable section
namespace Go.V
open Go.RowKit
set_option maxRecDepth 100000
def iq (w:World) (F own:Nat→Prop) (k:Kd) (d:D) (y:Value):Prop :=
 d = .bad∨match k with
  | .dat lv=>bj w (FB F 0 lv) d y
  | .own z lv true=>fT w (FB F 0 lv) own z d y
  | .box n lv true=>rJ w (FB F 0 lv) own n d y
  | _=>False
def dK (w:World) (F:Nat→Prop) (ow:Nat→Option Nat):Nat→List Kd→List D→List Value→Prop
 | _,[],[],[]=>True
 | i,k::ks,d::ds,y::ys=>iq w F (fun g=>ow g=some i) k d y∧dK w F ow (i+1) ks ds ys
 | _,_,_,_=>False
def nh:Kd→Bool
 | .own _ _ true=>true
 | .box _ _ true=>true
 | _=>false
def kG (w:World) (F:Nat→Prop):List Kd→List D→List Value→Prop
 | [],[],_=>True
 | k::ks,us,y::ys=>if nh k then(match us with
   | u::us=>u ≠ .bad∧iq w F (fun _=>True) k u y∧kG w F ks us ys
   | []=>False) else kG w F ks us ys
 | _,_,_=>False
def yt (w:World) (F:Nat→Prop) (B:Nat) (own:Nat→Prop) (k:Kd) (d:D) (y:Value):Prop :=
 d = .bad∨match k with
  | .dat lv=>bj w (FB F B lv) d y
  | .own z lv false=>fT w (FB F B lv) (fun g=>own g∧B≤g) z d y
  | _=>False
def iD:List Value→Value
 | [y]=>y
 | ys=>.tuple ys.toArray
structure CallPost (S:FS) (args:Array Value) (rs us:List D) (w:World) (F:Nat→Prop) (ow:Nat→Option Nat) (F':Nat→Prop) (R:Nat→Option Nat) (vs:List Value) (w':World):Prop where
 os:w'.os=w.os
 tape:w'.tape=w.tape
 output:w'.output=w.output
 size:w.heap.size≤w'.heap.size
 keep:∀b,b<w.heap.size→ow b=none→w'.heap[b]?=w.heap[b]?
 f0:∀b,F b→F' b
 fn:∀b,F' b→(F b∨w.heap.size≤b)∧b<w'.heap.size∧R b=none
 rn:∀b j,R b=some j→w.heap.size≤b∧b<w'.heap.size
 len:vs.length=S.rm.length
 lenD:rs.length=S.rm.length
 res:∀j,yt w' F' w.heap.size (fun g=>R g=some j) (af S.rm j) (nth rs j) (vs.getD j undef)
 us:kG w' F' S.pm us args.toList
def FZ (P:Program) (f:FuncId) (args:Array Value) (w:World) (R:Value→World→Prop):Prop :=
 ∀(o:Oper) (a:Act) (next:Act→World→Prop) (Q:Exit→Act→World→Prop),(∀v w',R v w'→next (a.put o.dst v) w')→o.upon P a next Q ((callFunc f args).run P w)
def ay (G:List (Nat × (Obj→Prop))) (P:Program) (f:FuncId) (S:FS):Prop :=
 ∀(ds rs us:List D),S.f ds=some (.ret rs us)→∀(args:Array Value) (w:World) (F:Nat→Prop) (ow:Nat→Option Nat),gOk G w F→dK w F ow 0 S.pm ds args.toList →
  (∀b,F b→b<w.heap.size∧ow b=none)→(∀b i,ow b=some i→b<w.heap.size)→FZ P f args w fun v w'=>∃F' R vs,v=iD vs∧CallPost S args rs us w F ow F' R vs w'
section
variable {P:Program} {c:Cx} {B:Nat} {X:Nat→Prop} {w0:World} {F0 F:Nat→Prop} {O:Nat→Option (Nat × Nat)} {a:Act} {w:World} {δ:List D}
def bz:List Ag→List D→Option (List D)
 | [],_=>some []
 | .d x chk::l,is=>match x with
  | .tmp _=>match is with
   | i::is=>match chk with
    | false=>(bz l is).map (i::·)
    | true=>(bc i).bind fun i=>(bz l is).map (i::·)
   | []=>none
  | .const v=>(bz l is).map (oe v::·)
  | .func f=>(bz l is).map (.clo f []::·)
  | .global _=>none
 | .bor t r::l,is=>match Hp t r with
  | true=>match is with
   | i::is=>(bz l is).map (i::·)
   | _=>none
  | false=>match is with
   | p::i::is=>(aa p i).bind fun i=>(bz l is).map (i::·)
   | _=>none
 | .io t r::l,is=>match Hp t r with
  | true=>match is with
   | i::is=>(aa i i).bind fun i=>(bz l is).map (i::·)
   | _=>none
  | false=>match is with
   | p::i::is=>(br p i).bind fun i=>(aa i i).bind fun i=>(bz l is).map (i::·)
   | _=>none
theorem jx (o:Option (List D)) (i:D) (acc:List D) (k:List D→Option Out):((o.map (i::·)).bind fun ds=>k (acc++ds))=o.bind fun ds=>k (app acc [i]++ds):=by
 cases o<;>simp [iV]
theorem fb:∀(l:List Ag) (acc is:List D) (k:List D→Option Out),eR acc l is k=(bz l is).bind fun ds=>k (acc++ds)
 | [],acc,is,k=>by simp [eR,bz]
 | .d x chk::l,acc,is,k=>by
  cases x with
  | tmp t =>
   cases is with
   | nil=>simp [eR,bz]
   | cons i is =>
    cases chk
    ·simp only [eR,bz]
     rw [jx,fb l]
    ·simp only [eR,bz,HI]
     congr 1
     funext i
     rw [jx,fb l]
  | const v=>simp only [eR,bz];rw [jx,fb l]
  | func f=>simp only [eR,bz];rw [jx,fb l]
  | global g=>simp [eR,bz]
 | .bor t r::l,acc,is,k=>by
  cases hb:Hp t r
  ·rcases is with _ | ⟨p,_ | ⟨i,is⟩⟩
   ·simp [eR,bz,hb]
   ·simp [eR,bz,hb]
   ·simp only [eR,bz,hb,HI]
    refine congrArg _ (funext fun i=>?_)
    rw [jx,fb l]
  ·cases is with
   | nil=>simp [eR,bz,hb]
   | cons i is=>simp only [eR,bz,hb];rw [jx,fb l]
 | .io t r::l,acc,is,k=>by
  cases hb:Hp t r
  ·rcases is with _ | ⟨p,_ | ⟨i,is⟩⟩
   ·simp [eR,bz,hb]
   ·simp [eR,bz,hb]
   ·simp only [eR,bz,hb,HI]
    refine congrArg _ (funext fun i=>?_)
    refine congrArg _ (funext fun i=>?_)
    rw [jx,fb l]
  ·cases is with
   | nil=>simp [eR,bz,hb]
   | cons i is =>
    simp only [eR,bz,hb,HI];refine congrArg _ (funext fun i=>?_)
    rw [jx,fb l]
theorem pM {F' own:Nat→Prop} {lv l:Nat} {d:D} {y:Value} (hF:∀b,F b→F' b) (h:bx w (FB F B lv) d y) (hl:lv≤l) (h1:l≠1):iq w F' own (.dat l) d y:=by
 rcases h with h | h
 ·exact .inl h
 ·refine .inr (aS (fun b hb=>?_) (fun _ _=>rfl) h)
  match l,h1,hl with
  | 0,_,hl =>
   have:lv=0:=by omega
   subst this;exact hb
  | l+2,_,_=>exact hF b (dH b hb)
def rj:List Ag→Nat→Option Nat
 | [],_=>none
 | .io _ r::_,0=>some r
 | _::_,0=>none
 | _::l,n+1=>rj l n
theorem wE (hI:Inv c B X w0 F0 F O a w δ) {F':Nat→Prop} {ow:Nat→Option Nat} (hF:∀b,F b→F' b):∀(xs:List Operand) (pm:List Kd) (ags:List Ag) (i0:Nat) (ds:List D),fM c.K xs pm=some ags→fY pm=true →
  bz ags (ac δ (dq ags))=some ds→(∀r∈dS ags,∀b,O b=some (r,0)→F' b)→(∀j r,rj ags j=some r→∀b,O b=some (r,0)→ow b=some (i0+j))→dK w F' ow i0 pm ds (xs.map a.eval)
 | [],[],ags,i0,ds,h,_,hd,_,_=>by
  simp only [fM,Ho] at h;subst h;simp [bz] at hd;subst hd;trivial
 | [],_::_,_,_,_,h,_,_,_,_=>by simp [fM] at h
 | _::_,[],_,_,_,h,_,_,_,_=>by simp [fM] at h
 | x::xs,m::pm,ags,i0,ds,h,hpm,hd,hbor,hio=>by
  simp only [fM] at h;split at h
  case h_2=>cases h
  rename_i g l hg hl;cases h;have hpm':fY pm=true∧(∀lv,m = .dat lv→lv≠1)∧(∀z lv io,m = .own z lv io→io=true∧lv≠1)∧(∀z lv io,m = .box z lv io→io=true∧lv≠1):=by
   cases m with
   | dat lv =>
    simp only [fY] at hpm;split at hpm
    case h_2=>cases hpm
    rename_i h1 h2;exact⟨hpm,fun l e=>by cases e;intro e;subst e;simp at h1,fun _ _ _ e=>(by cases e),fun _ _ _ e=>(by cases e)⟩
   | own z lv io =>
    cases io
    ·simp [fY] at hpm
    simp only [fY] at hpm;split at hpm
    case h_2=>cases hpm
    rename_i h1 h2;exact⟨hpm,fun _ e=>(by cases e),fun _ l _ e=>by cases e;exact⟨rfl,fun e=>by subst e;simp at h1⟩,fun _ _ _ e=>(by cases e)⟩
   | box z lv io =>
    cases io
    ·simp [fY] at hpm
    simp only [fY] at hpm;split at hpm
    case h_2=>cases hpm
    rename_i h1 h2;exact⟨hpm,fun _ e=>(by cases e),fun _ _ _ e=>(by cases e),fun _ l _ e=>by cases e;exact⟨rfl,fun e=>by subst e;simp at h1⟩⟩
   | _=>simp [fY] at hpm
  obtain⟨hp1,hp2,hp3,hp4⟩:=hpm';have rest:∀d' ds',ds=d'::ds'→bz l (ac δ (dq l))=some ds'→(∀r∈dS l,∀b,O b=some (r,0)→F' b)→(∀j r,rj l j=some r→∀b,O b=some (r,0)→ow b=some (i0+1+j)) →
    iq w F' (fun g=>ow g=some i0) m d' (a.eval x)→dK w F' ow i0 (m::pm) ds ((x::xs).map a.eval):=by
   intro d' ds' e h1 h2 h3 h4;subst e;exact⟨h4,wE hI hF xs pm l (i0+1) ds' hl hp1 h1 h2 h3⟩
  have hio':∀j r,rj l j=some r→∀b,O b=some (r,0)→ow b=some (i0+1+j):=fun j r hj b hb=>by
   have:=hio (j+1) r (by cases g<;>exact hj) b hb;rw [this];congr 1
   omega
  have hbor':∀r∈dS l,∀b,O b=some (r,0)→F' b:=fun r hr=>hbor r (by cases g<;>simp [dS,hr])
  unfold mh at hg;split at hg
  ·rename_i lm
   have hl1:=hp2 lm rfl;split at hg
   ·rename_i t
    split at hg
    ·rename_i lv hk
     have hrep:=hI.dat hk;split at hg
     ·rename_i hle
      cases hg;simp only [app,ac,bz] at hd;obtain⟨ds',h1,rfl⟩:=Hh.1 hd;exact rest _ _ rfl h1 hbor' hio' (pM hF hrep (aN.1 hle) hl1)
     ·split at hg
      case h_2=>cases hg
      rename_i hle h0;cases hg;simp only [app,ac,bz] at hd;obtain⟨i,hc,hd⟩:=Hg.1 hd;obtain⟨ds',h1,rfl⟩:=Hh.1 hd;refine rest _ _ rfl h1 hbor' hio' ?_
      unfold bc at hc;split at hc
      case isFalse=>cases hc
      rename_i hv;cases hc;refine .inr (kA hv (hrep.rep ?_))
      intro e;rw [e] at hv;simp [D.isV] at hv
    ·rename_i z lv io hk
     split at hg
     case h_2=>cases hg
     rename_i hl2;cases hg;simp only [dq,Ii,ac,bz] at hd;obtain⟨ds',h1,rfl⟩:=Hh.1 hd;refine rest _ _ rfl h1 hbor' hio' ?_
     by_cases hb:nth δ t = .bad
     ·exact .inl hb
     ·refine .inr (aS (fun b hb=>?_) (fun _ _=>rfl) (hY (hI.own hk hb)))
      rw [au] at hl2;subst hl2;rcases hb with hb | hb
      ·exact hF b (dH b hb)
      ·exact hbor t (by simp [dS]) b hb.1
    ·rename_i r hk
     split at hg
     case h_2=>cases hg
     rename_i hl2 hown;cases hg;rw [au] at hl2;subst hl2;have hviaD:∀(hbt:nth δ t ≠ .bad),iq w F' (fun g=>ow g=some i0) (.dat 2) (nth δ r) (a.eval (.tmp t)):=by
      intro hbt;obtain⟨g1,g2,g3,g4⟩:=hI.via hk hbt;obtain⟨z,lv,io,hkr⟩:∃z lv io,af c.K r = .own z lv io:=by
       unfold vd at hown;split at hown
       ·exact⟨_,_,_,‹_›⟩
       ·cases hown
      rw [be,g1];refine .inr (aS (fun b hb=>?_) (fun _ _=>rfl) (hY (hI.own hkr g3)))
      rcases hb with hb | hb
      ·exact hF b (dH b hb)
      ·exact hbor r (by simp [dS]) b hb.1
     cases htr:Hp t r
     ·simp only [dq,htr,ac,bz] at hd
      obtain⟨i,hc,hd⟩:=Hg.1 hd;obtain⟨ds',h1,rfl⟩:=Hh.1 hd;obtain⟨hbt,rfl⟩:=aL hc;exact rest _ _ rfl h1 hbor' hio' (hviaD hbt)
     ·have:=au.1 htr
      subst this;simp only [dq,htr,ac,bz] at hd;obtain⟨ds',h1,rfl⟩:=Hh.1 hd;refine rest _ _ rfl h1 hbor' hio' ?_
      by_cases hb:nth δ t = .bad
      ·exact .inl hb
      ·exact hviaD hb
    ·cases hg
   ·cases hg
   ·rename_i f
    cases hg;simp only [dq,app,bz] at hd;obtain⟨ds',h1,rfl⟩:=Hh.1 hd;refine rest _ _ rfl h1 hbor' hio' (pM hF (lv:=0) (hI.opd (x:=.func f) (by simp [cm])) (Nat.zero_le _) hl1)
   ·rename_i v
    split at hg
    case h_2=>cases hg
    rename_i hv;cases hg;simp only [dq,app,bz] at hd;obtain⟨ds',h1,rfl⟩:=Hh.1 hd;have:=hI.opd (x:=.const v) (by simp [cm,hv]);simp only [cm,hv,opD] at this;exact rest _ _ rfl h1 hbor' hio' (pM hF this (Nat.zero_le _) hl1)
  ·rename_i z l'
   have hl1:=(hp3 z l' true rfl).2;have hcv:∀(lv:Nat),l'=lv→∀b,FB F B lv b→FB F' 0 l' b:=by
    intro lv e b hb;subst e
    match l',hl1 with
    | 0,_=>exact hb.elim
    | n+2,_=>exact hF b hb
   split at hg
   case h_2=>cases hg
   rename_i t;split at hg
   ·rename_i z' lv io hk
    split at hg
    case h_2=>cases hg
    rename_i h1 h2;rw [au] at h1 h2;subst h1;cases hg;simp only [dq,Ii,ac,bz] at hd;obtain⟨i,hc,hd⟩:=Hg.1 hd;obtain⟨ds',h1',rfl⟩:=Hh.1 hd;obtain⟨hb,rfl⟩:=aL hc;exact rest _ _ rfl h1' hbor' hio' (.inr (ct (hcv lv h2) (fun _ _=>rfl) (fun g _ ho=>⟨by simpa using hio 0 t rfl g ho.1,rfl⟩) (hI.own hk hb)))
   ·rename_i r hk
    split at hg
    case h_2=>cases hg
    rename_i z' lv io hkr;split at hg
    case h_2=>cases hg
    rename_i h1 h2;rw [au] at h1 h2;subst h1;cases hg;have hvia:nth δ t ≠ .bad→nth δ r ≠ .bad→iq w F' (fun g=>ow g=some i0) (.own z l' true) (nth δ r) (a.eval (.tmp t)):=by
     intro hbt hb;rw [be,(hI.via hk hbt).1];exact .inr (ct (hcv lv h2) (fun _ _=>rfl) (fun g _ ho=>⟨by simpa using hio 0 r rfl g ho.1,rfl⟩) (hI.own hkr hb))
    cases htr:Hp t r
    ·simp only [dq,htr,ac,bz] at hd
     obtain⟨i,hc,hd⟩:=Hg.1 hd;obtain⟨i',hc',hd⟩:=Hg.1 hd;obtain⟨ds',h1',rfl⟩:=Hh.1 hd;obtain⟨hb,rfl⟩:=aL hc';unfold br at hc;split at hc
     case h_2=>cases hc
     rename_i hr0;cases hc;exact rest _ _ rfl h1' hbor' hio' (hvia (by rw [hr0];simp) hb)
    ·have e:=au.1 htr
     subst e;rw [hk] at hkr;cases hkr
   ·cases hg
  ·rename_i n l'
   have hl1:=(hp4 n l' true rfl).2;have hcv:∀(lv:Nat),l'=lv→∀b,FB F B lv b→FB F' 0 l' b:=by
    intro lv e b hb;subst e
    match l',hl1 with
    | 0,_=>exact hb.elim
    | n+2,_=>exact hF b hb
   split at hg
   case h_2=>cases hg
   rename_i t;split at hg
   ·rename_i z' lv io hk
    split at hg
    case h_2=>cases hg
    rename_i h1 h2;rw [au] at h1 h2;subst h1;cases hg;simp only [dq,Ii,ac,bz] at hd;obtain⟨i,hc,hd⟩:=Hg.1 hd;obtain⟨ds',h1',rfl⟩:=Hh.1 hd;obtain⟨hb,rfl⟩:=aL hc;exact rest _ _ rfl h1' hbor' hio' (.inr (pX (hcv lv h2) (fun _ _=>rfl) (fun g ho=>⟨by simpa using hio 0 t rfl g ho.1,rfl⟩) (hI.box hk hb)))
   ·rename_i r hk
    split at hg
    case h_2=>cases hg
    rename_i z' lv io hkr;split at hg
    case h_2=>cases hg
    rename_i h1 h2;rw [au] at h1 h2;subst h1;cases hg;cases htr:Hp t r
    ·simp only [dq,htr,ac,bz] at hd
     obtain⟨i,hc,hd⟩:=Hg.1 hd;obtain⟨i',hc',hd⟩:=Hg.1 hd;obtain⟨ds',h1',rfl⟩:=Hh.1 hd;obtain⟨hb,rfl⟩:=aL hc';unfold br at hc;split at hc
     case h_2=>cases hc
     rename_i hr0;cases hc;obtain⟨ii,ff,h5,_,h6⟩:=hI.ref hk (by rw [hr0];simp);rw [hr0] at h5;cases h5;rw [hkr] at h6;obtain⟨g0,e1,e2⟩:=h6;refine rest _ _ rfl h1' hbor' hio' (.inr ?_)
     rw [be,e2,←e1];exact pX (hcv lv h2) (fun _ _=>rfl) (fun g ho=>⟨by simpa using hio 0 r rfl g ho.1,rfl⟩) (hI.box hkr hb)
    ·have e:=au.1 htr
     subst e;rw [hk] at hkr;cases hkr
   ·cases hg
  ·cases hg
end
end Go.V

namespace Go.V
open Go.RowKit
set_option maxRecDepth 100000
section
variable {P:Program} {c:Cx} {B:Nat} {X:Nat→Prop} {w0:World} {F0 F:Nat→Prop} {O:Nat→Option (Nat × Nat)} {a:Act} {w:World} {δ:List D}
theorem je {w w':World} {F F':Nat→Prop} {own own':Nat→Prop} {n:Nat} {d:D} {y:Value} (hF:∀b,F b→F' b) (hw:∀b,F b→w'.heap[b]?=w.heap[b]?)
  (ho:∀g,V.blk y=some g→own g→own' g∧w'.heap[g]?=w.heap[g]?) (h:rJ w F own n d y):rJ w' F' own' n d y:=by
 obtain⟨l,us,g,e,a1,rfl,a3,a4,a5,a6,a7⟩:=h;exact⟨l,us,g,e,a1,rfl,(ho g rfl a7).2.trans a3,aY hF hw _ _ a4,a5,a6,(ho g rfl a7).1⟩
theorem rJ.blk {F:Nat→Prop} {own:Nat→Prop} {n:Nat} {d:D} {y:Value} (h:rJ w F own n d y):∀b,V.blk y=some b→own b∧b<w.heap.size:=by
 intro b hb;obtain⟨l,us,g,e,a1,rfl,a3,a4,a5,a6,a7⟩:=h;simp [V.blk] at hb;subst hb;exact⟨a7,(Hx.1 a3).1⟩
def ni:List Ag→Nat→Nat→Option Nat
 | [],_,_=>none
 | .io _ q::l,r,i=>if q=r then some i else ni l r (i+1)
 | .d _ _::l,r,i=>ni l r (i+1)
 | .bor _ _::l,r,i=>ni l r (i+1)
theorem lZ:∀{l:List Ag} {r i j:Nat},ni l r i=some j→r∈cI l
 | .io _ q::l,r,i,j,h=>by
  simp only [ni] at h;split at h
  ·rename_i e;subst e;simp [cI]
  ·simp [cI,lZ h]
 | .d _ _::l,r,i,j,h=>by simpa [cI] using lZ (l:=l) h
 | .bor _ _::l,r,i,j,h=>by simpa [cI] using lZ (l:=l) h
theorem mn:∀{l:List Ag} {r j:Nat},rj l j=some r→r∈cI l
 | .io _ q::l,r,0,h=>by simp [rj] at h;simp [cI,h]
 | .io _ q::l,r,j+1,h=>by simp only [cI,Hq];exact .inr (mn (l:=l) h)
 | .d _ _::l,r,0,h=>by simp [rj] at h
 | .bor _ _::l,r,0,h=>by simp [rj] at h
 | .d _ _::l,r,j+1,h=>by simpa [cI] using mn (l:=l) h
 | .bor _ _::l,r,j+1,h=>by simpa [cI] using mn (l:=l) h
theorem mj {a:Nat} {l:List Nat} (h:gx (a::l)=true):a∉l∧gx l=true:=by
 simp only [gx,fd] at h;split at h
 ·cases h
 ·rename_i h1
  exact⟨by simpa using h1,h⟩
theorem rR:∀{l:List Ag} {r i j:Nat},gx (cI l)=true→rj l j=some r→ni l r i=some (i+j)
 | .io _ q::l,r,i,0,_,h=>by simp [rj] at h;simp [ni,h]
 | .io _ q::l,r,i,j+1,hn,h=>by
  obtain⟨h1,h2⟩:=mj hn;have h3:=mn (l:=l) h;have hne:¬q=r:=fun e=>h1 (by rw [e];exact h3)
  simp only [ni];rw [if_neg hne,rR (l:=l) h2 h];congr 1;omega
 | .d _ _::l,r,i,0,_,h=>by simp [rj] at h
 | .bor _ _::l,r,i,0,_,h=>by simp [rj] at h
 | .d _ _::l,r,i,j+1,hn,h=>by simp only [ni];rw [rR (l:=l) hn h];congr 1;omega
 | .bor _ _::l,r,i,j+1,hn,h=>by simp only [ni];rw [rR (l:=l) hn h];congr 1;omega
def xI (c:Cx) (a:Act) (δ:List D):List Ag→List Kd→List Operand→Prop
 | [],[],[]=>True
 | .io _ r::l,m::pm,x::xs=>(nth δ r ≠ .bad∧a.eval x=av a r∧((∃z lv io,m = .own z lv true∧af c.K r = .own z lv io∧lv≠1)∨∃n lv io,m = .box n lv true∧af c.K r = .box n lv io∧lv≠1))∧xI c a δ l pm xs
 | _::l,m::pm,_::xs=>nh m=false∧xI c a δ l pm xs
 | _,_,_=>False
theorem uW {m:Kd} {pm:List Kd} (h:fY (m::pm)=true):fY pm=true∧(∀z lv,m = .own z lv true→lv≠1)∧∀n lv,m = .box n lv true→lv≠1:=by
 cases m with
 | dat lv =>
  simp only [fY] at h;split at h
  case h_2=>cases h
  exact⟨h,fun _ _ e=>(by cases e),fun _ _ e=>(by cases e)⟩
 | own z lv io =>
  cases io
  ·simp [fY] at h
  simp only [fY] at h;split at h
  case h_2=>cases h
  rename_i h1 h2;exact⟨h,fun _ l e=>by cases e;intro e;subst e;simp at h1,fun _ _ e=>(by cases e)⟩
 | box z lv io =>
  cases io
  ·simp [fY] at h
  simp only [fY] at h;split at h
  case h_2=>cases h
  rename_i h1 h2;exact⟨h,fun _ _ e=>(by cases e),fun _ l e=>by cases e;intro e;subst e;simp at h1⟩
 | _=>simp [fY] at h
theorem Ce {K:List Kd} {x:Operand} {m:Kd} {t r:Nat} (h:mh K x m=some (.bor t r)):∃lv,m = .dat lv:=by
 cases m with
 | dat lv=>exact⟨lv,rfl⟩
 | own z lv io =>
  exfalso;cases io
  ·simp [mh] at h
  ·simp only [mh] at h
   repeat (split at h<;>try cases h)
 | box z lv io =>
  exfalso;cases io
  ·simp [mh] at h
  ·simp only [mh] at h
   repeat (split at h<;>try cases h)
 | _=>simp [mh] at h
theorem Fp {K:List Kd} {x:Operand} {m:Kd} {t r:Nat} (h:mh K x m=some (.io t r)):x = .tmp t∧((∃z lv io,m = .own z lv true∧((t=r∧af K t = .own z lv io)∨(af K t = .via r∧af K r = .own z lv io))) ∨
  ∃n lv io,m = .box n lv true∧((t=r∧af K t = .box n lv io)∨(af K t = .ref r∧af K r = .box n lv io))):=by
 cases m with
 | dat lv =>
  exfalso;simp only [mh] at h
  repeat (split at h<;>try cases h)
 | own z lv io =>
  cases io
  ·simp [mh] at h
  ·simp only [mh] at h
   split at h
   case h_2=>cases h
   split at h
   ·rename_i hk
    split at h
    case h_2=>cases h
    rename_i h1 h2;rw [au] at h1 h2;cases h;exact⟨rfl,.inl ⟨_,_,_,rfl,.inl ⟨rfl,by rw [hk,h1,h2]⟩⟩⟩
   ·rename_i hk
    split at h
    case h_2=>cases h
    rename_i hk2;split at h
    case h_2=>cases h
    rename_i h1 h2;rw [au] at h1 h2;cases h;exact⟨rfl,.inl ⟨_,_,_,rfl,.inr ⟨hk,by rw [hk2,h1,h2]⟩⟩⟩
   ·cases h
 | box z lv io =>
  cases io
  ·simp [mh] at h
  ·simp only [mh] at h
   split at h
   case h_2=>cases h
   split at h
   ·rename_i hk
    split at h
    case h_2=>cases h
    rename_i h1 h2;rw [au] at h1 h2;cases h;exact⟨rfl,.inr ⟨_,_,_,rfl,.inl ⟨rfl,by rw [hk,h1,h2]⟩⟩⟩
   ·rename_i hk
    split at h
    case h_2=>cases h
    rename_i hk2;split at h
    case h_2=>cases h
    rename_i h1 h2;rw [au] at h1 h2;cases h;exact⟨rfl,.inr ⟨_,_,_,rfl,.inr ⟨hk,by rw [hk2,h1,h2]⟩⟩⟩
   ·cases h
 | _=>simp [mh] at h
theorem pO (hI:Inv c B X w0 F0 F O a w δ):∀(xs:List Operand) (pm:List Kd) (ags:List Ag) (ds:List D),fM c.K xs pm=some ags→fY pm=true→bz ags (ac δ (dq ags))=some ds→xI c a δ ags pm xs
 | [],[],ags,ds,h,_,_=>by
  simp only [fM,Ho] at h;subst h;trivial
 | [],_::_,_,_,h,_,_=>by simp [fM] at h
 | _::_,[],_,_,h,_,_=>by simp [fM] at h
 | x::xs,m::pm,ags,ds,h,hpm,hd=>by
  simp only [fM] at h;split at h
  case h_2=>cases h
  rename_i g l hg hl;cases h;obtain⟨hp1,hp2,hp3⟩:=uW hpm;cases g with
  | d y chk =>
   have hnio:nh m=false:=by
    cases m with
    | own z lv io=>cases io<;>first | rfl | (simp only [mh] at hg;repeat (split at hg<;>try cases hg))
    | box z lv io=>cases io<;>first | rfl | (simp only [mh] at hg;repeat (split at hg<;>try cases hg))
    | _=>rfl
   have hd':∃ds',bz l (ac δ (dq l))=some ds':=by
    cases y with
    | tmp t =>
     simp only [app,ac,bz] at hd;split at hd
     ·obtain⟨ds',h1,_⟩:=Hh.1 hd
      exact⟨ds',h1⟩
     ·obtain⟨i,_,hd⟩:=Hg.1 hd
      obtain⟨ds',h1,_⟩:=Hh.1 hd;exact⟨ds',h1⟩
    | const v =>
     simp only [dq,app,bz] at hd;obtain⟨ds',h1,_⟩:=Hh.1 hd;exact⟨ds',h1⟩
    | func v =>
     simp only [dq,app,bz] at hd;obtain⟨ds',h1,_⟩:=Hh.1 hd;exact⟨ds',h1⟩
    | global v=>simp [bz] at hd
   obtain⟨ds',hd'⟩:=hd';exact⟨hnio,pO hI xs pm l ds' hl hp1 hd'⟩
  | bor t r =>
   have hnio:nh m=false:=by
    obtain⟨lv,e⟩:=Ce hg;rw [e];rfl
   have hd':∃ds',bz l (ac δ (dq l))=some ds':=by
    cases htr:Hp t r
    ·simp only [dq,htr,ac,bz] at hd
     obtain⟨i,_,hd⟩:=Hg.1 hd;obtain⟨ds',h1,_⟩:=Hh.1 hd;exact⟨ds',h1⟩
    ·simp only [dq,htr,ac,bz] at hd
     obtain⟨ds',h1,_⟩:=Hh.1 hd;exact⟨ds',h1⟩
   obtain⟨ds',hd'⟩:=hd';exact⟨hnio,pO hI xs pm l ds' hl hp1 hd'⟩
  | io t r =>
   obtain⟨rfl,hk⟩:=Fp hg;have main:(nth δ r ≠ .bad∧(t=r∨nth δ t = .ref 0 0))∧∃ds',bz l (ac δ (dq l))=some ds':=by
    cases htr:Hp t r
    ·simp only [dq,htr,ac,bz] at hd
     obtain⟨i,hc,hd⟩:=Hg.1 hd;obtain⟨i',hc',hd⟩:=Hg.1 hd;obtain⟨ds',h1,_⟩:=Hh.1 hd;obtain⟨hb,rfl⟩:=aL hc';unfold br at hc;split at hc
     case h_2=>cases hc
     rename_i hr0;cases hc;exact⟨⟨hb,.inr hr0⟩,ds',h1⟩
    ·have e:=au.1 htr
     subst e;simp only [dq,htr,ac,bz] at hd;obtain⟨i',hc',hd⟩:=Hg.1 hd;obtain⟨ds',h1,_⟩:=Hh.1 hd;exact⟨⟨(aL hc').1,.inl rfl⟩,ds',h1⟩
   obtain⟨⟨hb,hre⟩,ds',hd'⟩:=main;refine⟨⟨hb,?_,?_⟩,pO hI xs pm l ds' hl hp1 hd'⟩
   ·rcases hre with e | hr0
    ·rw [e];rfl
    ·rcases hk with ⟨z,lv,io,_,h2⟩ | ⟨n,lv,io,_,h2⟩
     ·rcases h2 with ⟨e,_⟩ | ⟨h3,h4⟩
      ·rw [e];rfl
      ·exact(hI.via h3 (by rw [hr0];simp)).1
     ·rcases h2 with ⟨e,_⟩ | ⟨h3,h4⟩
      ·rw [e];rfl
      ·obtain⟨ii,ff,h5,_,h6⟩:=hI.ref h3 (by rw [hr0];simp)
       rw [hr0] at h5;cases h5;rw [h4] at h6;obtain⟨g0,e1,e2⟩:=h6;rw [be,e1,e2]
   ·rcases hk with ⟨z,lv,io,h1,h2⟩ | ⟨n,lv,io,h1,h2⟩
    ·refine .inl ⟨z,lv,io,h1,?_,hp2 z lv h1⟩
     rcases h2 with ⟨e,h2⟩ | ⟨_,h2⟩
     ·rw [←e];exact h2
     ·exact h2
    ·refine .inr ⟨n,lv,io,h1,?_,hp3 n lv h1⟩
     rcases h2 with ⟨e,h2⟩ | ⟨_,h2⟩
     ·rw [←e];exact h2
     ·exact h2
def GN (w':World) (F':Nat→Prop) (k:Kd) (u:D) (y:Value):Prop :=
 u ≠ .bad∧match k with
  | .own z lv _=>lv≠1∧fT w' (FB F' 0 lv) (fun _=>True) z u y
  | .box n lv _=>lv≠1∧rJ w' (FB F' 0 lv) (fun _=>True) n u y
  | _=>False
theorem qp {w':World} {F':Nat→Prop}:∀(ags:List Ag) (pm:List Kd) (xs:List Operand) (us:List D),xI c a δ ags pm xs→kG w' F' pm us (xs.map a.eval) →
  us.length=(cI ags).length∧∀(m r:Nat),(cI ags)[m]?=some r→nth δ r ≠ .bad∧∃u:D,us[m]?=some u∧GN w' F' (af c.K r) u (av a r)
 | [],[],[],us,_,hu=>by
  cases us with
  | nil=>simp [cI]
  | cons u us=>simp [kG] at hu
 | .io t r::l,m::pm,x::xs,us,h,hu=>by
  obtain⟨⟨h1,h2,h3⟩,h4⟩:=h;simp only [Hn,kG] at hu;have hio:nh m=true:=by rcases h3 with ⟨z,lv,io,rfl,_⟩ | ⟨n,lv,io,rfl,_⟩<;>rfl
  rw [if_pos hio] at hu;cases us with
  | nil=>exact hu.elim
  | cons u us =>
   obtain⟨u1,u2,u3⟩:=hu;obtain⟨g1,g2⟩:=qp l pm xs us h4 u3;refine⟨by simp [cI,g1],fun j q hj=>?_⟩
   cases j with
   | zero =>
    simp only [cI,It,Ho] at hj;subst hj;refine⟨h1,u,rfl,u1,?_⟩
    rw [h2] at u2;have u2:=u2.resolve_left u1;rcases h3 with ⟨z,lv,io,rfl,hk,hlv⟩ | ⟨n,lv,io,rfl,hk,hlv⟩
    ·rw [hk];exact⟨hlv,u2⟩
    ·rw [hk];exact⟨hlv,u2⟩
   | succ j =>
    simp only [cI,List.getElem?_cons_succ] at hj;exact g2 j q hj
 | .d y chk::l,m::pm,x::xs,us,h,hu=>by
  obtain⟨h1,h2⟩:=h;simp only [Hn,kG,h1] at hu;exact qp l pm xs us h2 hu
 | .bor y chk::l,m::pm,x::xs,us,h,hu=>by
  obtain⟨h1,h2⟩:=h;simp only [Hn,kG,h1] at hu;exact qp l pm xs us h2 hu
 | [],[],_::_,_,h,_=>h.elim
 | [],_::_,_,_,h,_=>h.elim
 | .io _ _::_,[],_,_,h,_=>h.elim
 | .io _ _::_,_::_,[],_,h,_=>h.elim
 | .d _ _::_,[],_,_,h,_=>h.elim
 | .d _ _::_,_::_,[],_,h,_=>h.elim
 | .bor _ _::_,[],_,_,h,_=>h.elim
 | .bor _ _::_,_::_,[],_,h,_=>h.elim
theorem Ai (us:List D):∀(ios:List Nat) (j:Nat),j+ios.length≤us.length→oa.go us j ios=(us.drop j).take ios.length
 | [],j,_=>by simp [oa.go]
 | _::l,j,h=>by
  simp only [Ic] at h;simp only [oa.go];rw [Ai us l (j+1) (by omega)];have hj:j<us.length:=by omega
  rw [HU hj,Ic,List.take_succ_cons,cP,Hi,HD hj];rfl
theorem kZ:∀(ss:List Nat) (ds δ:List D) (m s:Nat),gx ss=true→ss[m]?=some s→s<δ.length→nth (ae δ ss ds) s=nth ds m
 | t::ss,[],δ,m,s,hn,hm,hl=>by
  rw [gZ _ _ _ (List.mem_of_getElem? hm)]
 | t::ss,d::ds,δ,0,s,hn,hm,hl=>by
  obtain⟨h1,h2⟩:=mj hn;simp at hm;subst hm;simp only [ae];rw [am _ _ _ _ h1,aP,if_pos hl]
 | t::ss,d::ds,δ,m+1,s,hn,hm,hl=>by
  obtain⟨h1,h2⟩:=mj hn;simp only [ae];rw [kZ ss ds _ m s h2 (by simpa using hm) (by rw [dT];exact hl)]
theorem Be {d:Nat} {l:List Nat} (h1:kb d l=false) (h2:gx l=true):gx ([d]++l)=true:=by
 simp only [Ie,HH,gx,h1];exact h2
theorem vq:∀{l m:List Nat},sZ l m=true→∀x∈l,x∉m
 | a::l,m,h,x,hx=>by
  simp only [sZ,fd] at h;split at h
  ·cases h
  ·rename_i h1
   rcases Hq.1 hx with rfl | hx
   ·simpa using h1
   ·exact vq h x hx
theorem Ep {K:List Kd} {r:Nat} (h:dp K r):r<K.length:=by
 by_cases hd:r<K.length
 ·exact hd
 ·exfalso
  have:∀(K:List Kd) (r:Nat),¬r<K.length→af K r = .no:=by
   intro K;induction K with
   | nil=>intro r _;rfl
   | cons k K ih =>
    intro r hr;cases r with
    | zero=>simp at hr
    | succ r=>exact ih r (by simpa using hr)
  rw [dp,this K r hd] at h;exact h
theorem sn {m:Kd} {pm:List Kd} (h:io0 (m::pm)=true):io0 pm=true∧(∀z lv io,m = .own z lv io→lv=0)∧∀n lv io,m = .box n lv io→lv=0:=by
 cases m with
 | own z lv io =>
  simp only [io0] at h;split at h
  case h_2=>cases h
  rename_i h0;exact⟨h,fun _ _ _ e=>by cases e;exact au.1 h0,fun _ _ _ e=>(by cases e)⟩
 | box z lv io =>
  simp only [io0] at h;split at h
  case h_2=>cases h
  rename_i h0;exact⟨h,fun _ _ _ e=>(by cases e),fun _ _ _ e=>by cases e;exact au.1 h0⟩
 | _=>exact⟨by simpa only [io0] using h,fun _ _ _ e=>(by cases e),fun _ _ _ e=>(by cases e)⟩
theorem wP:∀(ags:List Ag) (pm:List Kd) (xs:List Operand),xI c a δ ags pm xs→io0 pm=true→∀(m r:Nat),(cI ags)[m]?=some r→∀lv,((∃z io,af c.K r = .own z lv io)∨∃n io,af c.K r = .box n lv io)→lv=0
 | [],_,_,_,_,m,r,hm,_,_=>by simp [cI] at hm
 | .io t q::l,m::pm,x::xs,h,h0,j,r,hj,lv,hk=>by
  obtain⟨⟨_,_,h3⟩,h4⟩:=h;obtain⟨g1,g2,g3⟩:=sn h0;cases j with
  | zero =>
   simp only [cI,It,Ho] at hj;subst hj;rcases h3 with ⟨z,lv',io,rfl,hk',_⟩ | ⟨n,lv',io,rfl,hk',_⟩
   ·have:=g2 z lv' true rfl
    subst this;rw [hk'] at hk;rcases hk with ⟨_,_,e⟩ | ⟨_,_,e⟩<;>cases e;rfl
   ·have:=g3 n lv' true rfl
    subst this;rw [hk'] at hk;rcases hk with ⟨_,_,e⟩ | ⟨_,_,e⟩<;>cases e;rfl
  | succ j=>exact wP l pm xs h4 g1 j r (by simpa [cI] using hj) lv hk
 | .d _ _::l,m::pm,x::xs,h,h0,j,r,hj,lv,hk=>wP l pm xs h.2 (sn h0).1 j r (by simpa [cI] using hj) lv hk
 | .bor _ _::l,m::pm,x::xs,h,h0,j,r,hj,lv,hk=>wP l pm xs h.2 (sn h0).1 j r (by simpa [cI] using hj) lv hk
 | .io _ _::_,[],_,h,_,_,_,_,_,_=>h.elim
 | .io _ _::_,_::_,[],h,_,_,_,_,_,_=>h.elim
 | .d _ _::_,[],_,h,_,_,_,_,_,_=>h.elim
 | .d _ _::_,_::_,[],h,_,_,_,_,_,_=>h.elim
 | .bor _ _::_,[],_,h,_,_,_,_,_,_=>h.elim
 | .bor _ _::_,_::_,[],h,_,_,_,_,_,_=>h.elim
theorem km (hI:Inv c B X w0 F0 F O a w δ) {S:FS} {ags:List Ag} {xs:List Operand} {ds rs us:List D} {F':Nat→Prop} {R:Nat→Option Nat} {vs:List Value} {w':World} {v:Value} {dst:Option Nat} {x:List D}
  (hags:fM c.K xs S.pm=some ags) (hpm:fY S.pm=true) (hds:bz ags (ac δ (dq ags))=some ds) (hnd:gx (cI ags)=true)
  (hbor:dS ags=[]∨(mg S.rm=true∧io0 S.pm=true))
  (hpost:CallPost S (xs.map a.eval).toArray rs us w (fun b=>F b∨∃r∈dS ags,O b=some (r,0)) (fun b=>match O b with
   | some (r,0)=>ni ags r 0
   | _=>none) F' R vs w')
  (hdx:(dst=none∧x=[])∨∃d y,dst=some d∧x=[y]∧kb d (cI ags)=false) (g:Nat→Option (Nat × Nat)) (hg:∀j p,g j=some p→∀d,dst=some d→p.1=d) (hgn:dst=none→∀j,g j=none)
  (hU:∀(F2:Nat→Prop) (O2:Nat→Option (Nat × Nat)),(∀lv b,(dS ags=[]∨lv≤1)→FB F' w.heap.size lv b→FB F2 B lv b)→(∀b j,R b=some j→O2 b=g j∧B≤b∧(g j=none→F2 b))→∀d y,dst=some d→x=[y]→d<δ.length→nR c.K B F2 O2 (a.put dst v) w' d y) :
  ∃F2 O2,Inv c B X w0 F0 F2 O2 (a.put dst v) w' (ae δ (dst.toList++(cI ags++aH c.K dst.toList)) (x++us)):=by
 have hB:=hI.bb;have hioA:=pO hI xs S.pm ags ds hags hpm hds;obtain⟨hul,hun⟩:=qp (c:=c) (a:=a) (δ:=δ) ags S.pm xs us hioA (by simpa using hpost.us);have hkeep:∀b,b<w.heap.size→(∀p,O b=some p→p.1∉cI ags)→w'.heap[b]?=w.heap[b]?:=by
  intro b hb hp;refine hpost.keep b hb ?_
  split
  ·rename_i r he
   cases h:ni ags r 0 with
   | none=>rfl
   | some j=>exact absurd (lZ h) (hp _ he)
  ·rfl
 have hRn:∀b,b<w.heap.size→R b=none:=fun b hb=>by
  cases h:R b with
  | none=>rfl
  | some j=>have:=(hpost.rn b j h).1;omega
 let F2:Nat→Prop:=fun b=>F b∨(F' b∧w.heap.size≤b)∨∃j,R b=some j∧g j=none
 let O2:Nat→Option (Nat × Nat):=fun b=>match R b with
  | some j=>g j
  | none=>O b
 have hO2n:∀b,R b=none→O2 b=O b:=fun b h=>by simp only [O2,h]
 have hO2s:∀b j,R b=some j→O2 b=g j:=fun b j h=>by simp only [O2,h]
 have hOlt:∀b,w.heap.size≤b→O b=none:=fun b hb=>by
  cases h:O b with
  | none=>rfl
  | some p=>have:=(hI.ol b p h).1;omega
 have hlv:∀lv b,(dS ags=[]∨lv≤1)→FB F' w.heap.size lv b→FB F2 B lv b:=by
  intro lv b hbl hb
  match lv,hbl,hb with
  | 0,_,hb=>exact hb.elim
  | 1,_,hb=>exact⟨.inr (.inl hb),Ij hB hb.2⟩
  | n+2,hbl,hb =>
   have he:dS ags=[]:=hbl.resolve_right (by omega);rcases(hpost.fn b hb).1 with h1 | h1
   ·rcases h1 with h1 | ⟨r,hr,_⟩
    ·exact .inl h1
    ·rw [he] at hr;cases hr
   ·exact .inr (.inl ⟨hb,h1⟩)
 have hnd2:gx (dst.toList++cI ags)=true:=by
  rcases hdx with ⟨rfl,_⟩ | ⟨d,y,rfl,_,hm⟩
  ·exact hnd
  ·exact Be hm hnd
 have hlen:(x++us).length=(dst.toList++cI ags).length:=by
  rcases hdx with ⟨rfl,rfl⟩ | ⟨d,y,rfl,rfl,_⟩<;>simp [hul]
 have hlt:∀r,dp c.K r→r<δ.length:=fun r hr=>by
  rw [hI.ld];exact Ep hr
 have hgetio:∀(m r:Nat),(cI ags)[m]?=some r→dp c.K r→nth (ae δ (dst.toList++cI ags) (x++us)) r=nth us m:=by
  intro m r hm hr;rcases hdx with ⟨rfl,rfl⟩ | ⟨d,y,rfl,rfl,_⟩
  ·exact kZ _ _ _ m r hnd (by simpa using hm) (hlt r hr)
  ·have:=kZ (δ:=δ) ([d]++cI ags) ([y]++us) (m:=m+1) (s:=r) hnd2 (by simpa using hm) (hlt r hr)
   simpa [nth] using this
 have hrootIo:∀(m r:Nat),(cI ags)[m]?=some r→dp c.K r:=by
  intro m r hm;obtain⟨_,u,_,hn⟩:=hun m r hm;obtain⟨_,hn⟩:=hn;unfold dp;generalize af c.K r=kk at hn;cases kk<;>first | exact hn.elim | trivial
 refine⟨F2,O2,hI.many hlen (by cases dst<;>simp [Act.put]) (by cases dst<;>rfl) (fun s hs=>?_) (fun r hr _ hb=>?_) (fun s hs=>?_) (fun _ hb=>.inl hb) (fun b hb=>?_) (fun b p hp hm=>?_) (fun b hb=>?_) (fun b p hp=>?_) (fun b hb=>?_) hpost.size hpost.os hpost.tape hpost.output (fun b hb hx=>?_)⟩
 ·cases dst with
  | none=>rfl
  | some d=>exact bq fun e=>hs (by simp [e])
 ·obtain⟨m,hm⟩:=List.getElem?_of_mem hr
  obtain⟨_,u,hu,hn⟩:=hun m r hm;rw [hgetio m r hm (hrootIo m r hm),cP,Hi,hu];exact hn.1
 ·rcases List.mem_append.1 hs with hs | hs
  ·rcases hdx with ⟨rfl,_⟩ | ⟨d,y,rfl,rfl,_⟩
   ·cases hs
   ·have:s=d:=by simpa using hs
    subst this;by_cases hsl:s<δ.length
    ·have e:=kZ (δ:=δ) ([s]++cI ags) ([y]++us) (m:=0) (s:=s) hnd2 rfl hsl
     simp only [Option.toList_some] at e ⊢;rw [e];exact hU F2 O2 hlv (fun b j hj=>⟨hO2s b j hj,Ij hB (hpost.rn b j hj).1,fun hn=>.inr (.inr ⟨j,hj,hn⟩)⟩) s y rfl rfl hsl
    ·refine .inl ?_
     have:∀(l:List D) (n:Nat),¬n<l.length→nth l n = .bad:=fun l n h=>by
      rw [cP,Hi,Hr (by omega)];rfl
     exact this _ _ (by rw [bY];exact hsl)
  ·have hs':=hs
   obtain⟨m,hm⟩:=List.getElem?_of_mem hs;have hr:=hrootIo m s hm;obtain⟨hb,u,hu,hn⟩:=hun m s hm;rw [hgetio m s hm hr,cP,Hi,hu];have hav:av (a.put dst v) s=av a s:=by
    cases dst with
    | none=>rfl
    | some d =>
     refine bq ?_
     rcases hdx with ⟨h,_⟩ | ⟨d',y,h,_,hm'⟩
     ·cases h
     ·cases h
      rintro rfl;rw [fd] at hm';exact(of_decide_eq_false hm') hs'
   refine .inr ?_
   obtain⟨hn1,hn2⟩:=hn;have hbl:∀lv,lv≠1→(dS ags=[]∨lv≤1)→∀b,FB F' 0 lv b→FB F2 B lv b:=by
    intro lv h1 h2 b hb;refine hlv lv b h2 ?_
    match lv,h1 with
    | 0,_=>exact hb
    | n+2,_=>exact hb
   have hlv1:∀lv,(∃z io,af c.K s = .own z lv io)∨(∃n io,af c.K s = .box n lv io)→dS ags=[]∨lv≤1:=by
    intro lv hk;rcases hbor with h | ⟨_,h0⟩
    ·exact .inl h
    ·right
     have:=wP ags S.pm xs hioA h0 m s hm lv hk;omega
   generalize hks:af c.K s=kk at hn2;cases kk with
   | own z lv io =>
    refine .inr ?_
    obtain⟨h1,h2⟩:=hn2;rw [hav];have hown:=(hI.own hks hb).blk;exact ct (hbl lv h1 (hlv1 lv (.inl ⟨z,io,hks⟩))) (fun _ _=>rfl) (fun b hbk _=>⟨⟨(hO2n b (hRn b (hown b hbk).2)).trans (hown b hbk).1.1,(hown b hbk).1.2⟩,rfl⟩) h2
   | box n lv io =>
    refine .inr ?_
    obtain⟨h1,h2⟩:=hn2;rw [hav];have hown:=(hI.box hks hb).blk;exact je (hbl lv h1 (hlv1 lv (.inr ⟨n,io,hks⟩))) (fun _ _=>rfl) (fun b hbk _=>⟨⟨(hO2n b (hRn b (hown b hbk).2)).trans (hown b hbk).1.1,(hown b hbk).1.2⟩,rfl⟩) h2
   | _=>exact hn2.elim
 ·exact hkeep b (hI.fl b hb).1 fun p hp=>by rw [(hI.fl b hb).2] at hp;cases hp
 ·have hb:=(hI.ol b p hp).1
  exact⟨(hO2n b (hRn b hb)).trans hp,hkeep b hb fun q hq=>by rw [hp] at hq;cases hq;exact fun hm'=>hm (Ig _ hm')⟩
 ·rcases hb with hb | hb | ⟨j,hj,hn⟩
  ·obtain⟨h1,h2⟩:=hI.fl b hb
   exact⟨Hw h1 hpost.size,(hO2n b (hRn b h1)).trans h2⟩
  ·obtain⟨_,h1,h2⟩:=hpost.fn b hb.1
   exact⟨h1,(hO2n b h2).trans (hOlt b hb.2)⟩
  ·exact⟨(hpost.rn b j hj).2,(hO2s b j hj).trans hn⟩
 ·cases h:R b with
  | none =>
   rw [hO2n b h] at hp;exact⟨Hw (hI.ol b p hp).1 hpost.size,(hI.ol b p hp).2⟩
  | some j=>exact⟨(hpost.rn b j h).2,.inl (Ij hB (hpost.rn b j h).1)⟩
 ·rcases hb with hb | hb | ⟨j,hj,_⟩
  ·exact .inl hb
  ·exact .inr (Ij hB hb.2)
  ·exact .inr (Ij hB (hpost.rn b j hj).1)
 ·refine hkeep b (Hw hb hB) fun p hp=>?_
  rcases(hI.ol b p hp).2 with h1 | h1
  ·omega
  ·exact absurd h1 hx
theorem yH:∀{ms:List Kd},mg ms=true→∀i lv,(af ms i = .dat lv∨∃z io,af ms i = .own z lv io)→lv≤1
 | [],_,i,lv,hk=>by simp [af] at hk
 | m::ms,h,i,lv,hk=>by
  have:(∀l,m = .dat l→l≤1)∧(∀z l io,m = .own z l io→l≤1)∧mg ms=true:=by
   cases m with
   | dat a =>
    simp only [mg] at h;split at h
    case h_2=>cases h
    rename_i e;exact⟨fun l e'=>by cases e';exact aN.1 e,fun _ _ _ e=>(by cases e),h⟩
   | own z a io =>
    simp only [mg] at h;split at h
    case h_2=>cases h
    rename_i e;exact⟨fun _ e=>(by cases e),fun _ l _ e'=>by cases e';exact aN.1 e,h⟩
   | _=>simp [mg] at h
  obtain⟨h1,h2,h3⟩:=this;cases i with
  | zero =>
   simp only [af] at hk;rcases hk with hk | ⟨z,io,hk⟩
   ·exact h1 lv hk
   ·exact h2 z lv io hk
  | succ i=>exact yH h3 i lv hk
theorem zL {o:Oper} {q:Call} {f:Nat} (ho:o.op = .call q) (hf:q.callee = .value (.func f)):(execOp a.eval o).run P w=(callFunc f (q.args.map a.eval)).run P w:=by
 simp [execOp,ho,resolve,hf,Deferred.ofValue,Act.eval,invoke]
theorem zQ {o:Oper} {q:Call} {t f:Nat} {us:Array Value} (ho:o.op = .call q) (hf:q.callee = .value (.tmp t)) (hv:av a t = .func (.func f) #[] us):(execOp a.eval o).run P w=(callFunc f (q.args.map a.eval++us)).run P w:=by
 have hv':a.eval (.tmp t) = .func (.func f) #[] us:=hv;simp [execOp,ho,resolve,hf,Deferred.ofValue,hv',invoke]
theorem nm {w:World} {F:Nat→Prop} {ow:Nat→Option Nat}:∀(pm pn:List Kd) (ds cs:List D) (ys us:List Value) (i:Nat),dK w F ow i pm ds ys→dK w F ow (i+pm.length) pn cs us→dK w F ow i (pm++pn) (ds++cs) (ys++us)
 | [],pn,[],cs,[],us,i,_,h=>by simpa using h
 | k::pm,pn,d::ds,cs,y::ys,us,i,h1,h2=>⟨h1.1,nm pm pn ds cs ys us (i+1) h1.2 (by rw [show i+1+pm.length=i+(k::pm).length by simp;omega];exact h2)⟩
 | [],_,_::_,_,_,_,_,h,_=>h.elim
 | [],_,[],_,_::_,_,_,h,_=>h.elim
 | _::_,_,[],_,_,_,_,h,_=>h.elim
 | _::_,_,_::_,_,[],_,_,h,_=>h.elim
theorem vJ {K:List Kd}:∀(xs:List Operand) (pm:List Kd) (ags:List Ag),fM K xs pm=some ags→pm.length=xs.length
 | [],[],_,_=>rfl
 | x::xs,m::ms,ags,h=>by
  simp only [fM] at h;split at h
  ·rename_i h1 h2
   simp [vJ xs ms _ h2]
  ·cases h
 | [],_::_,_,h=>by simp [fM] at h
 | _::_,[],_,h=>by simp [fM] at h
theorem xh {α:Type}:∀(n:Nat) (l:List α),tb n l=l.take n
 | 0,l=>by simp [tb]
 | n+1,[]=>by simp [tb]
 | n+1,_::l=>by simp [tb,xh n l]
theorem Ay {w:World} {F:Nat→Prop} {ow:Nat→Option Nat}:∀(pn:List Kd) (cs:List D) (us:List Value) (i:Nat),iA pn=true→cs.length=pn.length→cs.all D.single=true→aZ w F cs us→dK w F ow i pn cs us
 | [],[],us,i,_,_,_,h=>by
  rw [aE] at h;subst h;trivial
 | k::pn,d::cs,us,i,hk,hl,hs,h=>by
  obtain⟨v1,v2,rfl,h1,h2⟩:=aw.1 h;simp only [List.all_cons,Hk] at hs;obtain⟨y,rfl,_⟩:=jk d v1 hs.1 h1;cases k with
  | dat lv =>
   simp only [iA] at hk;split at hk
   case h_2=>cases hk
   rename_i e;rw [au] at e;subst e;exact⟨.inr ((fw hs.1).2 h1),Ay pn cs v2 (i+1) hk (by simpa using hl) hs.2 h2⟩
  | _=>simp [iA] at hk
 | [],_::_,_,_,_,hl,_,_=>by simp at hl
 | _::_,[],_,_,_,hl,_,_=>by simp at hl
theorem sT {w:World} {F:Nat→Prop}:∀(pm pn:List Kd) (us:List D) (ys zs:List Value),pm.length=ys.length→iA pn=true→kG w F (pm++pn) us (ys++zs)→kG w F pm us ys
 | [],pn,us,[],zs,_,hn,h=>by
  have:∀(pn:List Kd) (us:List D) (zs:List Value),iA pn=true→kG w F pn us zs→us=[]:=by
   intro pn;induction pn with
   | nil =>
    intro us zs _ h;cases us with
    | nil=>rfl
    | cons u us=>exact h.elim
   | cons k pn ih =>
    intro us zs hk h;cases k with
    | dat lv =>
     cases zs with
     | nil=>cases us<;>exact h.elim
     | cons z zs =>
      simp only [kG,nh,Il,if_false] at h;simp only [iA] at hk;split at hk
      ·exact ih us zs hk h
      ·cases hk
    | _=>simp [iA] at hk
  have e:=this pn us zs hn (by simpa using h);subst e;trivial
 | k::pm,pn,us,y::ys,zs,hl,hn,h=>by
  simp only [Ie,kG] at h ⊢;split
  ·rename_i hk
   rw [if_pos hk] at h;cases us with
   | nil=>exact h
   | cons u us=>exact⟨h.1,h.2.1,sT pm pn us ys zs (by simpa using hl) hn h.2.2⟩
  ·rename_i hk
   rw [if_neg hk] at h;exact sT pm pn us ys zs (by simpa using hl) hn h
 | [],_,_,_::_,_,hl,_,_=>by simp at hl
 | _::_,_,_,[],_,hl,_,_=>by simp at hl
theorem BO (hS:∀f S,cb c.S f=some S→ay c.G P f S) {o:Oper} {q:Call} {t f:Nat} {S:FS} (ho:o.op = .call q) (hf:q.callee = .value (.tmp t)) (hlk:cb c.S f=some S) {A:Ac} (hA:xE c o.dst t f S q.args.toList=some A) (hI:Inv c B X w0 F0 F O a w δ)
  {k:List D→Option Out} {r:Out} (hg:bR c A δ k=some r) (Q:Exit→Act→World→Prop):o.wp P a w (Next c B X w0 F0 k r) Q:=by
 have hM:=hS f S hlk;unfold xE at hA;split at hA
 case h_2=>cases hA
 rename_i d lt lr hd hkt hrm;split at hA
 case h_2=>cases hA
 rename_i ags l hags hkd;split at hA
 case h_2=>cases hA
 rename_i hlr hlt hpm hdat hio hbor;cases hA;rw [iB,xh] at hags hpm;rw [iB,oY] at hdat;rw [aN] at hlr hlt;simp only [bR,ac] at hg;obtain⟨caps,hc1,hg⟩:=Hg.1 hg;rw [fb] at hg;obtain⟨ds,h1,hg⟩:=Hg.1 hg;simp only [HH] at hg;unfold ai at hg;split at hg
 case h_2=>cases hg
 rename_i rs us h2;unfold FD at hc1;split at hc1
 case h_2=>cases hc1
 rename_i g0 l0 hclo;split at hc1
 case isFalse=>cases hc1
 rename_i hcc;cases hc1;obtain⟨rfl,hcl,hcs⟩:=hcc;have hbt:nth δ t ≠ .bad:=fun e=>by rw [e] at hclo;cases hclo
 have hst:=(hI.slot t).resolve_left hbt;rw [hkt] at hst;have hrep:=hst.resolve_left hbt;rw [hclo] at hrep;simp only [bj,RepC] at hrep;obtain⟨uv,hav,hru⟩:=hrep;simp only [Hl,and_true] at hav;have hpmE:S.pm=S.pm.take q.args.toList.length++S.pm.drop q.args.toList.length:=(Iw _ _).symm;have hlenA:=vJ _ _ _ hags;have hFB:∀b,FB F B lt b→F b:=dH;have hargs:=wE (F':=F) (ow:=fun _=>none) hI (fun _ h=>h) q.args.toList _ ags 0 ds hags hpm h1 (fun r hr b hb=>by rw [hbor] at hr;cases hr) (fun j r hj b hb=>by
  have:=mn hj;rw [hio] at this;cases this)
 have hcaps:=Ay (w:=w) (F:=F) (ow:=fun _=>none) (S.pm.drop q.args.toList.length) caps uv (0+(S.pm.take q.args.toList.length).length) hdat (by rw [hcl,iB,iB,oY]) hcs (aY hFB (fun _ _=>rfl) _ _ hru);have hall:=nm _ _ _ _ _ _ 0 hargs hcaps;rw [←hpmE] at hall;have he:=hM (ds++caps) rs us h2 ((q.args.toList.map a.eval).toArray++uv.toArray) w F (fun _=>none) hI.gl (by simpa using hall) (fun b hb=>⟨(hI.fl b hb).1,rfl⟩) (fun b i hb=>by cases hb) o a (Next c B X w0 F0 k r) Q (fun v w' hp=>?_)
 ·unfold Oper.wp
  rw [zQ ho hf hav];have:q.args.map a.eval=(q.args.toList.map a.eval).toArray:=by rw [←IF,HN]
  rw [this];exact he
 ·obtain⟨F',R,vs,hv,hp⟩:=hp
  have hpost:CallPost {pm:=S.pm.take q.args.toList.length,rm:=S.rm,f:=S.f} (q.args.toList.map a.eval).toArray rs us w (fun b=>F b∨∃r∈dS ags,O b=some (r,0)) (fun b=>match O b with
   | some (r,0)=>ni ags r 0
   | _=>none) F' R vs w':=by
   refine⟨hp.os,hp.tape,hp.output,hp.size,fun b hb _=>hp.keep b hb rfl,fun b hb=>?_,fun b hb=>⟨?_,(hp.fn b hb).2⟩,hp.rn,hp.len,hp.lenD,hp.res,?_⟩
   ·rcases hb with hb | ⟨r,hr,_⟩
    ·exact hp.f0 b hb
    ·rw [hbor] at hr;cases hr
   ·rcases(hp.fn b hb).1 with h | h
    ·exact .inl (.inl h)
    ·exact .inr h
   ·have hu:=hp.us
    rw [hpmE] at hu;simp only [Array.toList_append] at hu;exact sT _ _ _ _ _ (by simpa using hlenA) hdat hu
  have hvl:=hp.len;rw [hrm] at hvl;obtain⟨y,rfl⟩:=Ib.1 hvl;simp only [iD] at hv;subst hv;have hres:=hp.res 0;rw [hrm] at hres;simp only [af,Iy] at hres;have hsz:d<δ.length→av (a.put (some d) v) d=v:=fun h=>bU (by rw [hI.la,←hI.ld];exact h)
  obtain⟨F2,O2,hI'⟩:=km (S:={pm:=S.pm.take q.args.toList.length,rm:=S.rm,f:=S.f}) (v:=v) (dst:=some d) (x:=[nth rs 0]) hI hags hpm h1 (by simp [hio,gx]) (.inl hbor) hpost (.inr ⟨d,nth rs 0,rfl,rfl,by simp [hio,kb]⟩) (fun _=>none) (fun _ _ h=>by cases h) (fun _ _=>rfl) (fun F2 O2 h4 h5 d' y' e1 e2 h6=>by
   cases e1;simp only [Hl,and_true] at e2;subst e2;by_cases hb:nth rs 0 = .bad
   ·exact .inl hb
   ·refine .inr ?_
    rw [hkd,hsz h6];exact .inr (aS (fun b hb=>im hlr _ (h4 lr b (.inl hbor) hb)) (fun _ _=>rfl) (hres.resolve_left hb)))
  have hus:us=[]:=by
   have h3:=(qp (c:=c) (a:=a) (δ:=δ) ags _ q.args.toList us (pO hI _ _ _ _ hags hpm h1) (by simpa using hpost.us)).1;rw [hio] at h3;exact Ik h3
  subst hus;refine⟨F2,O2,_,by rw [hd];exact hI',?_⟩
  rw [hio];simpa using hg
theorem Ab (hS:∀f S,cb c.S f=some S→ay c.G P f S) {o:Oper} {q:Call} {f:Nat} {S:FS} (ho:o.op = .call q) (hf:q.callee = .value (.func f)) (hlk:cb c.S f=some S) {A:Ac} (hA:oa c o.dst S q.args.toList=some A) (hI:Inv c B X w0 F0 F O a w δ)
  {k:List D→Option Out} {r:Out} (hg:bR c A δ k=some r) (Q:Exit→Act→World→Prop):o.wp P a w (Next c B X w0 F0 k r) Q:=by
 have hM:=hS f S hlk;unfold oa at hA;split at hA
 ·cases hA
 rename_i ags hags;simp only at hA;split at hA
 case h_2=>cases hA
 rename_i hokB hnd hpm;have hbor:dS ags=[]∨(mg S.rm=true∧io0 S.pm=true∧sZ (dS ags) (cI ags)=true):=by
  split at hokB
  ·rename_i e;exact .inl e
  ·split at hokB
   ·rename_i h1 h2;exact .inr ⟨h1,h2,hokB⟩
   ·cases hokB
 have hbor':dS ags=[]∨(mg S.rm=true∧io0 S.pm=true):=hbor.imp id fun h=>⟨h.1,h.2.1⟩
 have call:∀(ds rs us:List D),bz ags (ac δ (dq ags))=some ds→S.f ds=some (.ret rs us)→(∀v w' F' R vs,v=iD vs→CallPost S (q.args.toList.map a.eval).toArray rs us w (fun b=>F b∨∃r∈dS ags,O b=some (r,0)) (fun b=>match O b with
   | some (r,0)=>ni ags r 0
   | _=>none) F' R vs w'→Next c B X w0 F0 k r (a.put o.dst v) w')→o.wp P a w (Next c B X w0 F0 k r) Q:=by
  intro ds rs us h1 h2 h3;have hargs:=wE (F':=fun b=>F b∨∃r∈dS ags,O b=some (r,0)) (ow:=fun b=>match O b with
   | some (r,0)=>ni ags r 0
   | _=>none) hI (fun _ h=>.inl h) q.args.toList S.pm ags 0 ds hags hpm h1 (fun r hr b hb=>.inr ⟨r,hr,hb⟩) (fun j r hj b hb=>by simp only [hb];rw [rR hnd hj])
  have he:=hM ds rs us h2 (q.args.toList.map a.eval).toArray w _ _ (pb (fun _ h=>Or.inl h) (fun _ _=>rfl) hI.gl) (by simpa using hargs) (fun b hb=>?_) (fun b i hb=>?_) o a (Next c B X w0 F0 k r) Q (fun v w' hp=>?_)
  ·unfold Oper.wp
   rw [zL ho hf];have:q.args.map a.eval=(q.args.toList.map a.eval).toArray:=by rw [←IF,HN]
   rw [this];exact he
  ·rcases hb with hb | ⟨r',hr,hb⟩
   ·obtain⟨g1,g2⟩:=hI.fl b hb
    exact⟨g1,by simp only [g2]⟩
   ·refine⟨(hI.ol b _ hb).1,?_⟩
    simp only [hb];cases h:ni ags r' 0 with
    | none=>rfl
    | some j =>
     rcases hbor with h0 | ⟨_,_,h0⟩
     ·rw [h0] at hr;cases hr
     ·exact absurd (lZ h) (vq h0 r' hr)
  ·split at hb
   ·rename_i r' hr;exact(hI.ol b _ hr).1
   ·cases hb
  ·obtain⟨F',R,vs,h4,h5⟩:=hp
   exact h3 v w' F' R vs h4 h5
 have asm:∀(K:List D→List D→Option Out),eR [] ags (ac δ (dq ags)) (fun ds=>ai (S.f ds) K)=some r→∃ds rs us,bz ags (ac δ (dq ags))=some ds∧S.f ds=some (.ret rs us)∧K rs us=some r:=by
  intro K h;rw [fb] at h;obtain⟨ds,h1,h2⟩:=Hg.1 h;simp only [HH] at h2;unfold ai at h2;split at h2
  ·rename_i rs us h3
   exact⟨ds,rs,us,h1,h3,h2⟩
  ·cases h2
 have uslen:∀{ds rs us:List D} {F':Nat→Prop} {R:Nat→Option Nat} {vs:List Value} {w':World} {F1:Nat→Prop} {ow:Nat→Option Nat},bz ags (ac δ (dq ags))=some ds→CallPost S (q.args.toList.map a.eval).toArray rs us w F1 ow F' R vs w'→oa.outs us (cI ags)=us:=by
  intro ds rs us F' R vs w' F1 ow h1 h2;have h3:=(qp (c:=c) (a:=a) (δ:=δ) ags S.pm q.args.toList us (pO hI _ _ _ _ hags hpm h1) (by simpa using h2.us)).1;unfold oa.outs;rw [Ai us _ 0 (by omega),Hs,←h3,List.take_length]
 have hlv0:∀i lv,(af S.rm i = .dat lv∨∃z io,af S.rm i = .own z lv io)→dS ags=[]∨lv≤1:=fun i lv hk=>hbor'.imp id fun h=>yH h.1 i lv hk
 split at hA
 ·rename_i hd
  split at hA
  case h_2=>cases hA
  rename_i hrm;cases hA;obtain⟨ds,rs,us,h1,h2,h3⟩:=asm _ hg;refine call ds rs us h1 h2 (fun v w' F' R vs hv hp=>?_)
  obtain⟨F2,O2,hI'⟩:=km (v:=v) (dst:=none) (x:=[]) hI hags hpm h1 hnd hbor' hp (.inl ⟨rfl,rfl⟩) (fun _=>none) (fun _ _ h=>by cases h) (fun _ _=>rfl) (fun _ _ _ _ _ _ h=>by cases h);rw [uslen h1 hp] at h3;exact⟨F2,O2,_,by rw [hd];exact hI',h3⟩
 ·rename_i d hd
  split at hA
  ·rename_i h1' h2' hrm
   cases hA;obtain⟨ds,rs,us,h1,h2,h3⟩:=asm _ hg;refine call ds rs us h1 h2 (fun v w' F' R vs hv hp=>?_)
   obtain⟨F2,O2,hI'⟩:=km (v:=v) (dst:=some d) (x:=[.bad]) hI hags hpm h1 hnd hbor' hp (.inr ⟨d,.bad,rfl,rfl,h2'⟩) (fun _=>none) (fun _ _ h=>by cases h) (fun _ _=>rfl) (fun _ _ _ _ d y _ h _=>by
    simp only [Hl,and_true] at h;exact .inl h.symm)
   rw [uslen h1 hp] at h3;exact⟨F2,O2,_,by rw [hd];exact hI',h3⟩
  ·rename_i kd h1' h2' hrm
   cases hA;obtain⟨ds,rs,us,h1,h2,h3⟩:=asm _ hg;refine call ds rs us h1 h2 (fun v w' F' R vs hv hp=>?_)
   have hvl:=hp.len;rw [hrm] at hvl;obtain⟨y,rfl⟩:=Ib.1 hvl;simp only [iD] at hv;subst hv;have hres:=hp.res 0;rw [hrm] at hres;simp only [af,Iy] at hres;rw [hrm] at h1';have hlv:=hlv0 0;rw [hrm] at hlv;simp only [af] at hlv;have fin:∀(g:Nat→Option (Nat × Nat)),(∀j p,g j=some p→p.1=d)→(∀(F2:Nat→Prop) (O2:Nat→Option (Nat × Nat)),(∀lv b,(dS ags=[]∨lv≤1)→FB F' w.heap.size lv b→FB F2 B lv b)→(∀b j,R b=some j→O2 b=g j∧B≤b∧(g j=none→F2 b))→d<δ.length→nR c.K B F2 O2 (a.put (some d) v) w' d (nth rs 0)) →
     Next c B X w0 F0 k r (a.put o.dst v) w':=by
    intro g hg' hU;obtain⟨F2,O2,hI'⟩:=km (v:=v) (dst:=some d) (x:=[nth rs 0]) hI hags hpm h1 hnd hbor' hp (.inr ⟨d,nth rs 0,rfl,rfl,h2'⟩) g (fun j p h d' e=>by cases e;exact hg' j p h) (fun h=>by cases h) (fun F2 O2 h4 h5 d' y' e1 e2 h6=>by
     cases e1;simp only [Hl,and_true] at e2;subst e2;exact hU F2 O2 h4 h5 h6)
    rw [uslen h1 hp] at h3;exact⟨F2,O2,_,by rw [hd];exact hI',h3⟩
   have hsz:d<δ.length→av (a.put (some d) v) d=v:=fun h=>bU (by rw [hI.la,←hI.ld];exact h)
   by_cases hb:nth rs 0 = .bad
   ·exact fin (fun _=>none) (fun _ _ h=>by cases h) (fun _ _ _ _ _=>.inl hb)
   have hres:=hres.resolve_left hb;cases kd with
   | dat lv =>
    simp only [yp] at h1';split at h1'
    case h_2=>cases h1'
    rename_i l hkd;rw [aN] at h1';refine fin (fun _=>none) (fun _ _ h=>by cases h) (fun F2 O2 h4 h5 h6=>.inr ?_)
    rw [hkd,hsz h6];exact .inr (aS (fun b hb=>im h1' _ (h4 lv b (hlv lv (.inl rfl)) hb)) (fun _ _=>rfl) hres)
   | own z lv io =>
    cases io
    case true =>
     simp only [yp] at h1';split at h1'
     ·simp [em] at h1'
     ·cases h1'
    simp only [yp] at h1';have hlv':=hlv lv (.inr ⟨z,false,rfl⟩);rcases kY h1' with ⟨l,hkd,hle⟩ | ⟨l,hkd,h1l,hle⟩
    ·refine fin (fun _=>some (d,0)) (fun _ _ h=>by cases h;rfl) (fun F2 O2 h4 h5 h6=>.inr ?_)
     rw [hkd,hsz h6];exact .inr (ct (fun b hb=>im hle _ (h4 lv b hlv' hb)) (fun _ _=>rfl) (fun b _ hb=>⟨⟨(h5 b 0 hb.1).1,fun _=>(h5 b 0 hb.1).2.1⟩,rfl⟩) hres)
    ·refine fin (fun _=>none) (fun _ _ h=>by cases h) (fun F2 O2 h4 h5 h6=>.inr ?_)
     rw [hkd,hsz h6];refine .inr (aS (fun b hb=>?_) (fun _ _=>rfl) (hY hres))
     rcases hb with hb | ⟨hb1,hb2⟩
     ·exact im hle _ (h4 lv b hlv' hb)
     ·obtain⟨_,g2,g3⟩:=h5 b 0 hb1
      match l,h1l with
      | 1,_=>exact⟨g3 rfl,g2⟩
      | _+2,_=>exact g3 rfl
   | _=>exact hres.elim
  ·rename_i h1' h2' hn0 hn1
   cases hA;obtain⟨ds,rs,us,h1,h2,h3⟩:=asm _ hg;refine call ds rs us h1 h2 (fun v w' F' R vs hv hp=>?_)
   have hvl:=hp.len;have hfit:∃ns,af c.K d = .tup ns∧em S.rm ns=true:=by
    unfold yp at h1';split at h1'
    ·rename_i e;exact absurd e (hn1 _)
    ·rename_i e;exact absurd e (hn1 _)
    ·rename_i e;exact absurd e hn0
    ·split at h1'
     ·exact⟨_,‹_›,h1'⟩
     ·cases h1'
   obtain⟨ns,hkd,hsame⟩:=hfit;have hv2:v = .tuple vs.toArray:=by
    rw [hv];unfold iD;split
    ·rename_i y
     exfalso;have:S.rm.length=1:=by rw [←hvl];rfl
     obtain⟨kk,e⟩:=Ib.1 this;exact hn1 _ e
    ·rfl
   obtain⟨F2,O2,hI'⟩:=km (v:=v) (dst:=some d) (x:=[.tup rs]) hI hags hpm h1 hnd hbor' hp (.inr ⟨d,.tup rs,rfl,rfl,h2'⟩) (fun j=>some (d,j+1)) (fun j p h d' e=>by cases e;cases h;rfl) (fun h=>by cases h) (fun F2 O2 h4 h5 d' y' e1 e2 h6=>by
    cases e1;simp only [Hl,and_true] at e2;subst e2;refine .inr ?_
    rw [hkd,bU (by rw [hI.la,←hI.ld];exact h6),hv2];refine⟨rs,vs.toArray,rfl,rfl,fun i=>?_⟩
    obtain⟨e1,e2⟩:=qb hsame i;rw [e1];have hgd:vs.toArray.getD i undef=vs.getD i undef:=by simp
    rw [hgd];rcases hp.res i with hb | hres
    ·exact .inl hb
    rcases e2 with e2 | ⟨lv,e2⟩ | ⟨z,lv,e2⟩
    ·rw [e2] at hres;exact hres.elim
    ·rw [e2] at hres ⊢
     exact .inr (aS (fun b hb=>h4 lv b (hlv0 i lv (.inl e2)) hb) (fun _ _=>rfl) hres)
    ·rw [e2] at hres ⊢
     exact .inr (ct (fun b hb=>h4 lv b (hlv0 i lv (.inr ⟨z,false,e2⟩)) hb) (fun _ _=>rfl) (fun b _ hb=>⟨⟨(h5 b i hb.1).1,fun _=>(h5 b i hb.1).2.1⟩,rfl⟩) hres))
   rw [uslen h1 hp] at h3;exact⟨F2,O2,_,by rw [hd];exact hI',h3⟩
  ·cases hA
end
end Go.V

namespace Go.V
open Go.RowKit
set_option maxRecDepth 100000
section
variable {P:Program} {c:Cx} {B:Nat} {X:Nat→Prop} {w0:World} {F0 F:Nat→Prop} {O:Nat→Option (Nat × Nat)} {a:Act} {w:World} {δ:List D}
theorem Inv.itr (h:Inv c B X w0 F0 F O a w δ) {s:Nat} (hk:af c.K s = .itr) (hb:nth δ s ≠ .bad):Er w (fun g=>O g=some (s,0)∧B≤g) (nth δ s) (av a s):=by
 have h0:=(h.slot s).resolve_left hb;rw [hk] at h0;exact h0.resolve_left hb
theorem Inv.freshI (h:Inv c B X w0 F0 F O a w δ) {d:Nat} (hk:af c.K d = .itr) (s:ByteArray) :
  ∃F' O',Inv c B X w0 F0 F' O' (a.put (some d) (.pointer (some ⟨w.heap.size,0,none⟩))) (w.alloc (.stringIter s 0)) (ae δ ([d]++([]++aH c.K [d])) [.itr s 0]):=by
 have sz:w.heap.size≤(w.alloc (.stringIter s 0)).heap.size:=by simp
 have hw:∀b,b<w.heap.size→(w.alloc (.stringIter s 0)).heap[b]?=w.heap[b]?:=fun b hb=>heap_alloc_old w _ hb
 have hg:w.heap.size<(w.alloc (.stringIter s 0)).heap.size:=by simp
 refine⟨F,cR O (.pointer (some ⟨w.heap.size,0,none⟩)) (some (d,0)),h.many (by simp) dG rfl (fun s hs=>bq fun e=>hs (by simp [e])) (by simp) (fun s' hs=>?_) (fun _ hb=>hb) (fun b hb=>hw b (h.fl b hb).1) (fun b p hp _=>⟨?_,hw b (h.ol b p hp).1⟩) (fun b hb=>⟨Hw (h.fl b hb).1 sz,?_⟩) (fun b p hp=>?_) (fun _ hb=>.inl hb) sz rfl rfl rfl (fun b hb _=>hw b (Hw hb h.bb))⟩
 ·rw [List.append_nil] at hs ⊢
  rcases cW (δ:=δ) (x:=.itr s 0) (ts:=[]) hs with e | ⟨rfl,hd,e⟩
  ·exact .inl e
  ·refine .inr ?_
   simp only [HY] at e;rw [hk,e,bU (by rw [h.la,←h.ld];exact hd)];exact .inr ⟨s,0,_,rfl,rfl,heap_alloc_new w _,oG rfl,h.bb⟩
 ·have:=(h.ol b p hp).1
  rw [dP (fun e=>by rw [mE] at e;omega)];exact hp
 ·have:=(h.fl b hb).1
  rw [dP (fun e=>by rw [mE] at e;omega)];exact(h.fl b hb).2
 ·by_cases e:w.heap.size=b
  ·subst e
   exact⟨hg,.inl h.bb⟩
  ·rw [dP (fun e'=>e (mE.1 e'))] at hp
   exact⟨Hw (h.ol b p hp).1 sz,(h.ol b p hp).2⟩
theorem ym (hT:okT P c.T=true) {o:Oper} {t:Nat} {x:Operand} (ho:o.op = .range t x):eA P c o:=by
 intro A hA B X w0 F0 F O a w δ hI k r hg Q;simp only [bs,ho] at hA;obtain⟨i,hi,hA⟩:=ak hA;split at hA
 case h_2=>cases hA
 rename_i hstr;have hti:=tok hT hi;unfold EM at hA;split at hA
 ·cases hA
 rename_i d hd;split at hA
 case h_2=>cases hA
 rename_i hk hlv;cases hA;simp only [bR] at hg;rw [aX] at hg;obtain⟨y,h1,h2⟩:=Hg.1 hg;obtain⟨d1,e,h1⟩:=aM h1;simp only [Hn,HY,Hl,and_true] at e;subst e;unfold itD at h1;split at h1
 case h_2=>cases h1
 rename_i s hs;cases h1;have hx:=(hI.opd (aN.1 hlv)).rep (by rw [hs];simp);rw [hs] at hx;simp only [bj,RepC] at hx;have hv:a.eval x = .string s:=by simpa using hx.1
 have hrun:(execOp a.eval o).run P w = .ok (.value (.pointer (some ⟨w.heap.size,0,none⟩))) (w.alloc (.stringIter s 0)):=by
  refine bI (s:=Instr.range t (a.eval x)) (by simp only [execOp,ho]) ?_
  rw [hv];exact run_range_string w t s (hti.str hstr).1
 obtain⟨F',O',hI'⟩:=hI.freshI hk s;exact bg hd hrun hI' h2 Q
theorem yi {g:Nat} {s:ByteArray} {p:Nat} (ty:TypeId) (hg:w.heap[g]?=some (.stringIter s p)) (h:p<s.size) (ha:(s[p]'h).toNat<128) :
  (Im (.pointer (some ⟨g,0,none⟩)) true ty).run P w = .ok (.tuple #[.bool true,.int .i64 p,.int .i32 (s[p]'h).toNat]) {w with heap:=w.heap.setIfInBounds g (.stringIter s (p+1))}:=by
 have hl:=(Hx.1 hg).1;simp only [Im,getObj,setObj,Sem.run_bind,Sem.run,hg,HJ,h,if_true,decode_ascii s p h ha];simp [goInt]
theorem uO {g:Nat} {s:ByteArray} {p:Nat} (ty:TypeId) (hg:w.heap[g]?=some (.stringIter s p)) (h:¬p<s.size) :
  (Im (.pointer (some ⟨g,0,none⟩)) true ty).run P w = .ok (.tuple #[.bool false]) w:=by
 simp [Im,getObj,Sem.run,hg,h]
theorem Inv.nextI (h:Inv c B X w0 F0 F O a w δ) {d q g l1 l2 l3:Nat} (hq:af c.K q = .itr) (hk:af c.K d = .tup [.dat l1,.dat l2,.dat l3]) (hO:O g=some (q,0)) (hB:B≤g) (hy:av a q = .pointer (some ⟨g,0,none⟩))
  (s:ByteArray) (p:Nat) {vs:Array Value} {l:List D} (hl:l=vs.toList.map .v) (hf:∀v∈vs.toList,flat v=true) (h3:vs.size≤3) {w':World} (hg:w'.heap[g]?=some (.stringIter s p)) (hw:∀b,b≠g→w'.heap[b]?=w.heap[b]?) (sz:w'.heap.size=w.heap.size)
  (os:w'.os=w.os) (tape:w'.tape=w.tape) (output:w'.output=w.output) :
  Inv c B X w0 F0 F O (a.put (some d) (.tuple vs)) w' (ae δ ([d]++([q]++aH c.K [d])) [.tup l,.itr s p]):=by
 have hdq:d≠q:=fun e=>by
  subst e;rw [hq] at hk;cases hk
 have e0:∀t,nth (ae δ ([d]++[q]) [.tup l,.itr s p]) t=if t=q then(if q<δ.length then .itr s p else .bad) else if t=d then(if d<δ.length then .tup l else .bad) else nth δ t:=by
  intro t;simp only [Ie,HH,ae];by_cases h1:t=q
  ·subst h1
   rw [if_pos rfl,aP,dT]
  ·rw [if_neg h1,bE _ _ _ _ h1]
   by_cases h2:t=d
   ·subst h2
    rw [if_pos rfl,aP]
   ·rw [if_neg h2,bE _ _ _ _ h2]
 have hgl:=(h.ol g _ hO).1;refine h.many (by simp) dG rfl (fun s hs=>bq fun e=>hs (by simp [e])) (fun r hr _ hb=>?_) (fun t ht=>?_) (fun _ hb=>hb) (fun b hb=>hw b fun e=>?_) (fun b p' hp hn=>⟨hp,hw b fun e=>?_⟩) (fun b hb=>⟨by rw [sz];exact(h.fl b hb).1,(h.fl b hb).2⟩) (fun b p' hp=>⟨by rw [sz];exact(h.ol b p' hp).1,(h.ol b p' hp).2⟩) (fun _ hb=>.inl hb) (Nat.le_of_eq sz.symm) os tape output (fun b hb _=>hw b (by omega))
 ·simp at hr
  subst hr;rw [e0,if_pos rfl];by_cases hlt:r<δ.length
  ·rw [if_pos hlt]
   simp
  ·refine absurd ?_ hb
   rw [cP,Hi,Hr (by omega)];rfl
 ·rw [e0]
  by_cases h1:t=q
  ·subst h1
   rw [if_pos rfl];by_cases hlt:t<δ.length
   ·rw [if_pos hlt]
    refine .inr ?_
    rw [hq,bq (Io hdq),hy];exact .inr ⟨s,p,g,rfl,rfl,hg,hO,hB⟩
   ·rw [if_neg hlt]
    exact .inl rfl
  ·have h2:t=d:=by simpa [h1] using ht
   subst h2;rw [if_neg h1,if_pos rfl];by_cases hlt:t<δ.length
   ·rw [if_pos hlt]
    refine .inr ?_
    rw [hk,bU (by rw [h.la,←h.ld];exact hlt)];refine⟨l,vs,rfl,rfl,fun i=>?_⟩
    subst hl;by_cases hi:i<vs.size
    ·have hv:nth (vs.toList.map D.v) i = .v vs[i]:=by
      rw [cP,Hi];simp [hi]
     have hv2:vs.getD i undef=vs[i]:=by simp [Array.getD,hi]
     rw [hv,hv2];refine .inr ?_
     have hfl:=hf vs[i] (by simp);obtain⟨v,hv0⟩:∃v,v=vs[i]:=⟨_,rfl⟩
     rw [←hv0] at hfl ⊢;clear hv hv2 hv0
     match i,hi with
     | 0,_=>exact ce hfl
     | 1,_=>exact ce hfl
     | 2,_=>exact ce hfl
     | i+3,hi=>omega
    ·refine .inl ?_
     rw [cP,Hi,Hr (by simpa using hi)];rfl
   ·rw [if_neg hlt]
    exact .inl rfl
 ·subst e
  rw [(h.fl b hb).2] at hO;cases hO
 ·subst e
  rw [hO] at hp;cases hp;exact hn (by simp)
theorem zy {o:Oper} {q:Nat} (ho:o.op = .next (.tmp q) true):eA P c o:=by
 intro A hA B X w0 F0 F O a w δ hI k r hg Q;simp only [bs,ho] at hA;unfold EQ at hA;split at hA
 ·cases hA
 rename_i d hd;split at hA
 case h_2=>cases hA
 rename_i l1 l2 l3 hq hk;cases hA;simp only [bR,ac,cN,nth] at hg;obtain⟨y,h1,h2⟩:=Hg.1 hg;have hb:nth δ q ≠ .bad:=fun e=>by
  rw [e] at h1;simp [nxS] at h1
 obtain⟨s,p,g,a1,a2,a3,a4,a5⟩:=hI.itr hq hb;have hgl:=(hI.ol g _ a4).1;rw [a1] at h1 h2;simp only [nxS] at h1;simp only [nxT] at h2;have hex:execOp a.eval o=(do pure (.value (←Im (av a q) true o.type))):=by simp only [execOp,ho,be]
 split at h1
 ·rename_i ch hch
  split at h1
  case isFalse=>cases h1
  rename_i hasc;cases h1;rw [hch] at h2;have hlt:p<s.size:=by
   have:=(HA.1 hch).1;rw [Iz] at this;exact this
  have hcc:s[p]'hlt=ch:=by
   have:=(HA.1 hch).2;rw [←this];rfl
  have hr:=yi (P:=P) o.type a3 hlt (by rw [hcc];exact hasc);rw [hcc] at hr;refine bg hd (bI hex (by rw [a2];exact hr)) (hI.nextI (w':={w with heap:=w.heap.setIfInBounds g (.stringIter s (p+1))}) hq hk a4 a5 a2 s (p+1) (vs:=#[.bool true,.int .i64 p,.int .i32 ch.toNat]) rfl (by simp [flat]) (by simp) ?_ (fun b hne=>?_) ?_ rfl rfl rfl) h2 Q
  ·simp [hgl]
  ·simp [Io hne]
  ·simp
 ·rename_i hch
  cases h1;rw [hch] at h2;have hlt:¬p<s.size:=by
   have:=List.getElem?_eq_none_iff.1 hch;rw [Iz] at this;exact Nat.not_lt.2 this
  have hr:=uO (P:=P) o.type a3 hlt;exact bg hd (bI hex (by rw [a2];exact hr)) (hI.nextI hq hk a4 a5 a2 s p (vs:=#[.bool false]) rfl (by simp [flat]) (by simp) a3 (fun _ _=>rfl) rfl rfl rfl rfl) h2 Q
theorem um {o:Oper} {t:Nat} (ho:o.op = .makeMap t none):eA P c o:=by
 intro A hA B X w0 F0 F O a w δ hI k r hg Q;simp only [bs,ho] at hA;obtain⟨i,hi,hA⟩:=ak hA;split at hA
 case h_2=>cases hA
 unfold Ek at hA;split at hA
 ·cases hA
 rename_i d hd;split at hA
 case h_2=>cases hA
 rename_i hk;cases hA;simp only [bR] at hg;have hrun:(execOp a.eval o).run P w = .ok (.value (.map (some w.heap.size))) (w.alloc (.map #[] 0)):=by
  refine bI (s:=Instr.makeMap t none) (by simp only [execOp,ho,Option.map_none]) ?_
  simp [Instr.makeMap,newObj,Sem.run]
 obtain⟨F',O',hI'⟩:=hI.installM (ts:=[]) (l:=[]) (es:=#[]) (clock:=0) (.inl hk) (heap_alloc_new w _) rfl hI.bb (.inl (IE _)) (by simp) (fun b hb=>heap_alloc_old w _ hb) rfl rfl rfl;exact bg hd hrun hI' hg Q
theorem vP (n:Int) (v:Bool) (fk:MapEntry→MapEntry) (hf:∀e,(fk e).key = .int .i64 n∧(fk e).val = .bool v):∀(l:List (Int × Bool)) (es:List MapEntry) (i:Nat),
  es.map (fun e=>(e.key,e.val))=l.map (fun p=>(Value.int .i64 p.1,Value.bool p.2)) →
  (HS (.int .i64) (.int .i64 n) es i=some none∧uM l n=false∧sS l n v=l++[(n,v)]) ∨
  ∃p e,HS (.int .i64) (.int .i64 n) es i=some (some (i+p,.bool (uM l n)))∧es[p]?=some e∧e.key = .int .i64 n∧(es.modify p fk).map (fun e=>(e.key,e.val))=(sS l n v).map fun p=>(Value.int .i64 p.1,Value.bool p.2)
 | [],[],_,_=>.inl ⟨rfl,rfl,rfl⟩
 | [],_::_,_,h=>by cases h
 | _::_,[],_,h=>by cases h
 | (m,b)::l,e::es,i,h=>by
  simp only [Hn,Hl,Prod.mk.injEq] at h;obtain⟨⟨h1,h2⟩,h3⟩:=h;by_cases hm:m=n
  ·subst hm
   refine .inr ⟨0,e,by simp [HS,Ix,h1,h2,uM],rfl,h1,?_⟩
   simp [sS,hf,h3]
  ·have hnm:(n==m)=false:=beq_eq_false_iff_ne.2 (Io hm)
   rcases vP n v fk hf l es (i+1) h3 with ⟨g1,g2,g3⟩ | ⟨p,e',g1,g2,g3,g4⟩
   ·refine .inl ⟨by simp [HS,Ix,h1,hnm,g1],by simp [uM,hm,g2],by simp [sS,hm,g3]⟩
   ·refine .inr ⟨p+1,e',?_,by simpa using g2,g3,?_⟩
    ·simp [HS,Ix,h1,hnm,g1,uM,hm]
     omega
    ·simp [sS,hm,h1,h2,g4]
theorem mH (n:Int):Go.MapKept.IsKey (.int .i64) (.int .i64 n):=rfl
theorem nJ {t k e:TypeId} {g:Nat} {es:Array MapEntry} {clock:Nat} {l:List (Int × Bool)} {n:Int} (hu:P.underlying t=some (.map k e)) (hk:P.underlying k=some (.int .i64)) (hz:∀w:World,(zeroValue e).run P w = .ok (.bool false) w)
  (hb:w.heap[g]?=some (.map es clock)) (he:qY es l):(HZ t (.map (some g)) (.int .i64 n) false).run P w = .ok (.bool (uM l n)) w:=by
 rcases vP n false (fun e=>{e with key:=.int .i64 n,val:=.bool false}) (fun _=>⟨rfl,rfl⟩) l es.toList 0 he with ⟨g1,g2,_⟩ | ⟨p,e',g1,_,_,_⟩
 ·simp [HZ,run_underlying hu,HB hb,Hu hk (mH n),Hv hk g1,hz,HJ,g2]
 ·simp [HZ,run_underlying hu,HB hb,Hu hk (mH n),Hv hk g1,HJ]
theorem sJ {t k e:TypeId} {n:Int} (hu:P.underlying t=some (.map k e)) (hk:P.underlying k=some (.int .i64)) (hz:∀w:World,(zeroValue e).run P w = .ok (.bool false) w) :
  (HZ t (.map none) (.int .i64 n) false).run P w = .ok (.bool false) w:=by
 simp [HZ,run_underlying hu,Hu hk (mH n),Hv hk (show HS (.int .i64) (.int .i64 n) [] 0=some none from rfl),hz,HJ]
theorem uH {t k e:TypeId} {g:Nat} {es:Array MapEntry} {clock:Nat} {l:List (Int × Bool)} {n:Int} {v:Bool} (hu:P.underlying t=some (.map k e)) (hk:P.underlying k=some (.int .i64))
  (hb:w.heap[g]?=some (.map es clock)) (he:qY es l):∃es' clock',(Iu t (.map (some g)) (.int .i64 n) (.bool v)).run P w = .ok () {w with heap:=w.heap.setIfInBounds g (.map es' clock')}∧qY es' (sS l n v):=by
 rcases vP n v (fun e=>{e with key:=.int .i64 n,val:=.bool v}) (fun _=>⟨rfl,rfl⟩) l es.toList 0 he with ⟨g1,_,g3⟩ | ⟨p,e',g1,g2,g3,g4⟩
 ·refine⟨es.push {key:=.int .i64 n,val:=.bool v,born:=clock},clock+1,?_,?_⟩
  ·simp [Iu,run_underlying hu,HB hb,Hu hk (mH n),Hv hk g1,Go.MapKept.run_setObj_map _ hb,HJ]
  ·unfold qY at he ⊢
   rw [g3];simp [he]
 ·refine⟨es.modify p fun e=>{e with key:=.int .i64 n,val:=.bool v},clock,?_,?_⟩
  ·have hj:es[p]?=some e':=by simpa using g2
   have hs:=Go.MapKept.run_keyThatStays (P:=P) (w:=w) (mH n);simp [Iu,run_underlying hu,HB hb,Hu hk (mH n),Hv hk g1,hj,g3,hs,Go.MapKept.run_setObj_map _ hb,HJ]
  ·unfold qY
   rw [Array.toList_modify];exact g4
theorem wA (hT:okT P c.T=true) {o:Oper} {t q:Nat} {x:Operand} (ho:o.op = .lookup t (.tmp q) x false):eA P c o:=by
 intro A hA B X w0 F0 F O a w δ hI k r hg Q;simp only [bs,ho] at hA;obtain⟨i,hi,hA⟩:=ak hA;split at hA
 case h_2=>cases hA
 rename_i hm;obtain⟨kt,et,hu,hkt,hz⟩:=(tok hT hi).mp hm;have hex:execOp a.eval o=(do pure (.value (←HZ t (av a q) (a.eval x) false))):=by simp only [execOp,ho,be]
 have own:∀(r d lv:Nat),af c.K r = .mpo→av a q=av a r→af c.K d = .dat lv→cm c.K x≤2→∀z,lkD (nth δ r) (opD δ x)=some z→∃y,(execOp a.eval o).run P w = .ok (.value y) w∧sy c.K B F a w δ d z y:=by
  intro r d lv hq hav hkd hlv z hzz;have hb:nth δ r ≠ .bad:=fun e=>by
   rw [e] at hzz;simp [lkD] at hzz
  obtain⟨l,g,es,clock,e1,e2,e3,e4,_⟩:=hI.mpo hq hb;rw [e1] at hzz;unfold lkD at hzz;split at hzz
  case h_2=>cases hzz
  rename_i l' n e5 e6;cases e5;cases hzz;have h2:=hI.opd hlv;rw [e6] at h2;obtain⟨h2,_⟩:=aD h2;refine⟨.bool (uM l n),bI hex ?_,.inr ?_⟩
  ·rw [h2,hav,e2]
   exact nJ hu hkt hz e3 e4
  ·rw [hkd]
   exact ce rfl
 unfold Fg at hA;split at hA
 ·rename_i lv hq
  refine aC hA hI hg (fun hx z hzz=>?_) Q
  obtain⟨d1,d2,e,hzz⟩:=dV hzz;simp only [Hn,HY,Hl,and_true] at e;obtain⟨rfl,rfl⟩:=e;unfold lkD at hzz;split at hzz
  case h_2=>cases hzz
  rename_i l n e1 e2;cases hzz;have h1:=(hx (.tmp q) (by simp)).2.rep (by rw [e1];simp);have h2:=(hx x (by simp)).2;rw [e1] at h1;rw [e2] at h2;obtain⟨h2,_⟩:=aD h2;simp only [bj,RepC,be] at h1;refine⟨.bool (uM l n),bI hex ?_,.inr (ce rfl)⟩
  rw [h2];rcases h1 with ⟨h1,rfl⟩ | ⟨g,es,clock,h1,_,h3,h4⟩
  ·simp only [Hl,and_true] at h1
   rw [h1];exact sJ hu hkt hz
  ·simp only [Hl,and_true] at h1
   rw [h1];exact nJ hu hkt hz h3 h4
 ·rename_i hq
  split at hA
  ·cases hA
  rename_i d hd;split at hA
  case h_2=>cases hA
  rename_i lv hkd hlv;cases hA;refine bp hI hd hg (fun z hzz=>?_) Q
  simp only [ac] at hzz;rw [aX] at hzz;obtain⟨d1,e,hzz⟩:=aM hzz;simp only [Hn,HY,Hl,and_true] at e;subst e;exact own q d lv hq rfl hkd (aN.1 hlv) z hzz
 ·rename_i rr hq
  split at hA
  case h_2=>cases hA
  rename_i d hkr hd;split at hA
  case h_2=>cases hA
  rename_i lv hkd hlv;cases hA;refine bp hI hd hg (fun z hzz=>?_) Q
  simp only [ac] at hzz;obtain⟨b,hb1,hzz⟩:=Hg.1 hzz;obtain⟨hpb,rfl⟩:=aL hb1;rw [aX] at hzz;obtain⟨d1,e,hzz⟩:=aM hzz;simp only [Hn,HY,Hl,and_true] at e;subst e;exact own rr d lv hkr (hI.via hq hpb).1 hkd (aN.1 hlv) z hzz
 ·cases hA
theorem rf (hT:okT P c.T=true) {o:Oper} {t q:Nat} {x y:Operand} (ho:o.op = .mapUpdate t (.tmp q) x y):eA P c o:=by
 intro A hA B X w0 F0 F O a w δ hI k r hg Q;simp only [bs,ho] at hA;split at hA
 case h_2=>cases hA
 rename_i hdst;obtain⟨i,hi,hA⟩:=ak hA;split at hA
 case h_2=>cases hA
 rename_i hm;obtain⟨kt,et,hu,hkt,hz⟩:=(tok hT hi).mp hm;have main:∀(r1:Nat),af c.K r1 = .mpo→av a q=av a r1→gh c.K [x,y]≤2→∀z,upM (nth δ r1) ([x,y].map (opD δ))=some z→k (ae δ ([]++([r1]++aH c.K [])) [z])=some r→o.wp P a w (Next c B X w0 F0 k r) Q:=by
  intro r1 hq hav hlv z h1 h2;have hb:nth δ r1 ≠ .bad:=fun e=>by
   rw [e] at h1;simp [upM] at h1
  obtain⟨l,g,es,clock,e1,e2,e3,e4,e5,e6⟩:=hI.mpo hq hb;rw [e1] at h1;unfold upM at h1;split at h1
  case h_2=>cases h1
  rename_i l' n v e7 e8;cases e7;cases h1;simp only [Hn,HY,Hl,and_true] at e8;have hlx:=fv hlv x (by simp);have hly:=fv hlv y (by simp);have hx:=hI.opd hlx;have hy:=hI.opd hly;rw [e8.1] at hx;rw [e8.2] at hy;obtain⟨hx,_⟩:=aD hx;obtain⟨hy,_⟩:=aD hy;obtain⟨es',clock',hrun,he'⟩:=uH (P:=P) (w:=w) (n:=n) (v:=v) hu hkt e3 e4;have hgl:=(hI.ol g _ e5).1;have hex:(execOp a.eval o).run P w = .ok .skip {w with heap:=w.heap.setIfInBounds g (.map es' clock')}:=by
   simp only [execOp,ho,be,hav,e2,hx,hy];simp [hrun]
  have e0:∀s,nth (ae δ ([]++[r1]) [.mp (sS l n v)]) s=if s=r1 then(if r1<δ.length then .mp (sS l n v) else .bad) else nth δ s:=by
   intro s;simp only [HH,ae];by_cases h:s=r1
   ·subst h
    rw [if_pos rfl,aP]
   ·rw [if_neg h,bE _ _ _ _ h]
  refine yk hex ⟨F,O,_,?_,h2⟩
  rw [hdst];refine hI.many (hw:=[]) (cw:=[r1]) (outs:=[.mp (sS l n v)]) (by simp) rfl rfl (fun s _=>rfl) (fun r' hr _ hbr=>?_) (fun s hs=>?_) (fun _ hb=>hb) (fun b hbF=>?_) (fun b p hp hn=>⟨hp,?_⟩) (fun b hbF=>⟨by simpa using (hI.fl b hbF).1,(hI.fl b hbF).2⟩) (fun b p hp=>⟨by simpa using (hI.ol b p hp).1,(hI.ol b p hp).2⟩) (fun _ hb=>.inl hb) (by simp) rfl rfl rfl (fun b hbB _=>?_)
  ·simp at hr
   subst hr;rw [e0,if_pos rfl];by_cases hlt:r'<δ.length
   ·rw [if_pos hlt]
    simp
   ·refine absurd ?_ hbr
    rw [cP,Hi,Hr (by omega)];rfl
  ·simp at hs
   subst hs;rw [e0,if_pos rfl];by_cases hlt:s<δ.length
   ·rw [if_pos hlt]
    refine .inr ?_
    rw [hq];exact .inr ⟨_,g,es',clock',rfl,e2,by simp [hgl],he',e5,e6⟩
   ·rw [if_neg hlt]
    exact .inl rfl
  ·have hne:b≠g:=fun e=>by
    subst e;rw [(hI.fl b hbF).2] at e5;cases e5
   simp [Io hne]
  ·have hne:b≠g:=fun e=>by
    subst e;rw [e5] at hp;cases hp;exact hn (by simp)
   simp [Io hne]
  ·have hne:b≠g:=by omega
   simp [Io hne]
 unfold Ez at hA;split at hA
 ·rename_i hq hlv
  cases hA;simp only [bR,ac] at hg;rw [aX] at hg;obtain⟨z,h1,h2⟩:=Hg.1 hg;exact main q hq rfl (aN.1 hlv) z h1 h2
 ·rename_i rr hq hlv
  split at hA
  case h_2=>cases hA
  rename_i hkr;cases hA;simp only [bR,ac] at hg;obtain⟨b,hb1,hg⟩:=Hg.1 hg;obtain⟨hpb,rfl⟩:=aL hb1;rw [aX] at hg;obtain⟨z,h1,h2⟩:=Hg.1 hg;exact main rr hkr (hI.via hq hpb).1 (aN.1 hlv) z h1 h2
 ·cases hA
end
end Go.V

namespace Go.V
open Go.RowKit
set_option maxRecDepth 100000
section
variable {P:Program} {c:Cx}
theorem ph {o:Oper} {q:Call} (ho:o.op = .call q) {bi:Builtin} (hq:q.callee = .builtin bi) (f:D→D→Option D) (g:Value→Value→Sem Value) (hbi:(bi = .min∧f=Bg∧g=IA)∨(bi = .max∧f=BH∧g=IB))
  {A:Ac} (hA:aQ c o.dst q.args.toList 0 (ta f)=some A) {B:Nat} {X:Nat→Prop} {w0:World} {F0 F:Nat→Prop} {O:Nat→Option (Nat × Nat)} {a:Act} {w:World} {δ:List D} (hI:Inv c B X w0 F0 F O a w δ) {k:List D→Option Out} {r:Out} (hg:bR c A δ k=some r) (Q:Exit→Act→World→Prop):o.wp P a w (Next c B X w0 F0 k r) Q:=by
 rcases hbi with ⟨rfl,rfl,rfl⟩ | ⟨rfl,rfl,rfl⟩
 ·refine qN ho hq rfl (f:=Bg) (g:=IA) (fun w G a b z x y ha hb h=>EE ha hb h) (fun x rest v he hr=>?_) hA hI hg Q
  simp [builtin,Builtin.min_,he,hr]
 ·refine qN ho hq rfl (f:=BH) (g:=IB) (fun w G a b z x y ha hb h=>ET ha hb h) (fun x rest v he hr=>?_) hA hI hg Q
  simp [builtin,Builtin.max_,he,hr]
theorem Bz (hT:okT P c.T=true) (hS:∀f S,cb c.S f=some S→ay c.G P f S) (o:Oper):eA P c o:=by
 intro A hA B X w0 F0 F O a w δ hI k r hg Q;have hA0:=hA;unfold bs at hA;split at hA
 case h_1 x ho=>exact xV (.inl ho) hA hI hg Q
 case h_2 x ho=>exact xV (.inr ho) hA hI hg Q
 case h_3 q x y ho=>exact zN ho A hA0 B X w0 F0 F O a w δ hI k r hg Q
 case h_4 t ho=>exact wV hT ho A hA0 B X w0 F0 F O a w δ hI k r hg Q
 case h_5 t x ho=>exact Bd ho A hA0 B X w0 F0 F O a w δ hI k r hg Q
 case h_6 t ps ho=>exact yu hT ho A hA0 B X w0 F0 F O a w δ hI k r hg Q
 case h_7 t n ps ho=>exact pW hT ho A hA0 B X w0 F0 F O a w δ hI k r hg Q
 case h_8 t p ho=>exact yP hT ho A hA0 B X w0 F0 F O a w δ hI k r hg Q
 case h_9 t p x ho=>exact xi hT ho A hA0 B X w0 F0 F O a w δ hI k r hg Q
 case h_10 x ho=>exact tA ho A hA0 B X w0 F0 F O a w δ hI k r hg Q
 case h_11 op t x y _ ho=>exact yD hT ho A hA0 B X w0 F0 F O a w δ hI k r hg Q
 case h_12 op t x ho=>exact yN ho A hA0 B X w0 F0 F O a w δ hI k r hg Q
 case h_13 s t x ho=>exact ul hT ho A hA0 B X w0 F0 F O a w δ hI k r hg Q
 case h_14 f u v ho=>exact sx ho A hA0 B X w0 F0 F O a w δ hI k r hg Q
 case h_15 t n m ho=>exact rD hT ho A hA0 B X w0 F0 F O a w δ hI k r hg Q
 case h_16 t x lo hi ho =>
  have hA1:=ak hA;clear hA;obtain⟨i,hi',hA⟩:=hA1;have main:∀(hsl:i.str=false→ia i=true),uQ c o.dst i x lo hi=some A→o.wp P a w (Next c B X w0 F0 k r) Q:=by
   intro hsl hA;have hA2:=hA;unfold uQ at hA2;split at hA2
   case h_3=>cases hA2
   case h_2=>exact rg hT ho hi' hsl hA hI hg Q
   rename_i q;split at hA2
   ·rename_i lv hk;exact rq hT ho hi' hsl hk hA hI hg Q
   ·exact lC hT ho hi' hsl hA2 hI hg Q
   ·exact lC hT ho hi' hsl hA2 hI hg Q
   ·cases hA2
  split at hA
  ·rename_i h1 h2;exact main (fun _=>h1) hA
  ·rename_i h1 h2;exact main (fun h=>by rw [h] at h2;cases h2) hA
  ·cases hA
 case h_17 t x f ho=>exact re hT ho A hA0 B X w0 F0 F O a w δ hI k r hg Q
 case h_18 t x f ho=>exact xG hT ho A hA0 B X w0 F0 F O a w δ hI k r hg Q
 case h_19 t x i ho=>exact ry hT ho A hA0 B X w0 F0 F O a w δ hI k r hg Q
 case h_20 t x i ho=>exact wT hT ho A hA0 B X w0 F0 F O a w δ hI k r hg Q
 case h_21 x i ho=>exact uU ho A hA0 B X w0 F0 F O a w δ hI k r hg Q
 case h_22 q ho =>
  unfold Bh at hA;split at hA
  ·rename_i x t hq h1 h2
   have hA1:=ak hA;clear hA;obtain⟨i,hi,hA⟩:=hA1;have eq:q={callee:=.builtin .len,args:=#[x],argTypes:=#[t]}:=by
    obtain⟨cl,ar,ty⟩:=q;simp only at hq h1 h2;subst hq;congr
    ·rw [←HN (xs:=ar),h1]
    ·rw [←HN (xs:=ty),h2]
   rw [eq] at ho;split at hA
   ·rename_i g1 g2
    exact sY hT ho hi (fun _=>g1) (fun h=>by cases h) hA hI hg Q
   ·rename_i g1 g2
    exact sY hT ho hi (fun h=>by cases h) (fun _=>g2) hA hI hg Q
   ·cases hA
  ·rename_i s x t u hq h1 h2
   split at hA
   case h_2=>cases hA
   rename_i htu;rw [au] at htu;subst htu;have hA1:=ak hA;clear hA;obtain⟨i,hi,hA⟩:=hA1;have hA1:=ak hA;clear hA;obtain⟨e,he,hA⟩:=hA1;split at hA
   case h_2=>cases hA
   rename_i hsl;exact wN hT ho hq h1 h2 hi he hsl hA hI hg Q
  ·rename_i hq;exact ph ho hq Bg IA (.inl ⟨rfl,rfl,rfl⟩) hA hI hg Q
  ·rename_i hq;exact ph ho hq BH IB (.inr ⟨rfl,rfl,rfl⟩) hA hI hg Q
  ·rename_i f hq
   split at hA
   case h_2=>cases hA
   rename_i S hlk;exact Ab hS ho hq hlk hA hI hg Q
  ·rename_i t hq
   split at hA
   case h_2=>cases hA
   rename_i f hC;split at hA
   case h_2=>cases hA
   rename_i S hlk;exact BO hS ho hq hlk hA hI hg Q
  ·cases hA
 case h_23 t x ho=>exact ym hT ho A hA0 B X w0 F0 F O a w δ hI k r hg Q
 case h_24 q ho=>exact zy ho A hA0 B X w0 F0 F O a w δ hI k r hg Q
 case h_25 t ho=>exact um ho A hA0 B X w0 F0 F O a w δ hI k r hg Q
 case h_26 t q x y ho=>exact rf hT ho A hA0 B X w0 F0 F O a w δ hI k r hg Q
 case h_27 t q x ho=>exact wA hT ho A hA0 B X w0 F0 F O a w δ hI k r hg Q
 case h_28=>cases hA
def Nt (n:Nat) (f:(List D→Option Out)→Option Out):Prop:=∃o:Option (List D),(∀k,f k=o.bind k)∧∀l,o=some l→l.length=n
def fj:Ac→Prop
 | .one _ _ _=>True
 | .many _ hw cw fn=>∀is,Nt (hw++cw).length (fn is)
theorem dl {n:Nat} {l:List D} (h:l.length=n):Nt n (fun k=>k l):=⟨some l,fun _=>rfl,fun l' e=>by cases e;exact h⟩
theorem fL {n:Nat}:Nt n (fun _=>none):=⟨none,fun _=>rfl,fun _ e=>by cases e⟩
theorem ci {n:Nat} {X:Option D} {f:D→(List D→Option Out)→Option Out} (h:∀y,Nt n (f y)):Nt n (fun k=>X.bind fun y=>f y k):=by
 cases X with
 | none=>exact fL
 | some y=>exact h y
theorem Du {n:Nat} {X:Option (List D)} {f:List D→(List D→Option Out)→Option Out} (h:∀y,Nt n (f y)):Nt n (fun k=>X.bind fun y=>f y k):=by
 cases X with
 | none=>exact fL
 | some y=>exact h y
theorem kX {n:Nat} {is:List D} {i:Nat} {f:D→(List D→Option Out)→Option Out} (h:∀y,Nt n (f y)):Nt n (fun k=>cH is i fun y=>f y k):=by
 simp only [cN];exact h _
theorem Cq {n q r:Nat} {is:List D} {f:D→D→List D→(List D→Option Out)→Option Out} (h:∀b p is,Nt n (f b p is)):Nt n (fun k=>goP q r is fun b p is=>f b p is k):=by
 unfold goP;cases Hp q r
 ·rcases is with _ | ⟨p,_ | ⟨b,is⟩⟩
  ·exact fL
  ·exact fL
  ·exact h _ _ _
 ·cases is with
  | nil=>exact fL
  | cons b is=>exact h _ _ _
theorem CN {n m:Nat} {chk:Bool} {b p y:D} {f:D→(List D→Option Out)→Option Out} (h:∀y,Nt n (f y)):Nt n (fun k=>stK chk m b p y fun b=>f b k):=by
 unfold stK;cases chk
 ·exact ci h
 ·exact ci fun _=>ci h
theorem wk {n:Nat} {rd:List Nat} {is:List D} {f:D→(List D→Option Out)→Option Out} (h:∀y,Nt n (f y)):Nt n (fun k=>fR rd is fun y=>f y k):=by
 unfold fR;rcases rd with _ | ⟨a,_ | ⟨b,rd⟩⟩
 ·exact h _
 ·exact kX h
 ·exact kX fun p=>kX fun x=>ci h
theorem Dq {n:Nat} {ags:List Ag} {is:List D} {f:List D→(List D→Option Out)→Option Out} (h:∀y,Nt n (f y)):Nt n (fun k=>eR [] ags is fun y=>f y k):=by
 simp only [fb,HH];cases bz ags is with
 | none=>exact fL
 | some y=>exact h y
theorem AG {n:Nat} {r:Option Out} {f:List D→List D→(List D→Option Out)→Option Out} (h:∀y z,Nt n (f y z)):Nt n (fun k=>ai r fun y z=>f y z k):=by
 unfold ai;split
 ·exact h _ _
 ·exact fL
theorem aR {dst:Option Nat} {xs:List Operand} {lv:Nat} {h:List D→Option D} {A:Ac} (hA:aQ c dst xs lv h=some A):fj A:=by
 unfold aQ at hA
 repeat' (split at hA)
 all_goals first | (cases hA;done) | (cases hA;trivial)
theorem Bi {rd:List Nat} {d lv l:Nat} {h:List D→Option D} {A:Ac} (hA:Fb (fun h=>Ac.one rd d h) (vF lv l h)=some A):fj A:=by
 unfold vF at hA
 repeat' (split at hA)
 all_goals first | (cases hA;done) | (cases hA;trivial)
theorem xz {dst:Option Nat} {x:Operand} {t:Nat} {A:Ac} (hA:wZ c dst x t=some A):fj A:=by
 unfold wZ at hA
 repeat' (split at hA)
 all_goals first
  | (cases hA;done)
  | exact aR hA
  | (cases hA;trivial)
  | (cases hA;exact fun is=>kX fun x=>dl rfl)
  | (cases hA;exact fun is=>kX fun p=>kX fun x=>ci fun y=>dl rfl)
  | (cases hA;exact fun is=>dl rfl)
  | (obtain⟨i,_,hA⟩:=ak hA;exact aR hA)
theorem DI {dst:Option Nat} {i:TI} {p:Operand} {A:Ac} (hA:EH c dst i p=some A):fj A:=by
 unfold EH at hA
 repeat' (split at hA)
 all_goals first | (cases hA;done) | exact aR hA | exact Bi hA
theorem Cu {i:TI} {p x:Operand} {A:Ac} (hA:CX c i p x=some A):fj A:=by
 have main:∀q r lv,xL c i q r lv x=some A→fj A:=by
  intro q r lv hA;unfold xL at hA
  repeat' (split at hA)
  all_goals first
   | (cases hA;done)
   | (cases hA;exact fun is=>Cq fun b p is=>kX fun y=>CN fun b=>dl rfl)
   | (cases hA;exact fun is=>Cq fun b p is=>CN fun b=>dl rfl)
 unfold CX at hA
 repeat' (split at hA)
 all_goals first | (cases hA;done) | exact main _ _ _ hA
theorem De {dst:Option Nat} {i:TI} {f:Nat} {p:Operand} {A:Ac} (hA:EU c dst i f p=some A):fj A:=by
 unfold EU at hA
 repeat' (split at hA)
 all_goals first | (cases hA;done) | exact aR hA | (cases hA;trivial)
theorem Cg {dst:Option Nat} {i:TI} {x y:Operand} {A:Ac} (hA:Fq c dst i x y=some A):fj A:=by
 unfold Fq at hA
 repeat' (split at hA)
 all_goals first | (cases hA;done) | exact aR hA | (cases hA;trivial)
theorem DM {dst:Option Nat} {i:TI} {n:Nat} {ps:List (Nat × Operand)} {A:Ac} (hA:EA c dst i n ps=some A):fj A:=by
 unfold EA at hA;simp only at hA
 repeat' (split at hA)
 all_goals first | (cases hA;done) | (cases hA;exact fun is=>ci fun y=>dl rfl)
theorem DO {n:Nat} {chk:Bool} {b:D} {f:D→(List D→Option Out)→Option Out} (h:∀y,Nt n (f y)):Nt n (fun k=>zX chk b fun b=>f b k):=by
 cases chk
 ·exact h b
 ·exact ci h
theorem Dz {dst:Option Nat} {i:TI} {x y:Operand} {A:Ac} (hA:DK c dst i x y=some A):fj A:=by
 have main:∀d chk rs rx os,BZ c d i chk rs rx os=some A→fj A:=by
  intro d chk rs rx os hA;unfold BZ at hA
  repeat' (split at hA)
  all_goals first
   | (cases hA;done)
   | (cases hA;exact fun is=>wk fun a=>wk fun b=>DO fun b=>ci fun y=>dl rfl)
   | (cases hA;exact fun is=>wk fun b=>DO fun b=>ci fun y=>dl rfl)
 unfold DK at hA
 repeat' (split at hA)
 all_goals first
  | (cases hA;done)
  | exact main _ _ _ _ _ hA
theorem Dn {dst:Option Nat} {str:Bool} {x:Operand} {A:Ac} (hA:Br c dst str x=some A):fj A:=by
 unfold Br at hA
 repeat' (split at hA)
 all_goals first | (cases hA;done) | exact aR hA | (cases hA;trivial)
theorem Dp {dst:Option Nat} {i:TI} {x:Operand} {lo hi:Option Operand} {A:Ac} (hA:uQ c dst i x lo hi=some A):fj A:=by
 have own:vn c dst i x lo hi=some A→fj A:=by
  intro hA;unfold vn at hA
  repeat' (split at hA)
  all_goals first | (cases hA;done) | (cases hA;exact fun is=>wk fun a=>ci fun y=>dl rfl)
 unfold uQ at hA
 repeat' (split at hA)
 all_goals first | (cases hA;done) | exact aR hA | exact own hA
theorem DE {dst:Option Nat} {i e:TI} {x y:Operand} {A:Ac} (hA:EW c dst i e x y=some A):fj A:=by
 unfold EW at hA
 repeat' (split at hA)
 all_goals first | (cases hA;done) | (cases hA;exact fun is=>ci fun y=>dl rfl)
theorem DV {dst:Option Nat} {i:TI} {x:Operand} {A:Ac} (hA:Fo c dst i x=some A):fj A:=by
 unfold Fo at hA
 repeat' (split at hA)
 all_goals first | (cases hA;done) | (cases hA;exact fun is=>ci fun y=>dl rfl) | (cases hA;exact fun is=>ci fun y=>ci fun y=>dl rfl)
theorem BV {dst:Option Nat} {t f:Nat} {S:FS} {xs:List Operand} {A:Ac} (hA:xE c dst t f S xs=some A):fj A:=by
  unfold xE at hA
  repeat' (split at hA)
  all_goals first
    | (cases hA;done)
    | (cases hA;exact fun is=>by
        cases is with
        | nil=>exact fL
        | cons cl is=>exact Du fun caps=>Dq fun ds=>AG fun rs us=>dl rfl)
theorem CF {dst:Option Nat} {i:TI} {A:Ac} (hA:EG c dst i=some A):fj A:=by
 unfold EG at hA
 repeat' (split at hA)
 all_goals first | (cases hA;done) | (cases hA;exact fun is=>dl rfl)
theorem CJ {dst:Option Nat} {x:Operand} {i:Nat} {A:Ac} (hA:Fr c dst x i=some A):fj A:=by
 unfold Fr at hA
 repeat' (split at hA)
 all_goals first | (cases hA;done) | (cases hA;trivial) | (cases hA;exact fun is=>kX fun t=>ci fun y=>dl rfl)
theorem xP (us:List D):∀(ios:List Nat) (j:Nat),(oa.go us j ios).length=ios.length
 | [],_=>rfl
 | _::l,j=>by simp [oa.go,xP us l]
theorem Di {dst:Option Nat} {S:FS} {xs:List Operand} {A:Ac} (hA:oa c dst S xs=some A):fj A:=by
 unfold oa at hA;split at hA
 ·cases hA
 simp only at hA;split at hA
 case h_2=>cases hA
 repeat' (split at hA)
 all_goals first
  | (cases hA;done)
  | (cases hA;exact fun is=>Dq fun ds=>AG fun rs us=>dl (by simp [oa.outs,xP]))
theorem Ck {dst:Option Nat} {i j:TI} {x:Operand} {A:Ac} (hA:EX c dst i j x=some A):fj A:=by
 unfold EX at hA
 repeat' (split at hA)
 all_goals first | (cases hA;done) | exact aR hA | (cases hA;trivial)
theorem Cd {dst:Option Nat} {i:TI} {x y:Operand} {A:Ac} (hA:Ew c dst i x y=some A):fj A:=by
 unfold Ew at hA
 repeat' (split at hA)
 all_goals first | (cases hA;done) | exact aR hA | (obtain⟨i,_,hA⟩:=ak hA;exact aR hA)
theorem Dx {dst:Option Nat} {i:TI} {ps:List (Nat × Operand)} {A:Ac} (hA:EV c dst i ps=some A):fj A:=by
 unfold EV at hA;simp only at hA
 repeat' (split at hA)
 all_goals first | (cases hA;done) | exact aR hA
theorem Dd {dst:Option Nat} {x:Operand} {A:Ac} (hA:EO c dst x=some A):fj A:=by
 unfold EO at hA
 repeat' (split at hA)
 all_goals first | (cases hA;done) | exact aR hA | (cases hA;trivial)
theorem DC {dst:Option Nat} {q:Call} {A:Ac} (hA:Bh c dst q=some A):fj A:=by
 unfold Bh at hA;split at hA
 ·obtain⟨i,_,hA⟩:=ak hA
  split at hA<;>first | exact Dn hA | cases hA
 ·split at hA
  ·obtain⟨i,_,hA⟩:=ak hA
   obtain⟨e,_,hA⟩:=ak hA;split at hA<;>first | exact Dz hA | cases hA
  ·cases hA
 ·exact aR hA
 ·exact aR hA
 ·split at hA<;>first | exact Di hA | cases hA
 ·repeat' (split at hA)
  all_goals first | exact BV hA | cases hA
 ·cases hA
theorem Cp {dst:Option Nat} {x:Operand} {A:Ac} (hA:EM c dst x=some A):fj A:=by
 unfold EM at hA
 repeat' (split at hA)
 all_goals first | (cases hA;done) | (cases hA;exact fun is=>ci fun y=>dl rfl)
theorem Dl {dst:Option Nat} {q:Nat} {A:Ac} (hA:EQ c dst q=some A):fj A:=by
 unfold EQ at hA
 repeat' (split at hA)
 all_goals first | (cases hA;done) | (cases hA;exact fun is=>kX fun x=>ci fun y=>dl rfl)
theorem DW {dst:Option Nat} {A:Ac} (hA:Ek c dst=some A):fj A:=by
 unfold Ek at hA
 repeat' (split at hA)
 all_goals first | (cases hA;done) | (cases hA;exact fun is=>dl rfl)
theorem Cb {q:Nat} {x y:Operand} {A:Ac} (hA:Ez c q x y=some A):fj A:=by
 unfold Ez at hA
 repeat' (split at hA)
 all_goals first
  | (cases hA;done)
  | (cases hA;intro is;rcases is with _ | ⟨b,is⟩;exact fL;exact ci fun y=>dl rfl)
  | (cases hA;intro is;rcases is with _ | ⟨p,_ | ⟨b,is⟩⟩;exact fL;exact fL;exact ci fun b=>ci fun y=>dl rfl)
theorem DB {dst:Option Nat} {q:Nat} {x:Operand} {A:Ac} (hA:Fg c dst q x=some A):fj A:=by
 unfold Fg at hA
 repeat' (split at hA)
 all_goals first | (cases hA;done) | exact aR hA | (cases hA;trivial)
theorem vD {o:Oper} {A:Ac} (hA:bs c o=some A):fj A:=by
 unfold bs at hA;split at hA
 case h_1=>exact xz hA
 case h_2=>exact xz hA
 case h_3=>exact aR hA
 case h_4=>obtain⟨i,_,hA⟩:=ak hA;exact CF hA
 case h_5=>obtain⟨i,_,hA⟩:=ak hA;exact DV hA
 case h_6=>obtain⟨i,_,hA⟩:=ak hA;exact Dx hA
 case h_7 =>
  obtain⟨i,_,hA⟩:=ak hA;obtain⟨e,_,hA⟩:=ak hA;split at hA<;>first | exact DM hA | cases hA
 case h_8=>obtain⟨i,_,hA⟩:=ak hA;exact DI hA
 case h_9 =>
  split at hA
  ·obtain⟨i,_,hA⟩:=ak hA;exact Cu hA
  ·cases hA
 case h_10=>exact Dd hA
 case h_11 =>
  obtain⟨i,_,hA⟩:=ak hA;split at hA
  ·exact aR hA
  ·split at hA<;>exact aR hA
 case h_12=>exact aR hA
 case h_13 =>
  obtain⟨i,_,hA⟩:=ak hA;obtain⟨e,_,hA⟩:=ak hA;exact Ck hA
 case h_14=>split at hA<;>first | exact aR hA | cases hA
 case h_15 =>
  obtain⟨i,_,hA⟩:=ak hA;obtain⟨e,_,hA⟩:=ak hA;split at hA<;>first | exact DE hA | cases hA
 case h_16 =>
  obtain⟨i,_,hA⟩:=ak hA;split at hA<;>first | exact Dp hA | cases hA
 case h_17=>obtain⟨i,_,hA⟩:=ak hA;exact De hA
 case h_18 =>
  obtain⟨i,_,hA⟩:=ak hA;split at hA<;>first | exact aR hA | cases hA
 case h_19=>obtain⟨i,_,hA⟩:=ak hA;exact Cg hA
 case h_20=>obtain⟨i,_,hA⟩:=ak hA;exact Cd hA
 case h_21=>exact CJ hA
 case h_22=>exact DC hA
 case h_23 =>
  obtain⟨i,_,hA⟩:=ak hA;split at hA<;>first | exact Cp hA | cases hA
 case h_24=>exact Dl hA
 case h_25 =>
  obtain⟨i,_,hA⟩:=ak hA;split at hA<;>first | exact DW hA | cases hA
 case h_26 =>
  split at hA
  ·obtain⟨i,_,hA⟩:=ak hA
   split at hA<;>first | exact Cb hA | cases hA
  ·cases hA
 case h_27 =>
  obtain⟨i,_,hA⟩:=ak hA;split at hA<;>first | exact DB hA | cases hA
 case h_28=>cases hA
end
end Go.V

namespace Go.V
open Go.RowKit
set_option maxRecDepth 100000
def zC:Kd→Bool
 | .via _=>false
 | .ref _=>false
 | _=>true
def BF (c:Cx) (ops:List Oper) (o:Oper):Bool :=
 (match o.dst with
  | some d=>!nh (af c.K d)
  | none=>true) &&
 (match o.guard with
  | none=>true
  | some (j,_)=>(match tG ops j with
    | some g=>(match af c.K g with
     | .dat _=>true
     | _=>false)
    | none=>false) &&
   (match bs c o with
    | some (.one _ d _)=>(match o.dst with
     | some d'=>Hp d' d
     | none=>false)
    | some (.many _ hw cw _)=>(hw++cw).all (fun s=>zC (af c.K s))&&(match o.dst with
     | some d=>kb d hw
     | none=>true)
    | none=>true))
def IoV (c:Cx) (V:Nat→Value) (a:Act):Prop:=∀s,nh (af c.K s)=true→av a s=V s
theorem CC {P:Program} {o:Oper} {a:Act} {next:Act→World→Prop} {Q:Exit→Act→World→Prop}:∀{res:Result Go.Next},o.upon P a next Q res→o.upon P a (fun a' w'=>next a' w'∧∀s,o.dst≠some s→av a' s=av a s) Q res:=by
 have key:∀(df:List Deferred) (v:Value) (s:Nat),o.dst≠some s→av (({a with defers:=df}:Act).put o.dst v) s=av a s:=by
  intro df v s hs;cases hd:o.dst with
  | none=>rfl
  | some d =>
   have:s≠d:=fun e=>hs (by rw [hd,e])
   exact(bq this).trans rfl
 have key0:∀(v:Value) (s:Nat),o.dst≠some s→av (a.put o.dst v) s=av a s:=fun v s hs=>key a.defers v s hs
 intro res h;cases res with
 | ok n w' =>
  cases n<;>simp only [Oper.upon] at h ⊢ <;>
   first
    | exact⟨h,key0 _⟩
    | exact⟨h,key _ _⟩
    | exact Calls.mono h (fun e w'' he=>by cases e<;>first | exact⟨he,key0 _⟩ | exact he)
    | exact Rows.mono h (fun _ _ he=>⟨he,key0 _⟩)
 | halt x w'=>cases x<;>simp only [Oper.upon] at h ⊢<;>exact h
section
variable {P:Program} {c:Cx} {B:Nat} {X:Nat→Prop} {w0:World} {F0 F:Nat→Prop} {O:Nat→Option (Nat × Nat)} {a:Act} {w:World} {δ:List D}
theorem kL:∀(ss:List Nat) (l:List D) (j:Nat),j+ss.length=l.length→fit l j ss=l.drop j
 | [],l,j,h=>by simp [fit,List.drop_eq_nil_of_le (show l.length≤j by simp at h;omega)]
 | s::ss,l,j,h=>by
  simp only [Ic] at h;have hj:j<l.length:=by omega
  simp only [fit];rw [kL ss l (j+1) (by omega),HU hj,cP,Hi,HD hj];rfl
def qB (K:List Kd) (dst:Option Nat) (δ:List D) (s:Nat):D :=
 match dst with
 | some d=>if kb s (d::dI d K 0) then pr (af K s) else nth δ s
 | none=>nth δ s
theorem ot (K:List Kd) (dst:Option Nat) (δ:List D):∀(ss:List Nat) (k:List D→Option Out),yq K δ dst ss k=k (ss.map (qB K dst δ))
 | [],k=>by simp [yq]
 | s::ss,k=>by
  cases dst with
  | none=>simp only [yq,qB,cN,Hn];exact ot K none δ ss _
  | some d =>
   simp only [yq,Hn];cases h:kb s (d::dI d K 0)
   ·simp only [cN]
    rw [ot K (some d) δ ss];simp only [qB,h,Il,if_false]
   ·simp only
    rw [ot K (some d) δ ss];simp only [qB,h,if_true]
theorem jG (f:Nat→D):∀(ss:List Nat) (δ:List D) (s:Nat),nth (ae δ ss (ss.map f)) s=if s∈ss then(if s<δ.length then f s else .bad) else nth δ s
 | [],δ,s=>by simp [ae]
 | t::ss,δ,s=>by
  simp only [Hn,ae];rw [jG f ss (dR δ t (f t)) s,dT];by_cases hs:s∈ss
  ·simp [hs]
  ·by_cases ht:s=t
   ·subst ht
    simp only [hs,if_false,Hq,true_or,if_true];exact aP _ _ _
   ·simp only [hs,if_false,Hq,ht,or_self]
    exact bE _ _ _ _ ht
theorem zF {δ:List D} {s:Nat} (h:nth δ s ≠ .bad):s<δ.length:=by
 by_cases hl:s<δ.length
 ·exact hl
 ·exfalso
  rw [cP,Hi,Hr (by omega)] at h;exact h rfl
theorem Fa {s:Nat} (hs:s<a.tmps.size):nR c.K B F O (a.put (some s) undef) w s (pr (af c.K s)):=by
 have hav:av (a.put (some s) undef) s=undef:=by
  simp [av,Act.put,hs]
 unfold pr;split
 ·rename_i lv hk
  refine .inr ?_
  simp only [hk];refine .inr ?_
  rw [hav];exact⟨rfl,rfl⟩
 ·exact .inl rfl
theorem Inv.pass_over (h:Inv c B X w0 F0 F O a w δ) {dst:Option Nat} {hw cw:List Nat} (hk:∀s∈hw++cw,zC (af c.K s)=true) (hd:∀d,dst=some d→d∈hw) :
  Inv c B X w0 F0 F O (a.put dst undef) w (ae δ (hw++(cw++aH c.K hw)) ((hw++cw).map (qB c.K dst δ))):=by
 have hav:∀s,dst≠some s→av (a.put dst undef) s=av a s:=by
  intro s hs;cases dst with
  | none=>rfl
  | some d=>exact bq fun e=>hs (by rw [e])
 have hnd:∀s,zC (af c.K s)=true→∀d,s∉dI d c.K 0:=fun s hs d hm=>by
  rcases mI hm with e | e<;>rw [e] at hs<;>cases hs
 refine h.many (by simp) (by cases dst<;>simp [Act.put]) (by cases dst<;>rfl) (fun s hs=>hav s fun e=>hs (hd s e)) (fun r hr hn hb=>?_) (fun s hs=>?_) (fun _ hb=>hb) (fun _ _=>rfl) (fun _ _ hp _=>⟨hp,rfl⟩) h.fl h.ol (fun _ hb=>.inl hb) (IE _) rfl rfl rfl (fun _ _ _=>rfl)
 ·rw [jG,if_pos (Ig _ hr),if_pos (zF hb)]
  unfold qB;split
  ·rename_i d
   rw [if_neg]
   ·exact hb
   ·rw [fd]
    simp only [decide_eq_true_eq,Hq,not_or];exact⟨fun e=>hn (e ▸ hd d rfl),hnd r (hk r (Ig _ hr)) d⟩
  ·exact hb
 ·rw [jG,if_pos hs]
  split
  case isFalse=>exact .inl rfl
  rename_i hsl;have keep:dst≠some s→nR c.K B F O (a.put dst undef) w s (nth δ s):=by
   intro hne;rcases h.slot s with hb | hb
   ·exact .inl hb
   ·refine .inr ?_
    have hks:=hk s hs;rw [hav s hne];generalize af c.K s=kk at hks hb;cases kk<;>first | exact hb | cases hks
  unfold qB;split
  ·rename_i d
   split
   ·rename_i hm
    rw [fd] at hm;simp only [decide_eq_true_eq,Hq] at hm;rcases hm with rfl | hm
    ·exact Fa (by rw [h.la,←h.ld];exact hsl)
    ·rcases mI hm with e | e<;>(rw [e];exact .inl rfl)
   ·rename_i hm
    rw [fd] at hm;simp only [decide_eq_true_eq,Hq,not_or] at hm;exact keep fun e=>hm.1 (by cases e;rfl)
  ·exact keep (by simp)
def rdS (c:Cx) (ops:List Oper) (o:Oper):List Nat :=
 match bs c o with
 | none=>[]
 | some A=>match o.guard with
  | none=>FJ A
  | some (j,_)=>match tG ops j with
   | none=>[]
   | some g=>match A with
    | .one rd _ _=>g::rd
    | .many rd hw cw _=>g::(rd++(hw++cw))
def wrS (c:Cx) (o:Oper):List Nat :=
 match bs c o with
 | none=>[]
 | some (.one _ d _)=>d::dI d c.K 0
 | some (.many _ hw cw _)=>hw++(cw++aH c.K hw)
theorem iF {δ δ':List D}:∀{ss:List Nat},(∀s∈ss,nth δ s=nth δ' s)→ac δ ss=ac δ' ss
 | [],_=>rfl
 | s::ss,h=>by
  simp only [ac];rw [h s (by simp),iF fun t ht=>h t (by simp [ht])]
theorem vv {δ δ':List D}:∀{ss:List Nat},ac δ ss=ac δ' ss→∀s∈ss,nth δ s=nth δ' s
 | t::ss,h,s,hs=>by
  simp only [ac,Hl] at h;rcases Hq.1 hs with rfl | hs
  ·exact h.1
  ·exact vv h.2 s hs
theorem mM (c:Cx) (ops:List Oper) (o:Oper):∃φ:List D→Option (List D),(∀δ k,bV c ops o δ k=(φ δ).bind fun l=>k (ae δ (wrS c o) l))∧∀δ δ',ac δ (rdS c ops o)=ac δ' (rdS c ops o)→φ δ=φ δ':=by
 unfold bV rdS wrS;cases hA:bs c o with
 | none=>exact⟨fun _=>none,fun _ _=>rfl,fun _ _ _=>rfl⟩
 | some A =>
  have hn:=vD hA;cases hgd:o.guard with
  | none =>
   cases A with
   | one rd d h =>
    refine⟨fun δ=>(h (ac δ rd)).map fun z=>[z],fun δ k=>?_,fun δ δ' e=>by simp only [FJ] at e;simp only [e]⟩
    simp only [bf];cases h (ac δ rd) with
    | none=>rfl
    | some z=>exact bC _ _ _ _
   | many rd hw cw fn =>
    refine⟨fun δ=>HO (hn (ac δ rd)),fun δ k=>?_,fun δ δ' e=>by simp only [FJ] at e;simp only [e]⟩
    simp only [bf,bC,iV];exact(HK (hn (ac δ rd))).1 _
  | some jp =>
   obtain⟨j,pol⟩:=jp;simp only;cases hg:tG ops j with
   | none=>exact⟨fun _=>none,fun _ _=>rfl,fun _ _ _=>rfl⟩
   | some g =>
    cases A with
    | one rd d h =>
     refine⟨fun δ=>(ah (pr (af c.K d)) (nth δ g) pol (h (ac δ rd))).map fun z=>[z],fun δ k=>?_,fun δ δ' e=>by simp only [ac,Hl] at e;simp only [e.1,e.2]⟩
     simp only [bf,cN];cases ah (pr (af c.K d)) (nth δ g) pol (h (ac δ rd)) with
     | none=>rfl
     | some z=>exact bC _ _ _ _
    | many rd hw cw fn =>
     refine⟨fun δ=>match nth δ g with
      | .v (.bool b)=>if b=pol then HO (hn (ac δ rd)) else some ((hw++cw).map (qB c.K o.dst δ))
      | .tup _=>some ((hw++cw).map (qB c.K o.dst δ))
      | _=>none,fun δ k=>?_,fun δ δ' e=>?_⟩
     ·simp only [bf,bC,cN,iV,ot]
      unfold dJ;split
      ·rename_i b hb
       rw [hb];simp only;split
       ·obtain⟨h1,h2⟩:=HK (hn (ac δ rd))
        rw [h1];cases hc:HO (hn (ac δ rd)) with
        | none=>rfl
        | some l =>
         have hl:=h2 l hc;simp only [Hm];rw [kL _ l 0 (by omega),Hs,kL _ l 0 (by omega),Hs]
       ·simp only [Hm]
        rw [kL _ _ 0 (by simp),Hs]
      ·rename_i l hb
       rw [hb];simp only [Hm];rw [kL _ _ 0 (by simp),Hs]
      ·rename_i hb hb'
       split
       ·rename_i b hb2;exact absurd hb2 (hb b)
       ·rename_i l hb2;exact absurd hb2 (hb' l)
       ·rfl
     ·simp only [ac,Hl,eW] at e
      have e2:=List.append_inj e.2 (by rw [jn,jn]);have e3:∀s∈hw++cw,nth δ s=nth δ' s:=vv (by rw [eW,eW];exact e2.2);have e4:(hw++cw).map (qB c.K o.dst δ)=(hw++cw).map (qB c.K o.dst δ'):=by
       refine List.map_congr_left fun s hs=>?_
       unfold qB;rw [e3 s hs]
      simp only [e.1,e2.1,e4]
def eV (c:Cx) (B:Nat) (X:Nat→Prop) (w0:World) (F0:Nat→Prop) (V:Nat→Value) (k:List D→Option Out) (r:Out) (a:Act) (w:World):Prop :=
 Next c B X w0 F0 k r a w∧IoV c V a
theorem tV (hT:okT P c.T=true) (hS:∀f S,cb c.S f=some S→ay c.G P f S) {ops:Array Oper} {o:Oper} (hok:BF c ops.toList o=true) {V:Nat→Value} (hI:Inv c B X w0 F0 F O a w δ) (hV:IoV c V a) {k:List D→Option Out} {r:Out}
  (hg:bV c ops.toList o δ k=some r) (Q:Exit→Act→World→Prop) :
  if Hy o (yielded ops a.tmps) then o.wp P a w (eV c B X w0 F0 V k r) Q else eV c B X w0 F0 V k r (a.put o.dst undef) w:=by
 unfold BF at hok;simp only [Hk] at hok;obtain⟨hdst,hgd⟩:=hok;have hio:∀s,nh (af c.K s)=true→o.dst≠some s:=fun s hs e=>by
  rw [e] at hdst;simp only at hdst;rw [hs] at hdst;cases hdst
 have lift:∀(A:Ac),bs c o=some A→bR c A δ k=some r→o.wp P a w (eV c B X w0 F0 V k r) Q:=by
  intro A hA hgo;have h:=Bz hT hS o A hA B X w0 F0 F O a w δ hI k r hgo Q;unfold Oper.wp at h ⊢;refine IC (P:=P) (o:=o) (a:=a) (w:=w) (K:=fun a' w'=>Next c B X w0 F0 k r a' w'∧∀s,o.dst≠some s→av a' s=av a s) (fun a' w' hn=>⟨hn.1,fun s hs=>(hn.2 s (hio s hs)).trans (hV s hs)⟩) ?_
  exact CC h
 have skipV:IoV c V (a.put o.dst undef):=by
  intro s hs;cases hd:o.dst with
  | none=>exact hV s hs
  | some d=>exact(bq (fun e=>hio s hs (by rw [hd,e]))).trans (hV s hs)
 unfold bV at hg;cases hA:bs c o with
 | none=>rw [hA] at hg;cases hg
 | some A =>
  rw [hA] at hg;simp only at hg;cases hgu:o.guard with
  | none =>
   rw [hgu] at hg;rw [if_pos (by simp [Hy,hgu])];refine lift A hA ?_
   cases A with
   | one rd d h =>
    simp only [bf] at hg;obtain⟨z,h1,h2⟩:=Hg.1 hg;rw [bC] at h2;simp only [bR,h1,Hm];exact h2
   | many rd hw cw fn =>
    simp only [bf,bC,iV] at hg;exact hg
  | some jp =>
   obtain⟨j,pol⟩:=jp;rw [hgu] at hg;rw [hgu,hA] at hgd;simp only [Hk] at hgd;simp only at hg;cases hgs:tG ops.toList j with
   | none=>rw [hgs] at hg;cases hg
   | some g =>
    rw [hgs] at hg hgd;simp only at hgd;obtain⟨hkd,hck⟩:=hgd;have hyield:∀b,nth δ g = .v (.bool b)→yielded ops a.tmps j=some b:=by
     intro b hb;obtain⟨lv,hk⟩:∃lv,af c.K g = .dat lv:=by
      split at hkd
      ·exact⟨_,‹_›⟩
      ·cases hkd
     have hr:=hI.dat hk;rw [hb] at hr;obtain⟨hv,_⟩:=aD hr;have hlt:g<a.tmps.size:=by
      rw [hI.la,←hI.ld];exact zF (by rw [hb];simp)
     have hg1:a.tmps[g]?=some (.bool b):=by
      rw [av,Hj,Ht hlt] at hv;rw [Ht hlt];simpa using hv
     unfold tG at hgs;rw [oR,Ih] at hgs;unfold yielded;cases ho:ops[j]? with
     | none=>rw [ho] at hgs;cases hgs
     | some oj =>
      rw [ho] at hgs;simp only at hgs;simp [hgs,hg1]
    have hyT:∀l,nth δ g = .tup l→yielded ops a.tmps j=none:=by
     intro l hb;obtain⟨lv,hk⟩:∃lv,af c.K g = .dat lv:=by
      split at hkd
      ·exact⟨_,‹_›⟩
      ·cases hkd
     have hr:=hI.dat hk;rw [hb] at hr;have hv:av a g = .tuple #[]:=(hr.rep (by simp)).2;unfold yielded;rw [tG,oR,Ih] at hgs;cases ho:ops[j]? with
     | none=>simp
     | some oj =>
      rw [ho] at hgs;simp only at hgs;simp only [Hm,hgs];cases hx:a.tmps[g]? with
      | none=>rfl
      | some x =>
       have:x = .tuple #[]:=by
        rw [←hv,av,Hj,hx];rfl
       subst this;rfl
    cases A with
    | one rd d h =>
     simp only [cN,bf] at hg;obtain⟨z,h1,h2⟩:=Hg.1 hg;rw [bC] at h2;unfold ah at h1;have skip:z=pr (af c.K d)→eV c B X w0 F0 V k r (a.put o.dst undef) w:=by
      rintro rfl;refine⟨⟨F,O,_,?_,h2⟩,skipV⟩
      simp only at hck;split at hck
      ·rename_i d' hd'
       rw [au] at hck;subst hck;rw [hd'];refine hI.put ?_
       unfold pr sy;split
       ·rename_i hkk
        refine .inr ?_
        rw [hkk];exact⟨rfl,rfl⟩
       ·exact .inl rfl
      ·cases hck
     split at h1
     case h_3=>cases h1
     case h_2 =>
      rename_i l hb;have hy:=hyT l hb;rw [if_neg (by simp [Hy,hgu,hy])];exact skip (by cases h1;rfl)
     rename_i b hb;have hy:=hyield b hb;split at h1
     ·rename_i hbp
      rw [if_pos (by simp [Hy,hgu,hy,hbp])];exact lift _ hA (by simp only [bR,h1,Hm];exact h2)
     ·rename_i hbp
      rw [if_neg (by simp [Hy,hgu,hy,hbp])];exact skip (by cases h1;rfl)
    | many rd hw cw fn =>
     simp only [cN,bf,ot,iV,bC] at hg;unfold dJ at hg;have skip:k (ae δ (hw++(cw++aH c.K hw)) (fit ((hw++cw).map (qB c.K o.dst δ)) 0 (hw++cw)))=some r→eV c B X w0 F0 V k r (a.put o.dst undef) w:=by
      intro hg;rw [kL _ _ 0 (by simp),Hs] at hg;simp only [Hk,HE] at hck;refine⟨⟨F,O,_,hI.pass_over hck.1 (fun d hd=>?_),hg⟩,skipV⟩
      have h3:=hck.2;rw [hd] at h3;simp only [fd,decide_eq_true_eq] at h3;exact h3
     split at hg
     case h_3=>cases hg
     case h_2 =>
      rename_i l hb;have hy:=hyT l hb;rw [if_neg (by simp [Hy,hgu,hy])];exact skip hg
     rename_i b hb;have hy:=hyield b hb;obtain⟨φ,hφ,hlen⟩:=vD hA (ac δ rd);split at hg
     ·rename_i hbp
      rw [if_pos (by simp [Hy,hgu,hy,hbp])];refine lift _ hA ?_
      simp only [bR];rw [hφ] at hg ⊢;cases hp:φ with
      | none=>rw [hp] at hg;cases hg
      | some l =>
       rw [hp] at hg;have hl:=hlen l hp;simp only [Hm] at hg ⊢;rw [kL _ l 0 (by omega),Hs,kL _ l 0 (by omega),Hs] at hg;exact hg
     ·rename_i hbp
      rw [if_neg (by simp [Hy,hgu,hy,hbp])];exact skip hg
theorem nS (hT:okT P c.T=true) (hS:∀f S,cb c.S f=some S→ay c.G P f S) {ops:Array Oper} {V:Nat→Value} {Q:Exit→Act→World→Prop} {k:List D→Option Out} {r:Out} (hQ:∀a w,eV c B X w0 F0 V k r a w→Q .normal a w) :
  ∀(l:List Oper),(∀o∈l,BF c ops.toList o=true)→∀(F:Nat→Prop) (O:Nat→Option (Nat × Nat)) (a:Act) (w:World) (δ:List D),Inv c B X w0 F0 F O a w δ→IoV c V a→gz c ops.toList l δ k=some r→wpList P ops Q l a w
 | [],_,F,O,a,w,δ,hI,hV,hg=>hQ a w ⟨⟨F,O,δ,hI,hg⟩,hV⟩
 | o::l,hok,F,O,a,w,δ,hI,hV,hg=>by
  simp only [gz] at hg;have h:=tV hT hS (hok o (by simp)) hI hV hg Q;have ih:∀a w,eV c B X w0 F0 V (fun δ'=>gz c ops.toList l δ' k) r a w→wpList P ops Q l a w:=by
   rintro a w ⟨⟨F',O',δ',hI',hk'⟩,hV'⟩;exact nS hT hS hQ l (fun o' ho'=>hok o' (by simp [ho'])) F' O' a w δ' hI' hV' hk'
  unfold wpList;split
  ·rename_i hw
   rw [if_pos hw] at h;exact .inl (IC ih h)
  ·rename_i hw
   rw [if_neg hw] at h;exact ih _ _ h
end
end Go.V

namespace Go.V
open Go.RowKit
set_option maxRecDepth 100000
def lM (x y:List Nat):Bool:=x.all fun s=>!kb s y
def yY (c:Cx) (ops:List Oper) (x y:Oper):Bool:=lM (rdS c ops x) (wrS c y)&&lM (wrS c x) (rdS c ops y)&&lM (wrS c x) (wrS c y)
def wm (c:Cx) (x y:Oper):Bool :=
 match x.guard,y.guard,x.op,x.dst,y.op,y.dst with
 | none,none,.move (.tmp t),some d,.store _ (.tmp q) (.tmp s),none =>
  (match af c.K t,af c.K d,af c.K q,af c.K s with
   | .own _ _ _,.via r,.ref r',.dat _=>Hp r t&&Hp r' t && !Hp q t&&lM (d::dI d c.K 0) [q,t,s]
   | _,_,_,_=>false)
 | _,_,_,_,_,_=>false
def Co (c:Cx) (x y:Oper):Bool :=
 match x.guard,y.guard,x.op,y.op,y.dst with
 | none,none,.call q,.move (.tmp t),some d =>
  (match af c.K t,af c.K d,q.callee with
   | .box _ _ _,.ref r',.value (.func f)=>(match cb c.S f with
    | some S=>(match fM c.K q.args.toList S.pm with
     | some ags=>Hp r' t&&kb t (cI ags)
     | none=>false)
    | none=>false)
   | _,_,_=>false)
 | _,_,_,_,_=>false
def zJ (c:Cx) (ops:List Oper) (x y:Oper):Bool:=Co c x y&&lM (rdS c ops x) (wrS c y)&&lM (wrS c x) (wrS c y)
def vN (c:Cx) (ops:List Oper) (x y:Oper):Bool:=yY c ops x y||wm c x y||wm c y x||zJ c ops x y
def bef (ops:List Oper) (j:Nat):Nat→Oper→Bool
 | 0,_=>false
 | n+1,o=>o.after.toList.any fun e=>HF .any e&&(Hp e.on j||match yf ops e.on with
  | some q=>bef ops j n q
  | none=>false)
def AP (c:Cx) (ops:List Oper):Bool :=
 ops.zipIdx.all fun p=>(p.1.after.toList.all fun e=>!HF .any e||decide (e.on<p.2))&&(ops.take p.2).zipIdx.all fun q=>vN c ops q.1 p.1||bef ops q.2 3 p.1
def jK (K:List Kd) (hl:List Nat):Bool :=
 hl.all fun s=>match af K s with
  | .via r=>kb r hl
  | .ref r=>kb r hl
  | _=>true
def cr (c:Cx):Nat→Code→Bool
 | _,.skip=>true
 | _,.region _ ops d=>ops.toList.all (BF c ops.toList)&&(!d||AP c ops.toList)
 | b,.seq x y=>cr c b x&&cr c b y
 | b,.cond x t e=>Nat.ble (cm c.K x) 2&&cr c b t&&cr c b e
 | _,.block id x=>cr c id x
 | b,.loop x=>cr c b x&&(match cb c.H b with
  | some (hl,xl)=>jK c.K hl&&jK c.K xl
  | none=>false)
 | _,.exit _=>true
 | _,.ret=>true
 | _,_=>false
section
variable {P:Program} {c:Cx} {B:Nat} {X:Nat→Prop} {w0:World} {F0 F:Nat→Prop} {O:Nat→Option (Nat × Nat)} {a:Act} {w:World} {δ:List D}
def yV (c:Cx) (δ:List D) (k:Out→Option Out):Option Out:=jL c δ c.res fun rs=>lE δ c.ios fun us=>usK us (k (.ret rs us))
def Bt (c:Cx) (B:Nat) (X:Nat→Prop) (w0:World) (F0:Nat→Prop) (V:Nat→Value) (k:Out→Option Out) (r:Out):Exit→Act→World→Prop
 | .normal,a,w=>eV c B X w0 F0 V (fun δ=>k (.nrm δ)) r a w
 | .exit id,a,w=>eV c B X w0 F0 V (fun δ=>k (.ext id δ)) r a w
 | .ret,a,w=>eV c B X w0 F0 V (fun δ=>yV c δ k) r a w
 | _,_,_=>False
theorem iL {x y:List Nat} (h:lM x y=true):∀s∈x,s∉y:=by
 intro s hs;unfold lM at h;rw [HE] at h;simpa [fd] using h s hs
theorem Ee {δ δ':List D} (h:δ.length=δ'.length) (hn:∀s,nth δ s=nth δ' s):δ=δ':=by
 refine List.ext_getElem h fun i h1 h2=>?_
 have:=hn i;rw [cP,cP,Hi,Hi,HD h1,HD h2] at this;exact this
theorem kP:∀(ss:List Nat) (l δ δ':List D),δ.length=δ'.length→∀s∈ss,nth (ae δ ss l) s=nth (ae δ' ss l) s
 | t::ss,l,δ,δ',hl,s,hs=>by
  cases l with
  | nil=>rw [gZ _ _ _ hs,gZ _ _ _ hs]
  | cons d l =>
   simp only [ae];by_cases hm:s∈ss
   ·exact kP ss l _ _ (by rw [dT,dT,hl]) s hm
   ·have:s=t:=by simpa [hm] using hs
    subst this;rw [am _ _ _ _ hm,am _ _ _ _ hm,aP,aP,hl]
theorem lc {A C:List Nat} {l m δ:List D} (h:∀s∈A,s∉C):ae (ae δ A l) C m=ae (ae δ C m) A l:=by
 refine Ee (by simp only [bY]) fun s=>?_
 by_cases hA:s∈A
 ·rw [am _ _ _ _ (h s hA)]
  exact kP A l _ _ (by rw [bY]) s hA
 ·by_cases hC:s∈C
  ·rw [am A _ _ _ hA]
   exact(kP C m _ _ (by rw [bY]) s hC)
  ·rw [am _ _ _ _ hC,am _ _ _ _ hA,am _ _ _ _ hA,am _ _ _ _ hC]
theorem wR {n:Nat} {o p x z:D} (h:stD n o p x=some z):o ≠ .bad∧z ≠ .bad:=by
 unfold stD at h;split at h
 ·split at h
  ·split at h
   ·cases h;exact⟨by simp,by simp⟩
   ·cases h
  ·cases h
 ·split at h
  ·cases h;exact⟨by simp,by simp⟩
  ·cases h
 ·cases h
theorem sK (chk:Bool) (n:Nat) (b p y:D):∃E:Option D,(∀k:D→Option Out,stK chk n b p y k=E.bind k)∧∀z,E=some z→b ≠ .bad∧z ≠ .bad:=by
 cases chk
 ·exact⟨stD n b p y,fun _=>rfl,fun z hz=>wR hz⟩
 ·refine⟨(bc y).bind fun y=>stD n b p y,fun k=>by simp only [stK,HI],fun z hz=>?_⟩
  obtain⟨y',_,h⟩:=Hg.1 hz;exact wR h
theorem An {ops:List Oper} {x y:Oper} (h:wm c x y=true) (δ:List D) (k:List D→Option Out):bV c ops x δ (fun δ=>bV c ops y δ k)=bV c ops y δ (fun δ=>bV c ops x δ k):=by
 unfold wm at h;split at h
 case h_2=>cases h
 rename_i t d ty q s hxg hyg hxo hxd hyo hyd;split at h
 case h_2=>cases h
 rename_i z lv io r0 r lv' hkt hkd hkq hks;simp only [Hk,Hz] at h;obtain⟨⟨⟨h1,h2⟩,h3⟩,h4⟩:=h;have e1:=au.1 h1;have e2:=au.1 h2;subst e1;subst e2;have hx:∀(δ:List D) (k:List D→Option Out),bV c ops x δ k=(aa (nth δ r) (.ref 0 0)).bind fun z=>k (ae δ (d::dI d c.K 0) [z]):=by
  intro δ k;have hA:bs c x=some (.one [r] d fun is=>(dr fun x=>aa x (.ref 0 0)) is):=by
   simp only [bs,hxo,hxd,wZ,hkt,hkd,Ii]
  simp only [bV,hA,hxg];rw [bf];show(aa (nth δ r) (.ref 0 0)).bind (fun z=>cZ δ (d::dI d c.K 0) [z] k)=_
  exact congrArg _ (funext fun z=>bC _ _ _ _)
 have hy:∃E:D→D→D→Option D,(∀(δ:List D) (k:List D→Option Out),bV c ops y δ k=(E (nth δ r) (nth δ q) (nth δ s)).bind fun b=>k (ae δ [r] [b]))∧∀a b e z,E a b e=some z→a ≠ .bad∧z ≠ .bad:=by
  cases hT:cb c.T ty with
  | none =>
   refine⟨fun _ _ _=>none,fun δ k=>?_,fun _ _ _ _ h=>by cases h⟩
   have hA:bs c y=none:=by simp only [bs,hyo,hyd,cO,hT]
   simp only [bV,hA];rfl
  | some i =>
   have act:∀chk:Bool,bs c y=some (.many [q,r,s] [] [r] fun is k=>goP q r is fun b p is=>cH is 0 fun y=>stK chk i.n b p y fun b=>k [b]) →
     ∃E:D→D→D→Option D,(∀(δ:List D) (k:List D→Option Out),bV c ops y δ k=(E (nth δ r) (nth δ q) (nth δ s)).bind fun b=>k (ae δ [r] [b]))∧∀a b e z,E a b e=some z→a ≠ .bad∧z ≠ .bad:=by
    intro chk hA;refine⟨fun a b e=>HO (sK chk i.n a b e),fun δ k=>?_,fun a b e z h=>(HK (sK chk i.n a b e)).2 z h⟩
    simp only [bV,hA,hyg];rw [bf];simp only [goP,h3,ac];show stK chk i.n (nth δ r) (nth δ q) (nth δ s) (fun b=>cZ δ [r] [b] k)=_
    rw [(HK (sK chk i.n (nth δ r) (nth δ q) (nth δ s))).1];exact congrArg _ (funext fun b=>bC _ _ _ _)
   have hst:bs c y=xL c i q r (eh c.K r) (.tmp s):=by
    simp only [bs,hyo,hyd,cO,hT,CX,hkq]
   unfold xL at hst;simp only [hks] at hst;split at hst
   ·exact act false (by rw [hst];simp only [rdP,h3])
   ·exact act true (by rw [hst];simp only [rdP,h3])
   ·refine⟨fun _ _ _=>none,fun δ k=>?_,fun _ _ _ _ h=>by cases h⟩
    simp only [bV,hst];rfl
 obtain⟨E,hE,hEl⟩:=hy;have ap:=fun s hs=>iL h4 s hs
 have hnq:∀m:List D,∀v∈[q,r,s],nth (ae δ (d::dI d c.K 0) m) v=nth δ v:=fun m v hv=>am _ _ _ _ fun hm=>ap v hm hv
 simp only [hx,hE,hnq _ q (by simp),hnq _ r (by simp),hnq _ s (by simp)];cases hb:E (nth δ r) (nth δ q) (nth δ s) with
 | none=>cases aa (nth δ r) (.ref 0 0)<;>rfl
 | some b =>
  obtain⟨g1,g2⟩:=hEl _ _ _ _ hb;have hlive:∀a:D,a ≠ .bad→aa a (.ref 0 0)=some (.ref 0 0):=fun a ha=>by cases a<;>first | exact absurd rfl ha | rfl
  have hr:nth (ae δ [r] [b]) r=b:=by
   simp only [ae];rw [aP,if_pos];by_cases hl:r<δ.length
   ·exact hl
   ·exfalso
    rw [cP,Hi,Hr (by omega)] at g1;exact g1 rfl
  simp only [hlive _ g1,hr,hlive _ g2,Hm];rw [lc (A:=d::dI d c.K 0) (C:=[r])];intro v hv hv';exact ap v hv (by simp at hv';simp [hv'])
theorem yS {ops:List Oper} {x y:Oper} (h:yY c ops x y=true) (δ:List D) (k:List D→Option Out):bV c ops x δ (fun δ=>bV c ops y δ k)=bV c ops y δ (fun δ=>bV c ops x δ k):=by
 unfold yY at h;simp only [Hk] at h;obtain⟨⟨h1,h2⟩,h3⟩:=h;obtain⟨φ,hφ,hφr⟩:=mM c ops x;obtain⟨ψ,hψ,hψr⟩:=mM c ops y;have e1:∀l,ψ (ae δ (wrS c x) l)=ψ δ:=fun l=>hψr _ _ (iF fun s hs=>am _ _ _ _ fun hm=>iL h2 s hm hs)
 have e2:∀l,φ (ae δ (wrS c y) l)=φ δ:=fun l=>hφr _ _ (iF fun s hs=>am _ _ _ _ (iL h1 s hs))
 simp only [hφ,hψ,e1,e2];cases φ δ with
 | none=>cases ψ δ<;>rfl
 | some l =>
  cases ψ δ with
  | none=>rfl
  | some m =>
   simp only [Hm];rw [lc (iL h3)]
theorem mF {δ:List D}:∀(ags:List Ag) (ds:List D),bz ags (ac δ (dq ags))=some ds→∀t∈cI ags,nth δ t ≠ .bad
 | [],_,_,t,ht=>by simp [cI] at ht
 | .d x chk::l,ds,h,t,ht=>by
  have ih:=mF (δ:=δ) l;simp only [cI] at ht;cases x with
  | tmp u =>
   simp only [ac] at h;cases chk
   ·simp only [bz] at h
    obtain⟨z,hz,_⟩:=Hh.1 h;exact ih z hz t ht
   ·simp only [bz] at h
    obtain⟨i,_,h⟩:=Hg.1 h;obtain⟨z,hz,_⟩:=Hh.1 h;exact ih z hz t ht
  | const v =>
   simp only [bz] at h;obtain⟨z,hz,_⟩:=Hh.1 h;exact ih z hz t ht
  | func f =>
   simp only [bz] at h;obtain⟨z,hz,_⟩:=Hh.1 h;exact ih z hz t ht
  | global g=>simp [bz] at h
 | .bor u r::l,ds,h,t,ht=>by
  have ih:=mF (δ:=δ) l;simp only [cI] at ht;cases hb:Hp u r
  ·simp only [dq,hb,ac,bz] at h
   obtain⟨i,_,h⟩:=Hg.1 h;obtain⟨z,hz,_⟩:=Hh.1 h;exact ih z hz t ht
  ·simp only [dq,hb,ac,bz] at h
   obtain⟨z,hz,_⟩:=Hh.1 h;exact ih z hz t ht
 | .io u r::l,ds,h,t,ht=>by
  have ih:=mF (δ:=δ) l;simp only [cI,Hq] at ht;have lv:∀x y z:D,aa x y=some z→x ≠ .bad:=fun x y z hz e=>by subst e;cases hz
  cases hb:Hp u r
  ·simp only [dq,hb,ac,bz] at h
   obtain⟨i,hi,h⟩:=Hg.1 h;obtain⟨i',hi',h⟩:=Hg.1 h;obtain⟨z,hz,_⟩:=Hh.1 h;have e:i=nth δ r:=by
    unfold br at hi;split at hi
    ·exact(IG hi).symm
    ·cases hi
   rcases ht with rfl | ht
   ·rw [←e];exact lv _ _ _ hi'
   ·exact ih z hz t ht
  ·simp only [dq,hb,ac,bz] at h
   obtain⟨i',hi',h⟩:=Hg.1 h;obtain⟨z,hz,_⟩:=Hh.1 h;have e:=au.1 hb;rcases ht with rfl | ht
   ·rw [←e];exact lv _ _ _ hi'
   ·exact ih z hz t ht
theorem Fc {ops:List Oper} {x y:Oper} (h:zJ c ops x y=true) (δ:List D) (k:List D→Option Out) (r:Out) (hs:bV c ops x δ (fun δ=>bV c ops y δ k)=some r):bV c ops y δ (fun δ=>bV c ops x δ k)=some r:=by
 unfold zJ at h;simp only [Hk] at h;obtain⟨⟨h1,h2⟩,h3⟩:=h;unfold Co at h1;split at h1
 case h_2=>cases h1
 rename_i q t d hxg hyg hxo hyo hyd;split at h1
 case h_2=>cases h1
 rename_i n lv io r' f hkt hkd hqc;split at h1
 case h_2=>cases h1
 rename_i S hS;split at h1
 case h_2=>cases h1
 rename_i ags hags;simp only [Hk] at h1;obtain⟨h4,h5⟩:=h1;have e4:=au.1 h4;subst e4;have hyA:bs c y=some (.one [r'] d fun is=>(dr fun x=>aa x (.ref 0 0)) is):=by
  simp only [bs,hyo,hyd,wZ,hkt,hkd,Ii]
 have hw:wrS c y=d::dI d c.K 0:=by
  unfold wrS;rw [hyA]
 have hy:∀(δ:List D) (k:List D→Option Out),bV c ops y δ k=(aa (nth δ r') (.ref 0 0)).bind fun z=>k (ae δ (d::dI d c.K 0) [z]):=by
  intro δ k;simp only [bV,hyA,hyg];rw [bf];show(aa (nth δ r') (.ref 0 0)).bind (fun z=>cZ δ (d::dI d c.K 0) [z] k)=_
  exact congrArg _ (funext fun z=>bC _ _ _ _)
 have live:∀(δ:List D) (K:List D→Option Out) (r:Out),bV c ops x δ K=some r→nth δ r' ≠ .bad:=by
  intro δ K r hr;have hm:r'∈cI ags:=by simpa [fd] using h5
  have fin:∀K':List D→Option Out,eR [] ags (ac δ (dq ags)) K'=some r→nth δ r' ≠ .bad:=by
   intro K' h;rw [fb] at h;obtain⟨ds,hds,_⟩:=Hg.1 h;exact mF ags ds hds r' hm
  have hA:bs c x=Bh c x.dst q:=by simp only [bs,hxo]
  have hcl:∀A,bs c x=some A→oa c x.dst S q.args.toList=some A:=by
   intro A h;rw [hA] at h;unfold Bh at h;rw [hqc] at h;simp only [hS] at h;exact h
  cases hAc:bs c x with
  | none=>simp only [bV,hAc] at hr;cases hr
  | some A =>
   have hA2:=hcl A hAc;unfold oa at hA2;simp only [hags] at hA2;simp only [bV,hAc,hxg] at hr
   repeat' split at hA2
   all_goals first
    | (cases hA2;done)
    | (cases hA2;simp only [bf] at hr;exact fin _ hr)
    | skip
 have l1:=live δ _ r hs;obtain⟨φ,hφ,hφr⟩:=mM c ops x;rw [hw] at h2 h3;have e2:∀l,φ (ae δ (d::dI d c.K 0) l)=φ δ:=fun l=>hφr _ _ (iF fun s hs=>am _ _ _ _ (iL h2 s hs))
 have hlive:∀a:D,a ≠ .bad→aa a (.ref 0 0)=some (.ref 0 0):=fun a ha=>by cases a<;>first | exact absurd rfl ha | rfl
 simp only [hφ,hy,e2] at hs ⊢;rw [hlive _ l1];cases hp:φ δ with
 | none=>rw [hp] at hs;cases hs
 | some l =>
  rw [hp] at hs;simp only [Hm] at hs ⊢;obtain⟨z,hz,hk⟩:=Hg.1 hs;have ez:z = .ref 0 0:=by
   unfold aa at hz;split at hz
   ·cases hz
   ·exact(IG hz).symm
  subst ez;rw [lc (iL h3)] at hk;exact hk
theorem Ca {ops:List Oper} {x y:Oper} (h:vN c ops x y=true) (δ:List D) (k:List D→Option Out) (r:Out) (hs:bV c ops x δ (fun δ=>bV c ops y δ k)=some r):bV c ops y δ (fun δ=>bV c ops x δ k)=some r:=by
 unfold vN at h;simp only [HV] at h;rcases h with ((h | h) | h) | h
 ·exact(yS h δ k).symm.trans hs
 ·exact(An h δ k).symm.trans hs
 ·exact(An h δ k).trans hs
 ·exact Fc h δ k r hs
theorem BA {ops:List Oper} {o:Oper} {k k':List D→Option Out} {δ:List D} {r:Out} (hk:∀δ,k δ=some r→k' δ=some r) (h:bV c ops o δ k=some r):bV c ops o δ k'=some r:=by
 obtain⟨φ,hφ,_⟩:=mM c ops o;rw [hφ] at h ⊢;obtain⟨l,hl,h⟩:=Hg.1 h;rw [hl];exact hk _ h
theorem oA {ops:List Oper} {o:Oper} {k:List D→Option Out} {r:Out}:∀(pre post:List Oper) (δ:List D),(∀q∈pre,vN c ops q o=true)→gz c ops (pre++o::post) δ k=some r→bV c ops o δ (fun δ=>gz c ops (pre++post) δ k)=some r
 | [],post,δ,_,h=>h
 | q::pre,post,δ,h,hr=>by
  simp only [Ie,gz] at hr ⊢;exact Ca (h q (by simp)) δ _ r (BA (fun δ' h'=>oA pre post δ' (fun q' hq'=>h q' (by simp [hq'])) h') hr)
def left (ops:List Oper) (listed:Array Bool):List Oper:=(ops.zipIdx.filter fun p=>!listed.getD p.2 true).map (·.1)
theorem Inv.drawn (h:Inv c B X w0 F0 F O a w δ) (n:Nat):Inv c B X w0 F0 F O a {w with drawn:=n} δ :=
 h.step (w':={w with drawn:=n}) (fun _=>False) rfl rfl rfl (fun _ _=>⟨rfl,.inl rfl⟩) (fun _ hb=>hb) (fun _ _=>rfl) (fun _ _ hp _=>⟨hp,rfl⟩) (fun _ _ _ hv hb=>⟨rfl,(h.root hv hb).2⟩) (fun _ hf=>hf.elim) h.fl h.ol (fun _ hb=>.inl hb) (IE _) rfl rfl rfl (fun _ _ _=>rfl)
theorem tL {l:List Oper} {i:Nat} {o:Oper} (h:l[i]?=some o):l.zipIdx=(l.take i).zipIdx++(o,i)::(l.drop (i+1)).zipIdx (i+1):=by
 have hi:i<l.length:=(HA.1 h).1;have e:l=l.take i++(o::l.drop (i+1)):=by
  have h1:l[i]=o:=(HA.1 h).2
  conv=>lhs;rw [←Iw i l,HU hi,h1]
 conv=>lhs;rw [e]
 rw [List.zipIdx_append,List.zipIdx_cons];have:(l.take i).length=i:=by rw [Ip];omega
 simp [this]
theorem tH {l:List Oper} {listed:Array Bool} {i:Nat} {o:Oper} (h:l[i]?=some o) (hn:listed.getD i true=false) (hsz:i<listed.size) :
  left l listed=(((l.take i).zipIdx.filter fun p=>!listed.getD p.2 true).map (·.1))++o::((((l.drop (i+1)).zipIdx (i+1)).filter fun p=>!listed.getD p.2 true).map (·.1)) ∧
  left l (listed.setIfInBounds i true)=(((l.take i).zipIdx.filter fun p=>!listed.getD p.2 true).map (·.1))++((((l.drop (i+1)).zipIdx (i+1)).filter fun p=>!listed.getD p.2 true).map (·.1)):=by
 have hne:∀j,j≠i→(listed.setIfInBounds i true).getD j true=listed.getD j true:=fun j hj=>by
  simp only [Hj,HL,Io hj,if_false]
 have hi:(listed.setIfInBounds i true).getD i true=true:=by
  simp [Hj,hsz]
 unfold left;rw [tL h];simp only [List.filter_append,List.map_append,List.filter_cons,hn,hi,IJ,Bool.not_true,if_true,Il,if_false,Hn];refine⟨trivial,?_⟩
 congr 2
 ·refine ID fun p hp=>?_
  have:=HC hp;rw [Ip] at this;rw [hne p.2 (by omega)]
 ·refine ID fun p hp=>?_
  have:=List.le_snd_of_mem_zipIdx hp;rw [hne p.2 (by omega)]
def Cl (ops:Array Oper) (listed:Array Bool):Prop:=∀(m:Nat) (q:Oper),ops[m]?=some q→listed.getD m false=true→∀e∈q.after,HF .any e=true→listed.getD e.on false=true
theorem sX {ops:Array Oper} {listed:Array Bool} (hc:Cl ops listed) {j:Nat}:∀(n:Nat) (o:Oper),(∀e∈o.after,HF .any e=true→listed.getD e.on false=true)→bef ops.toList j n o=true→listed.getD j false=true
 | 0,_,_,h=>by simp [bef] at h
 | n+1,o,ho,h=>by
  simp only [bef,List.any_eq_true,Hk,HV] at h;obtain⟨e,he,hb,h⟩:=h;have hl:=ho e (by simpa using he) hb;rcases h with h | h
  ·rw [←au.1 h]
   exact hl
  ·split at h
   ·rename_i q hq
    rw [oR,Ih] at hq;exact sX hc n q (hc e.on q hq hl) h
   ·cases h
theorem sL {listed:Array Bool} {i x:Nat} (h:listed.getD x false=true):(listed.setIfInBounds i true).getD x false=true:=by
 rw [Hj] at h ⊢;rw [HL];split
 ·split<;>rename_i h1 h2
  ·rfl
  ·subst h1
   rw [Array.getElem?_eq_none (by omega)] at h;cases h
 ·exact h
theorem Gq {ops:Array Oper} {listed:Array Bool} (hc:Cl ops listed) {i:Nat} {o:Oper} (ho:ops[i]?=some o) (hed:∀e∈o.after,HF .any e=true→listed.getD e.on false=true):Cl ops (listed.setIfInBounds i true):=by
 intro m q hq hm e he hb;by_cases hmi:m=i
 ·subst hmi
  rw [ho] at hq;cases hq;exact sL (hed e he hb)
 ·refine sL (hc m q hq ?_ e he hb)
  rw [Hj,HL,if_neg (fun e=>hmi e.symm)] at hm;rw [Hj];exact hm
theorem zK (hT:okT P c.T=true) (hS:∀f S,cb c.S f=some S→ay c.G P f S) {ops:Array Oper} (hany:AP c ops.toList=true) {V:Nat→Value} {Q:Exit→Act→World→Prop} {k:List D→Option Out} {r:Out} (hQ:∀a w,eV c B X w0 F0 V k r a w→Q .normal a w)
  (hok:∀o∈ops.toList,BF c ops.toList o=true) (hI:Inv c B X w0 F0 F O a w δ) (hV:IoV c V a) (hg:gz c ops.toList ops.toList δ k=some r):wpAny P .any ops Q ops.size (IH ops.size false) a {w with drawn:=w.drawn+1}:=by
 have hedge:∀(i:Nat) (o:Oper),ops[i]?=some o→(∀e∈o.after,HF .any e=true→e.on<i)∧∀(j:Nat) (q:Oper),j<i→ops[j]?=some q→bef ops.toList j 3 o=true∨vN c ops.toList q o=true:=by
  intro i o ho;have h0:=hany;unfold AP at h0;rw [HE] at h0;have hl:ops.toList[i]?=some o:=by simpa using ho
  have h1:=h0 (o,i) (by rw [tL hl];simp);simp only [Hk,HV,Hz,decide_eq_true_eq,HE] at h1;refine⟨fun e he hb=>(h1.1 e (by simpa using he)).resolve_left (by rw [hb];simp),fun j q hj hq=>?_⟩
  have hq':(ops.toList.take i)[j]?=some q:=by
   rw [Iq hj];simpa using hq
  exact(h1.2 (q,j) (by rw [tL hq'];simp)).symm
 have main:∀(fuel:Nat) (listed:Array Bool) (F:Nat→Prop) (O:Nat→Option (Nat × Nat)) (a:Act) (w:World) (δ:List D),listed.size=ops.size→Cl ops listed→(left ops.toList listed).length≤fuel→Inv c B X w0 F0 F O a w δ→IoV c V a →
   gz c ops.toList (left ops.toList listed) δ k=some r→wpAny P .any ops Q fuel listed a w:=by
  intro fuel;have ready_mem:∀(listed:Array Bool) (i:Nat),i∈Ia .any ops listed→∃o,ops[i]?=some o∧listed.getD i true=false∧∀e∈o.after,HF .any e=true→listed.getD e.on false=true:=by
   intro listed i hi;unfold Ia at hi;rw [Iv] at hi;obtain⟨hr,hi⟩:=hi;simp only [Hk,Hz] at hi;cases ho:ops[i]? with
   | none=>rw [ho] at hi;simp at hi
   | some o =>
    rw [ho] at hi;simp only [II,Ir,Array.all_eq_true_iff_forall_mem,HV,Hz] at hi;exact⟨o,rfl,hi.1,fun e he hb=>(hi.2 e he).resolve_left (by rw [hb];simp)⟩
  have empty:∀(listed:Array Bool),listed.size=ops.size→Ia .any ops listed=[]→left ops.toList listed=[]:=by
   intro listed hsz hr;have all:∀i,i<ops.size→listed.getD i true=true:=by
    intro i;induction i using Nat.strongRecOn with
    | _ i ih =>
     intro hi;cases hl:listed.getD i true with
     | true=>rfl
     | false =>
      exfalso;have ho:ops[i]?=some ops[i]:=Ht hi;have hmem:i∈Ia .any ops listed:=by
       unfold Ia;rw [Iv];refine⟨List.mem_range.2 hi,?_⟩
       rw [hl,ho];simp only [IJ,Bool.true_and,II,Ir,Array.all_eq_true_iff_forall_mem,HV];intro e he;cases hb:HF .any e
       ·exact .inl rfl
       right
       have h1:=(hedge i _ ho).1 e he hb;have h2:=ih e.on h1 (by omega);have h3:e.on<listed.size:=by omega
       rw [Hj,Ht h3] at h2 ⊢;exact h2
      rw [hr] at hmem;cases hmem
   unfold left;rw [List.map_eq_nil_iff,List.filter_eq_nil_iff];rintro⟨o,i⟩ hp;have hi:=HC hp;simp only [Hz,Bool.not_eq_false];exact all i (by simpa using hi)
  induction fuel with
  | zero =>
   intro listed F O a w δ hsz hcl hl hI hV hg;have h0:left ops.toList listed=[]:=Ik (by omega);rw [h0] at hg;refine⟨?_,hQ a w ⟨⟨F,O,δ,hI,hg⟩,hV⟩⟩
   cases hr:Ia .any ops listed with
   | nil=>rfl
   | cons i rest =>
    exfalso;obtain⟨o,ho,hn,_⟩:=ready_mem listed i (by rw [hr];simp);have hi:i<ops.size:=(Hx.1 ho).1;have:=(tH (l:=ops.toList) (by simpa using ho) hn (by omega)).1;rw [h0] at this;simp at this
  | succ fuel ihf =>
   intro listed F O a w δ hsz hcl hl hI hV hg;refine⟨fun hr=>?_,fun i hi=>?_⟩
   ·rw [empty listed hsz hr] at hg
    exact hQ a w ⟨⟨F,O,δ,hI,hg⟩,hV⟩
   ·obtain⟨o,ho,hn,hed⟩:=ready_mem listed i hi
    have hilt:i<ops.size:=(Hx.1 ho).1;obtain⟨e1,e2⟩:=tH (l:=ops.toList) (by simpa using ho) hn (by omega);rw [e1] at hg hl;have hfront:∀q∈(((ops.toList.take i).zipIdx.filter fun p=>!listed.getD p.2 true).map (·.1)),vN c ops.toList q o=true:=by
     intro q hq
     ·simp only [List.mem_map,Iv] at hq
      obtain⟨⟨q',j⟩,⟨hm1,hm2⟩,rfl⟩:=hq;have hj:=HC hm1;rw [Ip] at hj;have hget:ops[j]?=some q':=by
       have:=List.mem_zipIdx_iff_getElem?.1 hm1;simp only at this;rw [Iq (by omega)] at this;simpa using this
      rcases(hedge i o ho).2 j q' (by omega) hget with hbf | h
      ·exfalso
       have h3:=sX hcl 3 o hed hbf;simp only [Hz] at hm2;have hjlt:j<listed.size:=by omega
       rw [Hj,Ht hjlt] at h3 hm2;simp only [Ir] at h3 hm2;rw [h3] at hm2;cases hm2
      ·exact h
    ·replace hg:=oA _ _ _ hfront hg
     rw [←e2] at hg;have h:=tV hT hS (ops:=ops) (hok o (by simpa using Array.mem_of_getElem? ho)) hI hV hg Q;have ih:∀a w,eV c B X w0 F0 V (fun δ'=>gz c ops.toList (left ops.toList (listed.setIfInBounds i true)) δ' k) r a w→wpAny P .any ops Q fuel (listed.setIfInBounds i true) a w:=by
      rintro a w ⟨⟨F',O',δ',hI',hk'⟩,hV'⟩;exact ihf _ F' O' a w δ' (by simpa using hsz) (Gq hcl ho hed) (by rw [e2];simp only [List.length_append,Ic] at hl ⊢;omega) hI' hV' hk'
     unfold wpOp;rw [ho];simp only;split
     ·rename_i hw
      rw [if_pos hw] at h;exact .inl (IC ih h)
     ·rename_i hw
      rw [if_neg hw] at h;exact ih _ _ h
 have hleft:left ops.toList (IH ops.size false)=ops.toList:=by
  unfold left;rw [List.filter_eq_self.2]
  ·simp
  ·rintro⟨o,i⟩ hp
   have hi:=HC hp;have hi':i<ops.size:=by simpa using hi
   simp [Hj,hi']
 refine main ops.size _ F O a _ δ (by simp) (fun m q _ hm=>?_) ?_ (hI.drawn _) hV ?_
 ·rw [Hj,Array.getElem?_replicate] at hm
  split at hm<;>cases hm
 ·rw [hleft];simp
 ·rw [hleft];exact hg
theorem vz (hT:okT P c.T=true) (hS:∀f S,cb c.S f=some S→ay c.G P f S) {ops:Array Oper} (hany:AP c ops.toList=true) (hm:P.follows .mixedOrders=true) {V:Nat→Value} {Q:Exit→Act→World→Prop} {k:List D→Option Out} {r:Out} (hQ:∀a w,eV c B X w0 F0 V k r a w→Q .normal a w)
  (hok:∀o∈ops.toList,BF c ops.toList o=true) (hI:Inv c B X w0 F0 F O a w δ) (hV:IoV c V a) (hg:gz c ops.toList ops.toList δ k=some r) (id:Nat):(Code.region id ops true).wp P Q a w:=wp_region_any hm (zK hT hS hany hQ hok hI hV hg)
theorem gb:∀(l:List ResultVar) (δ:List D) (k:List D→Option Out),jL c δ l k=(jL c δ l fun rs=>some (.nrm rs)).bind fun o=>match o with
  | .nrm rs=>k rs
  | _=>none
 | [],δ,k=>rfl
 | .tmp t::l,δ,k=>by
  simp only [jL,cN];rw [gb l δ fun rs=>k (nth δ t::rs),gb l δ fun rs=>some (.nrm (nth δ t::rs))];cases h:jL c δ l fun rs=>some (.nrm rs) with
  | none=>rfl
  | some o=>cases o<;>rfl
 | .cell s t::l,δ,k=>by
  simp only [jL];split
  ·rename_i i _
   simp only [cN];cases oZ i.agg i.n 0 (nth δ s) with
   | none=>rfl
   | some y =>
    simp only [Hm];rw [gb l δ fun rs=>k (y::rs),gb l δ fun rs=>some (.nrm (y::rs))];cases h:jL c δ l fun rs=>some (.nrm rs) with
    | none=>rfl
    | some o=>cases o<;>rfl
  ·rfl
theorem oq:∀{us:List D} {o:Option Out} {r:Out},usK us o=some r↔(∀u∈us,u ≠ .bad)∧o=some r
 | [],o,r=>by simp [usK]
 | u::us,o,r=>by
  simp only [usK,Hg,Hq,forall_eq_or_imp];constructor
  ·rintro⟨y,h1,h2⟩
   obtain⟨h3,h4⟩:=oq.1 h2;exact⟨⟨(aL h1).1,h3⟩,h4⟩
  ·rintro⟨⟨h1,h2⟩,h3⟩
   refine⟨u,?_,oq.2 ⟨h2,h3⟩⟩
   cases u<;>first | rfl | exact absurd rfl h1
theorem gO {δ:List D} {k:Out→Option Out} {r:Out} (h:yV c δ k=some r):∃rs,jL c δ c.res (fun rs=>some (.nrm rs))=some (.nrm rs)∧(∀u∈ac δ c.ios,u ≠ .bad)∧k (.ret rs (ac δ c.ios))=some r:=by
 unfold yV at h;simp only [bf] at h;rw [gb] at h;cases hh:jL c δ c.res fun rs=>some (.nrm rs) with
 | none=>rw [hh] at h;cases h
 | some o =>
  rw [hh] at h;cases o with
  | nrm rs =>
   simp only [Hm] at h;obtain⟨h1,h2⟩:=oq.1 h;exact⟨rs,rfl,h1,h2⟩
  | ext i δ=>cases h
  | ret x y=>cases h
theorem rU {δ:List D} {k:Out→Option Out} {r:Out} {rs:List D} (h1:jL c δ c.res (fun rs=>some (.nrm rs))=some (.nrm rs)) (h2:∀u∈ac δ c.ios,u ≠ .bad) (hk:k (.ret rs (ac δ c.ios))=some r):yV c δ k=some r:=by
 unfold yV;simp only [bf];rw [gb,h1];simp only [Hm];exact oq.2 ⟨h2,hk⟩
def carry (n:Nat) (hl:List Nat) (δ:List D):List D:=ae (tN n) hl (ac δ hl)
theorem pd:∀n,tN n=List.replicate n .bad
 | 0=>rfl
 | n+1=>by simp [tN,pd n,List.replicate_succ]
theorem CI (n s:Nat):nth (tN n) s = .bad:=by
 rw [cP,pd,Hi,List.getElem?_replicate];split<;>rfl
theorem jl (n:Nat) (hl:List Nat) (δ:List D) (k:List D→Option Out):fP n hl (ac δ hl) k=k (carry n hl δ):=by
 unfold fP carry;rw [bC,kL _ _ 0 (by rw [jn];omega),Hs]
theorem kO (δ:List D):∀(l:List Nat),ac δ l=l.map (nth δ)
 | []=>rfl
 | _::l=>by simp [ac,kO δ l]
theorem pT {hl:List Nat} {δ:List D} (s:Nat):nth (carry δ.length hl δ) s=if s∈hl then nth δ s else .bad:=by
 unfold carry;rw [kO,jG];have hlen:(tN δ.length).length=δ.length:=by rw [pd];simp
 rw [hlen,CI];split
 ·split
  ·rfl
  ·rename_i h
   by_cases hb:nth δ s = .bad
   ·exact hb.symm
   ·exact absurd (zF hb) h
 ·rfl
theorem Inv.carry (h:Inv c B X w0 F0 F O a w δ) {hl:List Nat} (hk:jK c.K hl=true):Inv c B X w0 F0 F O a w (carry (gy c.K) hl δ):=by
 have e:gy c.K=δ.length:=by rw [iB,h.ld]
 rw [e];refine h.forget ?_ (fun s=>?_) (fun s r hv hb=>?_)
 ·unfold V.carry;rw [bY,pd];simp
 ·rw [pT]
  split
  ·exact .inl rfl
  ·exact .inr rfl
 ·rw [pT] at hb
  split at hb
  case isFalse=>exact absurd rfl hb
  rename_i hs;unfold jK at hk;rw [HE] at hk;have hks:=hk s hs;have hr:r∈hl:=by
   rcases hv with e | e<;>rw [e] at hks<;>simpa [fd] using hks
  rw [pT,if_pos hr];exact(h.root hv hb).2
theorem gm {V:Nat→Value} {k k':List D→Option Out} {r r':Out} (h:eV c B X w0 F0 V k r a w) (hk:∀δ F O,Inv c B X w0 F0 F O a w δ→k δ=some r→k' δ=some r'):eV c B X w0 F0 V k' r' a w:=by
 obtain⟨⟨F,O,δ,h1,h2⟩,h3⟩:=h;exact⟨⟨F,O,δ,h1,hk δ F O h1 h2⟩,h3⟩
theorem qZ {V:Nat→Value} {b:Code} {bid:Nat} {hl xl:List Nat} (h1:jK c.K hl=true) (h2:jK c.K xl=true)
  (ih:∀(F:Nat→Prop) (O:Nat→Option (Nat × Nat)) (a:Act) (w:World) (δ:List D),Inv c B X w0 F0 F O a w δ→IoV c V a→∀(k:Out→Option Out) (r:Out),den c bid b δ k=some r→∀Q,(∀e a w,Bt c B X w0 F0 V k r e a w→Q e a w)→b.wp P Q a w)
  {k:Out→Option Out} {r:Out} {Q:Exit→Act→World→Prop} (hQ:∀e a w,Bt c B X w0 F0 V k r e a w→Q e a w) {o:Out}
  (ho:cv o (fun i s=>fP (gy c.K) xl s fun δ=>k (.ext i δ)) (fun x y=>k (.ret x y))=some r):∀(n:Nat) (F:Nat→Prop) (O:Nat→Option (Nat × Nat)) (a:Act) (w:World) (δ:List D),Inv c B X w0 F0 F O a w δ→IoV c V a →
  iter (fun s=>fP (gy c.K) hl s fun δ=>den c bid b δ (bM hl xl)) n (ac δ hl)=some o→Code.rounds P b Q n a w
 | 0,_,_,_,_,_,_,_,h=>by cases h
 | n+1,F,O,a,w,δ,hI,hV,h=>by
  simp only [iter,jl] at h;rw [rounds_succ];have hI':=hI.carry h1;cases hb:den c bid b (carry (gy c.K) hl δ) (bM hl xl) with
  | none=>rw [hb] at h;cases h
  | some ob =>
   rw [hb] at h;refine ih F O a w _ hI' hV _ ob hb _ (fun e a' w' hp=>?_)
   cases ob with
   | nrm s' =>
    simp only at h;cases e with
    | normal =>
     obtain⟨⟨F',O',δ',g1,g2⟩,g3⟩:=hp;simp only [bM,bf,Ho,Out.nrm.injEq] at g2;rw [←g2] at h;exact qZ h1 h2 ih hQ ho n F' O' a' w' δ' g1 g3 h
    | exit i =>
     obtain⟨⟨F',O',δ',g1,g2⟩,g3⟩:=hp;simp [bM,bf] at g2
    | ret =>
     obtain⟨⟨F',O',δ',g1,g2⟩,g3⟩:=hp;obtain⟨rs,_,_,g4⟩:=gO g2;simp [bM] at g4
    | _=>exact hp.elim
   | ext i l =>
    simp only [Ho] at h;subst h;cases e with
    | normal =>
     obtain⟨⟨F',O',δ',g1,g2⟩,g3⟩:=hp;simp [bM,bf] at g2
    | exit j =>
     obtain⟨⟨F',O',δ',g1,g2⟩,g3⟩:=hp;simp only [bM,bf,Ho,Out.ext.injEq] at g2;obtain⟨rfl,rfl⟩:=g2;simp only [cv,jl] at ho;exact hQ (.exit j) _ _ ⟨⟨F',O',_,g1.carry h2,ho⟩,g3⟩
    | ret =>
     obtain⟨⟨F',O',δ',g1,g2⟩,g3⟩:=hp;obtain⟨rs,_,_,g4⟩:=gO g2;simp [bM] at g4
    | _=>exact hp.elim
   | ret x y =>
    simp only [Ho] at h;subst h;cases e with
    | normal =>
     obtain⟨⟨F',O',δ',g1,g2⟩,g3⟩:=hp;simp [bM,bf] at g2
    | exit j =>
     obtain⟨⟨F',O',δ',g1,g2⟩,g3⟩:=hp;simp [bM,bf] at g2
    | ret =>
     obtain⟨⟨F',O',δ',g1,g2⟩,g3⟩:=hp;obtain⟨rs,g5,g6,g4⟩:=gO g2;simp only [bM,Ho,Out.ret.injEq] at g4;obtain⟨rfl,rfl⟩:=g4;exact hQ .ret _ _ ⟨⟨F',O',δ',g1,rU g5 g6 ho⟩,g3⟩
    | _=>exact hp.elim
theorem gw (hT:okT P c.T=true) (hS:∀f S,cb c.S f=some S→ay c.G P f S) (hm:P.follows .mixedOrders=true) {V:Nat→Value}:∀(b:Code) (bid:Nat),cr c bid b=true→∀(F:Nat→Prop) (O:Nat→Option (Nat × Nat)) (a:Act) (w:World) (δ:List D),
  Inv c B X w0 F0 F O a w δ→IoV c V a→∀(k:Out→Option Out) (r:Out),den c bid b δ k=some r→∀Q,(∀e a w,Bt c B X w0 F0 V k r e a w→Q e a w)→b.wp P Q a w
 | .skip,bid,_,F,O,a,w,δ,hI,hV,k,r,hg,Q,hQ=>wp_skip (hQ _ _ _ ⟨⟨F,O,δ,hI,hg⟩,hV⟩)
 | .region id ops d,bid,hok,F,O,a,w,δ,hI,hV,k,r,hg,Q,hQ=>by
  simp only [cr,Hk,HE] at hok;have hq:∀a w,eV c B X w0 F0 V (fun δ=>k (.nrm δ)) r a w→Q .normal a w:=fun a w h=>hQ _ _ _ h
  cases d
  ·exact wp_region_list (nS hT hS hq ops.toList hok.1 F O a w δ hI hV hg)
  ·exact vz hT hS (by simpa using hok.2) hm hq hok.1 hI hV hg id
 | .seq x y,bid,hok,F,O,a,w,δ,hI,hV,k,r,hg,Q,hQ=>by
  simp only [cr,Hk] at hok;refine wp_seq (gw hT hS hm x bid hok.1 F O a w δ hI hV _ r hg _ (fun e a' w' hp=>?_))
  cases e with
  | normal =>
   obtain⟨⟨F',O',δ',hI',hk'⟩,hV'⟩:=hp;exact gw hT hS hm y bid hok.2 F' O' a' w' δ' hI' hV' k r hk' Q hQ
  | exit id=>exact hQ _ _ _ hp
  | ret=>exact hQ _ _ _ hp
  | _=>exact hp.elim
 | .cond x t e,bid,hok,F,O,a,w,δ,hI,hV,k,r,hg,Q,hQ=>by
  simp only [cr,Hk] at hok;obtain⟨⟨hlv,hok1⟩,hok2⟩:=hok;have hop:=hI.opd (aN.1 hlv);have key:ifD (opD δ x) (den c bid t δ k) (den c bid e δ k)=some r:=by
   simp only [den] at hg;cases x with
   | tmp s=>simpa only [opC,cN,opD] using hg
   | const v=>simpa only [opC,opD] using hg
   | func f=>simpa only [opC,opD] using hg
   | global g=>simp [opC] at hg
  unfold ifD at key;split at key
  ·rename_i hd
   rw [hd] at hop;exact wp_cond_true (aD hop).1 (gw hT hS hm t bid hok1 F O a w δ hI hV k r key Q hQ)
  ·rename_i hd
   rw [hd] at hop;exact wp_cond_false (aD hop).1 (gw hT hS hm e bid hok2 F O a w δ hI hV k r key Q hQ)
  ·cases key
 | .block id b,bid,hok,F,O,a,w,δ,hI,hV,k,r,hg,Q,hQ=>by
  simp only [cr] at hok;refine wp_block (gw hT hS hm b id hok F O a w δ hI hV _ r hg _ (fun e a' w' hp=>?_))
  cases e with
  | normal=>exact hQ .normal _ _ hp
  | exit i =>
   simp only [Exit.inBlock];have hp':eV c B X w0 F0 V (fun δ=>ya id (.ext i δ) k) r a' w':=hp;split
   ·rename_i hi
    refine hQ .normal _ _ (gm hp' fun δ F O _ h=>?_)
    simp only [ya] at h;rw [au.2 (by simpa using hi)] at h;exact h
   ·rename_i hi
    refine hQ (.exit i) _ _ (gm hp' fun δ F O _ h=>?_)
    simp only [ya] at h;cases hb:Hp i id
    ·rw [hb] at h;exact h
    ·exact absurd (by simpa using au.1 hb) hi
  | ret=>exact hQ .ret _ _ hp
  | _=>exact hp.elim
 | .loop b,bid,hok,F,O,a,w,δ,hI,hV,k,r,hg,Q,hQ=>by
  simp only [cr,Hk] at hok;obtain⟨hok1,hok2⟩:=hok;simp only [den] at hg;cases hH:cb c.H bid with
  | none=>rw [hH] at hg;cases hg
  | some hx =>
   obtain⟨hl,xl⟩:=hx;rw [hH] at hg hok2;simp only [Hk] at hok2;simp only [bf] at hg;obtain⟨o',h1,h2⟩:=Hg.1 hg;unfold aI at h1;split at h1
   case isFalse=>cases h1
   rename_i hex;refine wp_loop_rounds (HO hex) ?_
   refine qZ (hl:=hl) (xl:=xl) hok2.1 hok2.2 (fun F O a w δ hI hV k r hg Q hQ=>gw hT hS hm b bid hok1 F O a w δ hI hV k r hg Q hQ) hQ h2 _ F O a w δ hI hV h1
 | .exit id,bid,_,F,O,a,w,δ,hI,hV,k,r,hg,Q,hQ=>wp_exit (hQ _ _ _ ⟨⟨F,O,δ,hI,hg⟩,hV⟩)
 | .ret,bid,_,F,O,a,w,δ,hI,hV,k,r,hg,Q,hQ=>wp_ret (hQ _ _ _ ⟨⟨F,O,δ,hI,hg⟩,hV⟩)
 | .label _,_,hok,_,_,_,_,_,_,_,_,_,_,_,_=>by simp [cr] at hok
 | .goto _,_,hok,_,_,_,_,_,_,_,_,_,_,_,_=>by simp [cr] at hok
 | .scope _,_,hok,_,_,_,_,_,_,_,_,_,_,_,_=>by simp [cr] at hok
end
end Go.V

end
