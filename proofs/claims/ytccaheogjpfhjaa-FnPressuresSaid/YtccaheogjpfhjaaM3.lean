/-
  A part of the proof: contracts and plain forms of functions beneath the statement, made small by a program (names shortened, what is not needed left out).
-/
import Derived.Test.YtccaheogjpfhjaaRows
import Derived.Test.YtccaheogjpfhjaaM2
import Derived.Laws.RangeString
import Derived.MapKept
open Option renaming bind_eq_some_iff → Ix, map_eq_some_iff → Iy, bind_some → IE, bind_assoc → Jf, getD_some → JF, map_some → JT
open List renaming getD_eq_getElem?_getD → Iz, map_cons → ID, mem_cons → IG, getElem?_eq_none → II, drop_zero → IJ, getElem?_eq_some_iff → IY, snd_lt_of_mem_zipIdx → IZ, getElem?_eq_getElem → Ja, map_nil → Jb, all_eq_true → Jc, nil_append → Je, drop_eq_getElem_cons → Jl, length_eq_one_iff → Jp, length_cons → Jr, cons_append → Js, mem_append_right → Ju, eq_nil_of_length_eq_zero → Jy, map_toArray → JC, length_take → JD, getElem?_take_of_lt → JE, mem_filter → JH, take_append_drop → JI, getD_cons_zero → JJ
open List.cons renaming injEq → IA
open Array renaming getD_eq_getD_getElem? → IB, getElem?_eq_getElem → IL, getElem?_eq_some_iff → IV, getElem?_setIfInBounds → Ji, toArray_toList → Jj, all_eq_true_iff_forall_mem → Jt, getElem?_toList → Jv, length_toList → JK, replicate → JS
open Bool renaming and_eq_true → IC, not_eq_true' → IX, or_eq_true → Jm, false_eq_true → JA, not_false → JU
open Option.some renaming injEq → IF, inj → JR
open Nat renaming beq → IH, lt_of_lt_of_le → IU, beq_refl → Jw, le_trans → Jx, le_refl → JP
open Go.MapKept renaming run_getObj_map → IK, run_checkKey → IP, run_findKey → IQ
open Go.Instr renaming findNow → IM, lookup → Jn, sameNow → Jq, next → JB, mapUpdate → JG
open Go.Region renaming wanted → IW, binds → Jd, ready → Jo
open Go.Result renaming andThen → Jg
open Classical renaming choose_spec → Jh, choose → Jk
open Ne renaming symm → Jz
open Go.Builtin renaming len_ → JL, min2 → JM, max2 → JN
open Go.Oper renaming wp_mono → JO
open Go.Value renaming bool → JQ, int → JV
open Prod.mk renaming injEq → JW
set_option maxRecDepth 100000
set_option linter.unusedSimpArgs false
set_option linter.unusedVariables false
noncomputable section
namespace Go.V
open Go.RowKit
set_option maxRecDepth 100000
def gF (w:World) (F own:Nat→Prop) (k:Kd) (d:D) (y:Value):Prop :=
 d = .bad∨match k with
  | .dat lv=>bj w (FB F 0 lv) d y
  | .own z lv true=>iA w (FB F 0 lv) own z d y
  | .box n lv true=>tH w (FB F 0 lv) own n d y
  | _=>False
def dN (w:World) (F:Nat→Prop) (ow:Nat→Option Nat):Nat→List Kd→List D→List Value→Prop
 | _,[],[],[]=>True
 | i,k::ks,d::ds,y::ys=>gF w F (fun g=>ow g=some i) k d y∧dN w F ow (i+1) ks ds ys
 | _,_,_,_=>False
def lT:Kd→Bool
 | .own _ _ true=>true
 | .box _ _ true=>true
 | _=>false
def mH (w:World) (F:Nat→Prop):List Kd→List D→List Value→Prop
 | [],[],_=>True
 | k::ks,us,y::ys=>if lT k then(match us with
   | u::us=>u ≠ .bad∧gF w F (fun _=>True) k u y∧mH w F ks us ys
   | []=>False) else mH w F ks us ys
 | _,_,_=>False
def xh (w:World) (F:Nat→Prop) (B:Nat) (own:Nat→Prop) (k:Kd) (d:D) (y:Value):Prop :=
 d = .bad∨match k with
  | .dat lv=>bj w (FB F B lv) d y
  | .own z lv false=>iA w (FB F B lv) (fun g=>own g∧B≤g) z d y
  | _=>False
def gP:List Value→Value
 | [y]=>y
 | ys=>.tuple ys.toArray
structure CallPost (S:FS) (args:Array Value) (rs us:List D) (w:World) (F:Nat→Prop) (ow:Nat→Option Nat) (F':Nat→Prop) (R:Nat→Option Nat) (vs:List Value) (w':World):Prop where
 os:w'.os=w.os
 tape:w'.tape=w.tape
 output:w'.output=w.output
 size:w.heap.size≤w'.heap.size
 keep:∀b,b<w.heap.size→ow b=none→w'.heap[b]?=w.heap[b]?
 f0:∀b,F b→F' b
 fn:∀b,F' b→(F b∨w.heap.size≤b)∧b<w'.heap.size∧R b=none
 rn:∀b j,R b=some j→w.heap.size≤b∧b<w'.heap.size
 len:vs.length=S.rm.length
 lenD:rs.length=S.rm.length
 res:∀j,xh w' F' w.heap.size (fun g=>R g=some j) (ah S.rm j) (nth rs j) (vs.getD j undef)
 us:mH w' F' S.pm us args.toList
def GX (P:Program) (f:FuncId) (args:Array Value) (w:World) (R:Value→World→Prop):Prop :=
 ∀(o:Oper) (a:Act) (next:Act→World→Prop) (Q:Exit→Act→World→Prop),(∀v w',R v w'→next (a.put o.dst v) w')→o.upon P a next Q ((callFunc f args).run P w)
def ay (G:List (Nat × (Obj→Prop))) (P:Program) (f:FuncId) (S:FS):Prop :=
 ∀(ds rs us:List D),S.f ds=some (.ret rs us)→∀(args:Array Value) (w:World) (F:Nat→Prop) (ow:Nat→Option Nat),gOk G w F→dN w F ow 0 S.pm ds args.toList →
  (∀b,F b→b<w.heap.size∧ow b=none)→(∀b i,ow b=some i→b<w.heap.size)→GX P f args w fun v w'=>∃F' R vs,v=gP vs∧CallPost S args rs us w F ow F' R vs w'
section
variable {P:Program} {c:Cx} {B:Nat} {X:Nat→Prop} {w0:World} {F0 F:Nat→Prop} {O:Nat→Option (Nat × Nat)} {a:Act} {w:World} {δ:List D}
def bJ:List Ag→List D→Option (List D)
 | [],_=>some []
 | .d x chk::l,is=>match x with
  | .tmp _=>match is with
   | i::is=>match chk with
    | false=>(bJ l is).map (i::·)
    | true=>(bE i).bind fun i=>(bJ l is).map (i::·)
   | []=>none
  | .const v=>(bJ l is).map (qz v::·)
  | .func f=>(bJ l is).map (.clo f []::·)
  | .global _=>none
 | .bor t r::l,is=>match IH t r with
  | true=>match is with
   | i::is=>(bJ l is).map (i::·)
   | _=>none
  | false=>match is with
   | p::i::is=>(ab p i).bind fun i=>(bJ l is).map (i::·)
   | _=>none
 | .io t r::l,is=>match IH t r with
  | true=>match is with
   | i::is=>(ab i i).bind fun i=>(bJ l is).map (i::·)
   | _=>none
  | false=>match is with
   | p::i::is=>(dB p i).bind fun i=>(ab i i).bind fun i=>(bJ l is).map (i::·)
   | _=>none
theorem lw (o:Option (List D)) (i:D) (acc:List D) (k:List D→Option Out):((o.map (i::·)).bind fun ds=>k (acc++ds))=o.bind fun ds=>k (app acc [i]++ds):=by
 cases o<;>simp [kw]
theorem fY:∀(l:List Ag) (acc is:List D) (k:List D→Option Out),fE acc l is k=(bJ l is).bind fun ds=>k (acc++ds)
 | [],acc,is,k=>by simp [fE,bJ]
 | .d x chk::l,acc,is,k=>by
  cases x with
  | tmp t =>
   cases is with
   | nil=>simp [fE,bJ]
   | cons i is =>
    cases chk
    ·simp only [fE,bJ]
     rw [lw,fY l]
    ·simp only [fE,bJ,Jf]
     congr 1
     funext i
     rw [lw,fY l]
  | const v=>simp only [fE,bJ];rw [lw,fY l]
  | func f=>simp only [fE,bJ];rw [lw,fY l]
  | global g=>simp [fE,bJ]
 | .bor t r::l,acc,is,k=>by
  cases hb:IH t r
  ·rcases is with _ | ⟨p,_ | ⟨i,is⟩⟩
   ·simp [fE,bJ,hb]
   ·simp [fE,bJ,hb]
   ·simp only [fE,bJ,hb,Jf]
    refine congrArg _ (funext fun i=>?_)
    rw [lw,fY l]
  ·cases is with
   | nil=>simp [fE,bJ,hb]
   | cons i is=>simp only [fE,bJ,hb];rw [lw,fY l]
 | .io t r::l,acc,is,k=>by
  cases hb:IH t r
  ·rcases is with _ | ⟨p,_ | ⟨i,is⟩⟩
   ·simp [fE,bJ,hb]
   ·simp [fE,bJ,hb]
   ·simp only [fE,bJ,hb,Jf]
    refine congrArg _ (funext fun i=>?_)
    refine congrArg _ (funext fun i=>?_)
    rw [lw,fY l]
  ·cases is with
   | nil=>simp [fE,bJ,hb]
   | cons i is =>
    simp only [fE,bJ,hb,Jf];refine congrArg _ (funext fun i=>?_)
    rw [lw,fY l]
theorem rQ {F' own:Nat→Prop} {lv l:Nat} {d:D} {y:Value} (hF:∀b,F b→F' b) (h:bI w (FB F B lv) d y) (hl:lv≤l) (h1:l≠1):gF w F' own (.dat l) d y:=by
 rcases h with h | h
 ·exact .inl h
 ·refine .inr (aO (fun b hb=>?_) (fun _ _=>rfl) h)
  match l,h1,hl with
  | 0,_,hl =>
   have:lv=0:=by omega
   subst this;exact hb
  | l+2,_,_=>exact hF b (en b hb)
def tp:List Ag→Nat→Option Nat
 | [],_=>none
 | .io _ r::_,0=>some r
 | _::_,0=>none
 | _::l,n+1=>tp l n
theorem xR (hI:Inv c B X w0 F0 F O a w δ) {F':Nat→Prop} {ow:Nat→Option Nat} (hF:∀b,F b→F' b):∀(xs:List Operand) (pm:List Kd) (ags:List Ag) (i0:Nat) (ds:List D),ij c.K xs pm=some ags→gQ pm=true →
  bJ ags (af δ (dW ags))=some ds→(∀r∈eM ags,∀b,O b=some (r,0)→F' b)→(∀j r,tp ags j=some r→∀b,O b=some (r,0)→ow b=some (i0+j))→dN w F' ow i0 pm ds (xs.map a.eval)
 | [],[],ags,i0,ds,h,_,hd,_,_=>by
  simp only [ij,IF] at h;subst h;simp [bJ] at hd;subst hd;trivial
 | [],_::_,_,_,_,h,_,_,_,_=>by simp [ij] at h
 | _::_,[],_,_,_,h,_,_,_,_=>by simp [ij] at h
 | x::xs,m::pm,ags,i0,ds,h,hpm,hd,hbor,hio=>by
  simp only [ij] at h;split at h
  case h_2=>cases h
  rename_i g l hg hl;cases h;have hpm':gQ pm=true∧(∀lv,m = .dat lv→lv≠1)∧(∀z lv io,m = .own z lv io→io=true∧lv≠1)∧(∀z lv io,m = .box z lv io→io=true∧lv≠1):=by
   cases m with
   | dat lv =>
    simp only [gQ] at hpm;split at hpm
    case h_2=>cases hpm
    rename_i h1 h2;exact⟨hpm,fun l e=>by cases e;intro e;subst e;simp at h1,fun _ _ _ e=>(by cases e),fun _ _ _ e=>(by cases e)⟩
   | own z lv io =>
    cases io
    ·simp [gQ] at hpm
    simp only [gQ] at hpm;split at hpm
    case h_2=>cases hpm
    rename_i h1 h2;exact⟨hpm,fun _ e=>(by cases e),fun _ l _ e=>by cases e;exact⟨rfl,fun e=>by subst e;simp at h1⟩,fun _ _ _ e=>(by cases e)⟩
   | box z lv io =>
    cases io
    ·simp [gQ] at hpm
    simp only [gQ] at hpm;split at hpm
    case h_2=>cases hpm
    rename_i h1 h2;exact⟨hpm,fun _ e=>(by cases e),fun _ _ _ e=>(by cases e),fun _ l _ e=>by cases e;exact⟨rfl,fun e=>by subst e;simp at h1⟩⟩
   | _=>simp [gQ] at hpm
  obtain⟨hp1,hp2,hp3,hp4⟩:=hpm';have rest:∀d' ds',ds=d'::ds'→bJ l (af δ (dW l))=some ds'→(∀r∈eM l,∀b,O b=some (r,0)→F' b)→(∀j r,tp l j=some r→∀b,O b=some (r,0)→ow b=some (i0+1+j)) →
    gF w F' (fun g=>ow g=some i0) m d' (a.eval x)→dN w F' ow i0 (m::pm) ds ((x::xs).map a.eval):=by
   intro d' ds' e h1 h2 h3 h4;subst e;exact⟨h4,xR hI hF xs pm l (i0+1) ds' hl hp1 h1 h2 h3⟩
  have hio':∀j r,tp l j=some r→∀b,O b=some (r,0)→ow b=some (i0+1+j):=fun j r hj b hb=>by
   have:=hio (j+1) r (by cases g<;>exact hj) b hb;rw [this];congr 1
   omega
  have hbor':∀r∈eM l,∀b,O b=some (r,0)→F' b:=fun r hr=>hbor r (by cases g<;>simp [eM,hr])
  unfold ou at hg;split at hg
  ·rename_i lm
   have hl1:=hp2 lm rfl;split at hg
   ·rename_i t
    split at hg
    ·rename_i lv hk
     have hrep:=hI.dat hk;split at hg
     ·rename_i hle
      cases hg;simp only [app,af,bJ] at hd;obtain⟨ds',h1,rfl⟩:=Iy.1 hd;exact rest _ _ rfl h1 hbor' hio' (rQ hF hrep (aT.1 hle) hl1)
     ·split at hg
      case h_2=>cases hg
      rename_i hle h0;cases hg;simp only [app,af,bJ] at hd;obtain⟨i,hc,hd⟩:=Ix.1 hd;obtain⟨ds',h1,rfl⟩:=Iy.1 hd;refine rest _ _ rfl h1 hbor' hio' ?_
      unfold bE at hc;split at hc
      case isFalse=>cases hc
      rename_i hv;cases hc;refine .inr (my hv (hrep.rep ?_))
      intro e;rw [e] at hv;simp [D.isV] at hv
    ·rename_i z lv io hk
     split at hg
     case h_2=>cases hg
     rename_i hl2;cases hg;simp only [dW,Jw,af,bJ] at hd;obtain⟨ds',h1,rfl⟩:=Iy.1 hd;refine rest _ _ rfl h1 hbor' hio' ?_
     by_cases hb:nth δ t = .bad
     ·exact .inl hb
     ·refine .inr (aO (fun b hb=>?_) (fun _ _=>rfl) (iH (hI.own hk hb)))
      rw [az] at hl2;subst hl2;rcases hb with hb | hb
      ·exact hF b (en b hb)
      ·exact hbor t (by simp [eM]) b hb.1
    ·rename_i r hk
     split at hg
     case h_2=>cases hg
     rename_i hl2 hown;cases hg;rw [az] at hl2;subst hl2;have hviaD:∀(hbt:nth δ t ≠ .bad),gF w F' (fun g=>ow g=some i0) (.dat 2) (nth δ r) (a.eval (.tmp t)):=by
      intro hbt;obtain⟨g1,g2,g3,g4⟩:=hI.via hk hbt;obtain⟨z,lv,io,hkr⟩:∃z lv io,ah c.K r = .own z lv io:=by
       unfold wC at hown;split at hown
       ·exact⟨_,_,_,‹_›⟩
       ·cases hown
      rw [br,g1];refine .inr (aO (fun b hb=>?_) (fun _ _=>rfl) (iH (hI.own hkr g3)))
      rcases hb with hb | hb
      ·exact hF b (en b hb)
      ·exact hbor r (by simp [eM]) b hb.1
     cases htr:IH t r
     ·simp only [dW,htr,af,bJ] at hd
      obtain⟨i,hc,hd⟩:=Ix.1 hd;obtain⟨ds',h1,rfl⟩:=Iy.1 hd;obtain⟨hbt,rfl⟩:=aS hc;exact rest _ _ rfl h1 hbor' hio' (hviaD hbt)
     ·have:=az.1 htr
      subst this;simp only [dW,htr,af,bJ] at hd;obtain⟨ds',h1,rfl⟩:=Iy.1 hd;refine rest _ _ rfl h1 hbor' hio' ?_
      by_cases hb:nth δ t = .bad
      ·exact .inl hb
      ·exact hviaD hb
    ·cases hg
   ·cases hg
   ·rename_i f
    cases hg;simp only [dW,app,bJ] at hd;obtain⟨ds',h1,rfl⟩:=Iy.1 hd;refine rest _ _ rfl h1 hbor' hio' (rQ hF (lv:=0) (hI.opd (x:=.func f) (by simp [cI])) (Nat.zero_le _) hl1)
   ·rename_i v
    split at hg
    case h_2=>cases hg
    rename_i hv;cases hg;simp only [dW,app,bJ] at hd;obtain⟨ds',h1,rfl⟩:=Iy.1 hd;have:=hI.opd (x:=.const v) (by simp [cI,hv]);simp only [cI,hv,opD] at this;exact rest _ _ rfl h1 hbor' hio' (rQ hF this (Nat.zero_le _) hl1)
  ·rename_i z l'
   have hl1:=(hp3 z l' true rfl).2;have hcv:∀(lv:Nat),l'=lv→∀b,FB F B lv b→FB F' 0 l' b:=by
    intro lv e b hb;subst e
    match l',hl1 with
    | 0,_=>exact hb.elim
    | n+2,_=>exact hF b hb
   split at hg
   case h_2=>cases hg
   rename_i t;split at hg
   ·rename_i z' lv io hk
    split at hg
    case h_2=>cases hg
    rename_i h1 h2;rw [az] at h1 h2;subst h1;cases hg;simp only [dW,Jw,af,bJ] at hd;obtain⟨i,hc,hd⟩:=Ix.1 hd;obtain⟨ds',h1',rfl⟩:=Iy.1 hd;obtain⟨hb,rfl⟩:=aS hc;exact rest _ _ rfl h1' hbor' hio' (.inr (cm (hcv lv h2) (fun _ _=>rfl) (fun g _ ho=>⟨by simpa using hio 0 t rfl g ho.1,rfl⟩) (hI.own hk hb)))
   ·rename_i r hk
    split at hg
    case h_2=>cases hg
    rename_i z' lv io hkr;split at hg
    case h_2=>cases hg
    rename_i h1 h2;rw [az] at h1 h2;subst h1;cases hg;have hvia:nth δ t ≠ .bad→nth δ r ≠ .bad→gF w F' (fun g=>ow g=some i0) (.own z l' true) (nth δ r) (a.eval (.tmp t)):=by
     intro hbt hb;rw [br,(hI.via hk hbt).1];exact .inr (cm (hcv lv h2) (fun _ _=>rfl) (fun g _ ho=>⟨by simpa using hio 0 r rfl g ho.1,rfl⟩) (hI.own hkr hb))
    cases htr:IH t r
    ·simp only [dW,htr,af,bJ] at hd
     obtain⟨i,hc,hd⟩:=Ix.1 hd;obtain⟨i',hc',hd⟩:=Ix.1 hd;obtain⟨ds',h1',rfl⟩:=Iy.1 hd;obtain⟨hb,rfl⟩:=aS hc';unfold dB at hc;split at hc
     case h_2=>cases hc
     rename_i hr0;cases hc;exact rest _ _ rfl h1' hbor' hio' (hvia (by rw [hr0];simp) hb)
    ·have e:=az.1 htr
     subst e;rw [hk] at hkr;cases hkr
   ·cases hg
  ·rename_i n l'
   have hl1:=(hp4 n l' true rfl).2;have hcv:∀(lv:Nat),l'=lv→∀b,FB F B lv b→FB F' 0 l' b:=by
    intro lv e b hb;subst e
    match l',hl1 with
    | 0,_=>exact hb.elim
    | n+2,_=>exact hF b hb
   split at hg
   case h_2=>cases hg
   rename_i t;split at hg
   ·rename_i z' lv io hk
    split at hg
    case h_2=>cases hg
    rename_i h1 h2;rw [az] at h1 h2;subst h1;cases hg;simp only [dW,Jw,af,bJ] at hd;obtain⟨i,hc,hd⟩:=Ix.1 hd;obtain⟨ds',h1',rfl⟩:=Iy.1 hd;obtain⟨hb,rfl⟩:=aS hc;exact rest _ _ rfl h1' hbor' hio' (.inr (oY (hcv lv h2) (fun _ _=>rfl) (fun g ho=>⟨by simpa using hio 0 t rfl g ho.1,rfl⟩) (hI.box hk hb)))
   ·rename_i r hk
    split at hg
    case h_2=>cases hg
    rename_i z' lv io hkr;split at hg
    case h_2=>cases hg
    rename_i h1 h2;rw [az] at h1 h2;subst h1;cases hg;cases htr:IH t r
    ·simp only [dW,htr,af,bJ] at hd
     obtain⟨i,hc,hd⟩:=Ix.1 hd;obtain⟨i',hc',hd⟩:=Ix.1 hd;obtain⟨ds',h1',rfl⟩:=Iy.1 hd;obtain⟨hb,rfl⟩:=aS hc';unfold dB at hc;split at hc
     case h_2=>cases hc
     rename_i hr0;cases hc;obtain⟨ii,ff,h5,_,h6⟩:=hI.ref hk (by rw [hr0];simp);rw [hr0] at h5;cases h5;rw [hkr] at h6;obtain⟨g0,e1,e2⟩:=h6;refine rest _ _ rfl h1' hbor' hio' (.inr ?_)
     rw [br,e2,←e1];exact oY (hcv lv h2) (fun _ _=>rfl) (fun g ho=>⟨by simpa using hio 0 r rfl g ho.1,rfl⟩) (hI.box hkr hb)
    ·have e:=az.1 htr
     subst e;rw [hk] at hkr;cases hkr
   ·cases hg
  ·cases hg
end
end Go.V

namespace Go.V
open Go.RowKit
set_option maxRecDepth 100000
section
variable {P:Program} {c:Cx} {B:Nat} {X:Nat→Prop} {w0:World} {F0 F:Nat→Prop} {O:Nat→Option (Nat × Nat)} {a:Act} {w:World} {δ:List D}
theorem gk {w w':World} {F F':Nat→Prop} {own own':Nat→Prop} {n:Nat} {d:D} {y:Value} (hF:∀b,F b→F' b) (hw:∀b,F b→w'.heap[b]?=w.heap[b]?)
  (ho:∀g,V.blk y=some g→own g→own' g∧w'.heap[g]?=w.heap[g]?) (h:tH w F own n d y):tH w' F' own' n d y:=by
 obtain⟨l,us,g,e,a1,rfl,a3,a4,a5,a6,a7⟩:=h;exact⟨l,us,g,e,a1,rfl,(ho g rfl a7).2.trans a3,bm hF hw _ _ a4,a5,a6,(ho g rfl a7).1⟩
theorem tH.blk {F:Nat→Prop} {own:Nat→Prop} {n:Nat} {d:D} {y:Value} (h:tH w F own n d y):∀b,V.blk y=some b→own b∧b<w.heap.size:=by
 intro b hb;obtain⟨l,us,g,e,a1,rfl,a3,a4,a5,a6,a7⟩:=h;simp [V.blk] at hb;subst hb;exact⟨a7,(IV.1 a3).1⟩
def pF:List Ag→Nat→Nat→Option Nat
 | [],_,_=>none
 | .io _ q::l,r,i=>if q=r then some i else pF l r (i+1)
 | .d _ _::l,r,i=>pF l r (i+1)
 | .bor _ _::l,r,i=>pF l r (i+1)
theorem nY:∀{l:List Ag} {r i j:Nat},pF l r i=some j→r∈de l
 | .io _ q::l,r,i,j,h=>by
  simp only [pF] at h;split at h
  ·rename_i e;subst e;simp [de]
  ·simp [de,nY h]
 | .d _ _::l,r,i,j,h=>by simpa [de] using nY (l:=l) h
 | .bor _ _::l,r,i,j,h=>by simpa [de] using nY (l:=l) h
theorem oF:∀{l:List Ag} {r j:Nat},tp l j=some r→r∈de l
 | .io _ q::l,r,0,h=>by simp [tp] at h;simp [de,h]
 | .io _ q::l,r,j+1,h=>by simp only [de,IG];exact .inr (oF (l:=l) h)
 | .d _ _::l,r,0,h=>by simp [tp] at h
 | .bor _ _::l,r,0,h=>by simp [tp] at h
 | .d _ _::l,r,j+1,h=>by simpa [de] using oF (l:=l) h
 | .bor _ _::l,r,j+1,h=>by simpa [de] using oF (l:=l) h
theorem oz {a:Nat} {l:List Nat} (h:iW (a::l)=true):a∉l∧iW l=true:=by
 simp only [iW,eY] at h;split at h
 ·cases h
 ·rename_i h1
  exact⟨by simpa using h1,h⟩
theorem tP:∀{l:List Ag} {r i j:Nat},iW (de l)=true→tp l j=some r→pF l r i=some (i+j)
 | .io _ q::l,r,i,0,_,h=>by simp [tp] at h;simp [pF,h]
 | .io _ q::l,r,i,j+1,hn,h=>by
  obtain⟨h1,h2⟩:=oz hn;have h3:=oF (l:=l) h;have hne:¬q=r:=fun e=>h1 (by rw [e];exact h3)
  simp only [pF];rw [if_neg hne,tP (l:=l) h2 h];congr 1;omega
 | .d _ _::l,r,i,0,_,h=>by simp [tp] at h
 | .bor _ _::l,r,i,0,_,h=>by simp [tp] at h
 | .d _ _::l,r,i,j+1,hn,h=>by simp only [pF];rw [tP (l:=l) hn h];congr 1;omega
 | .bor _ _::l,r,i,j+1,hn,h=>by simp only [pF];rw [tP (l:=l) hn h];congr 1;omega
def yV (c:Cx) (a:Act) (δ:List D):List Ag→List Kd→List Operand→Prop
 | [],[],[]=>True
 | .io _ r::l,m::pm,x::xs=>(nth δ r ≠ .bad∧a.eval x=av a r∧((∃z lv io,m = .own z lv true∧ah c.K r = .own z lv io∧lv≠1)∨∃n lv io,m = .box n lv true∧ah c.K r = .box n lv io∧lv≠1))∧yV c a δ l pm xs
 | _::l,m::pm,_::xs=>lT m=false∧yV c a δ l pm xs
 | _,_,_=>False
theorem wo {m:Kd} {pm:List Kd} (h:gQ (m::pm)=true):gQ pm=true∧(∀z lv,m = .own z lv true→lv≠1)∧∀n lv,m = .box n lv true→lv≠1:=by
 cases m with
 | dat lv =>
  simp only [gQ] at h;split at h
  case h_2=>cases h
  exact⟨h,fun _ _ e=>(by cases e),fun _ _ e=>(by cases e)⟩
 | own z lv io =>
  cases io
  ·simp [gQ] at h
  simp only [gQ] at h;split at h
  case h_2=>cases h
  rename_i h1 h2;exact⟨h,fun _ l e=>by cases e;intro e;subst e;simp at h1,fun _ _ e=>(by cases e)⟩
 | box z lv io =>
  cases io
  ·simp [gQ] at h
  simp only [gQ] at h;split at h
  case h_2=>cases h
  rename_i h1 h2;exact⟨h,fun _ _ e=>(by cases e),fun _ l e=>by cases e;intro e;subst e;simp at h1⟩
 | _=>simp [gQ] at h
theorem De {K:List Kd} {x:Operand} {m:Kd} {t r:Nat} (h:ou K x m=some (.bor t r)):∃lv,m = .dat lv:=by
 cases m with
 | dat lv=>exact⟨lv,rfl⟩
 | own z lv io =>
  exfalso;cases io
  ·simp [ou] at h
  ·simp only [ou] at h
   repeat (split at h<;>try cases h)
 | box z lv io =>
  exfalso;cases io
  ·simp [ou] at h
  ·simp only [ou] at h
   repeat (split at h<;>try cases h)
 | _=>simp [ou] at h
theorem Gs {K:List Kd} {x:Operand} {m:Kd} {t r:Nat} (h:ou K x m=some (.io t r)):x = .tmp t∧((∃z lv io,m = .own z lv true∧((t=r∧ah K t = .own z lv io)∨(ah K t = .via r∧ah K r = .own z lv io))) ∨
  ∃n lv io,m = .box n lv true∧((t=r∧ah K t = .box n lv io)∨(ah K t = .ref r∧ah K r = .box n lv io))):=by
 cases m with
 | dat lv =>
  exfalso;simp only [ou] at h
  repeat (split at h<;>try cases h)
 | own z lv io =>
  cases io
  ·simp [ou] at h
  ·simp only [ou] at h
   split at h
   case h_2=>cases h
   split at h
   ·rename_i hk
    split at h
    case h_2=>cases h
    rename_i h1 h2;rw [az] at h1 h2;cases h;exact⟨rfl,.inl ⟨_,_,_,rfl,.inl ⟨rfl,by rw [hk,h1,h2]⟩⟩⟩
   ·rename_i hk
    split at h
    case h_2=>cases h
    rename_i hk2;split at h
    case h_2=>cases h
    rename_i h1 h2;rw [az] at h1 h2;cases h;exact⟨rfl,.inl ⟨_,_,_,rfl,.inr ⟨hk,by rw [hk2,h1,h2]⟩⟩⟩
   ·cases h
 | box z lv io =>
  cases io
  ·simp [ou] at h
  ·simp only [ou] at h
   split at h
   case h_2=>cases h
   split at h
   ·rename_i hk
    split at h
    case h_2=>cases h
    rename_i h1 h2;rw [az] at h1 h2;cases h;exact⟨rfl,.inr ⟨_,_,_,rfl,.inl ⟨rfl,by rw [hk,h1,h2]⟩⟩⟩
   ·rename_i hk
    split at h
    case h_2=>cases h
    rename_i hk2;split at h
    case h_2=>cases h
    rename_i h1 h2;rw [az] at h1 h2;cases h;exact⟨rfl,.inr ⟨_,_,_,rfl,.inr ⟨hk,by rw [hk2,h1,h2]⟩⟩⟩
   ·cases h
 | _=>simp [ou] at h
theorem rT (hI:Inv c B X w0 F0 F O a w δ):∀(xs:List Operand) (pm:List Kd) (ags:List Ag) (ds:List D),ij c.K xs pm=some ags→gQ pm=true→bJ ags (af δ (dW ags))=some ds→yV c a δ ags pm xs
 | [],[],ags,ds,h,_,_=>by
  simp only [ij,IF] at h;subst h;trivial
 | [],_::_,_,_,h,_,_=>by simp [ij] at h
 | _::_,[],_,_,h,_,_=>by simp [ij] at h
 | x::xs,m::pm,ags,ds,h,hpm,hd=>by
  simp only [ij] at h;split at h
  case h_2=>cases h
  rename_i g l hg hl;cases h;obtain⟨hp1,hp2,hp3⟩:=wo hpm;cases g with
  | d y chk =>
   have hnio:lT m=false:=by
    cases m with
    | own z lv io=>cases io<;>first | rfl | (simp only [ou] at hg;repeat (split at hg<;>try cases hg))
    | box z lv io=>cases io<;>first | rfl | (simp only [ou] at hg;repeat (split at hg<;>try cases hg))
    | _=>rfl
   have hd':∃ds',bJ l (af δ (dW l))=some ds':=by
    cases y with
    | tmp t =>
     simp only [app,af,bJ] at hd;split at hd
     ·obtain⟨ds',h1,_⟩:=Iy.1 hd
      exact⟨ds',h1⟩
     ·obtain⟨i,_,hd⟩:=Ix.1 hd
      obtain⟨ds',h1,_⟩:=Iy.1 hd;exact⟨ds',h1⟩
    | const v =>
     simp only [dW,app,bJ] at hd;obtain⟨ds',h1,_⟩:=Iy.1 hd;exact⟨ds',h1⟩
    | func v =>
     simp only [dW,app,bJ] at hd;obtain⟨ds',h1,_⟩:=Iy.1 hd;exact⟨ds',h1⟩
    | global v=>simp [bJ] at hd
   obtain⟨ds',hd'⟩:=hd';exact⟨hnio,rT hI xs pm l ds' hl hp1 hd'⟩
  | bor t r =>
   have hnio:lT m=false:=by
    obtain⟨lv,e⟩:=De hg;rw [e];rfl
   have hd':∃ds',bJ l (af δ (dW l))=some ds':=by
    cases htr:IH t r
    ·simp only [dW,htr,af,bJ] at hd
     obtain⟨i,_,hd⟩:=Ix.1 hd;obtain⟨ds',h1,_⟩:=Iy.1 hd;exact⟨ds',h1⟩
    ·simp only [dW,htr,af,bJ] at hd
     obtain⟨ds',h1,_⟩:=Iy.1 hd;exact⟨ds',h1⟩
   obtain⟨ds',hd'⟩:=hd';exact⟨hnio,rT hI xs pm l ds' hl hp1 hd'⟩
  | io t r =>
   obtain⟨rfl,hk⟩:=Gs hg;have main:(nth δ r ≠ .bad∧(t=r∨nth δ t = .ref 0 0))∧∃ds',bJ l (af δ (dW l))=some ds':=by
    cases htr:IH t r
    ·simp only [dW,htr,af,bJ] at hd
     obtain⟨i,hc,hd⟩:=Ix.1 hd;obtain⟨i',hc',hd⟩:=Ix.1 hd;obtain⟨ds',h1,_⟩:=Iy.1 hd;obtain⟨hb,rfl⟩:=aS hc';unfold dB at hc;split at hc
     case h_2=>cases hc
     rename_i hr0;cases hc;exact⟨⟨hb,.inr hr0⟩,ds',h1⟩
    ·have e:=az.1 htr
     subst e;simp only [dW,htr,af,bJ] at hd;obtain⟨i',hc',hd⟩:=Ix.1 hd;obtain⟨ds',h1,_⟩:=Iy.1 hd;exact⟨⟨(aS hc').1,.inl rfl⟩,ds',h1⟩
   obtain⟨⟨hb,hre⟩,ds',hd'⟩:=main;refine⟨⟨hb,?_,?_⟩,rT hI xs pm l ds' hl hp1 hd'⟩
   ·rcases hre with e | hr0
    ·rw [e];rfl
    ·rcases hk with ⟨z,lv,io,_,h2⟩ | ⟨n,lv,io,_,h2⟩
     ·rcases h2 with ⟨e,_⟩ | ⟨h3,h4⟩
      ·rw [e];rfl
      ·exact(hI.via h3 (by rw [hr0];simp)).1
     ·rcases h2 with ⟨e,_⟩ | ⟨h3,h4⟩
      ·rw [e];rfl
      ·obtain⟨ii,ff,h5,_,h6⟩:=hI.ref h3 (by rw [hr0];simp)
       rw [hr0] at h5;cases h5;rw [h4] at h6;obtain⟨g0,e1,e2⟩:=h6;rw [br,e1,e2]
   ·rcases hk with ⟨z,lv,io,h1,h2⟩ | ⟨n,lv,io,h1,h2⟩
    ·refine .inl ⟨z,lv,io,h1,?_,hp2 z lv h1⟩
     rcases h2 with ⟨e,h2⟩ | ⟨_,h2⟩
     ·rw [←e];exact h2
     ·exact h2
    ·refine .inr ⟨n,lv,io,h1,?_,hp3 n lv h1⟩
     rcases h2 with ⟨e,h2⟩ | ⟨_,h2⟩
     ·rw [←e];exact h2
     ·exact h2
def HT (w':World) (F':Nat→Prop) (k:Kd) (u:D) (y:Value):Prop :=
 u ≠ .bad∧match k with
  | .own z lv _=>lv≠1∧iA w' (FB F' 0 lv) (fun _=>True) z u y
  | .box n lv _=>lv≠1∧tH w' (FB F' 0 lv) (fun _=>True) n u y
  | _=>False
theorem sx {w':World} {F':Nat→Prop}:∀(ags:List Ag) (pm:List Kd) (xs:List Operand) (us:List D),yV c a δ ags pm xs→mH w' F' pm us (xs.map a.eval) →
  us.length=(de ags).length∧∀(m r:Nat),(de ags)[m]?=some r→nth δ r ≠ .bad∧∃u:D,us[m]?=some u∧HT w' F' (ah c.K r) u (av a r)
 | [],[],[],us,_,hu=>by
  cases us with
  | nil=>simp [de]
  | cons u us=>simp [mH] at hu
 | .io t r::l,m::pm,x::xs,us,h,hu=>by
  obtain⟨⟨h1,h2,h3⟩,h4⟩:=h;simp only [ID,mH] at hu;have hio:lT m=true:=by rcases h3 with ⟨z,lv,io,rfl,_⟩ | ⟨n,lv,io,rfl,_⟩<;>rfl
  rw [if_pos hio] at hu;cases us with
  | nil=>exact hu.elim
  | cons u us =>
   obtain⟨u1,u2,u3⟩:=hu;obtain⟨g1,g2⟩:=sx l pm xs us h4 u3;refine⟨by simp [de,g1],fun j q hj=>?_⟩
   cases j with
   | zero =>
    simp only [de,List.getElem?_cons_zero,IF] at hj;subst hj;refine⟨h1,u,rfl,u1,?_⟩
    rw [h2] at u2;have u2:=u2.resolve_left u1;rcases h3 with ⟨z,lv,io,rfl,hk,hlv⟩ | ⟨n,lv,io,rfl,hk,hlv⟩
    ·rw [hk];exact⟨hlv,u2⟩
    ·rw [hk];exact⟨hlv,u2⟩
   | succ j =>
    simp only [de,List.getElem?_cons_succ] at hj;exact g2 j q hj
 | .d y chk::l,m::pm,x::xs,us,h,hu=>by
  obtain⟨h1,h2⟩:=h;simp only [ID,mH,h1] at hu;exact sx l pm xs us h2 hu
 | .bor y chk::l,m::pm,x::xs,us,h,hu=>by
  obtain⟨h1,h2⟩:=h;simp only [ID,mH,h1] at hu;exact sx l pm xs us h2 hu
 | [],[],_::_,_,h,_=>h.elim
 | [],_::_,_,_,h,_=>h.elim
 | .io _ _::_,[],_,_,h,_=>h.elim
 | .io _ _::_,_::_,[],_,h,_=>h.elim
 | .d _ _::_,[],_,_,h,_=>h.elim
 | .d _ _::_,_::_,[],_,h,_=>h.elim
 | .bor _ _::_,[],_,_,h,_=>h.elim
 | .bor _ _::_,_::_,[],_,h,_=>h.elim
theorem BF (us:List D):∀(ios:List Nat) (j:Nat),j+ios.length≤us.length→qs.go us j ios=(us.drop j).take ios.length
 | [],j,_=>by simp [qs.go]
 | _::l,j,h=>by
  simp only [Jr] at h;simp only [qs.go];rw [BF us l (j+1) (by omega)];have hj:j<us.length:=by omega
  rw [Jl hj,Jr,List.take_succ_cons,dA,Iz,Ja hj];rfl
theorem mY:∀(ss:List Nat) (ds δ:List D) (m s:Nat),iW ss=true→ss[m]?=some s→s<δ.length→nth (ae δ ss ds) s=nth ds m
 | t::ss,[],δ,m,s,hn,hm,hl=>by
  rw [iE _ _ _ (List.mem_of_getElem? hm)]
 | t::ss,d::ds,δ,0,s,hn,hm,hl=>by
  obtain⟨h1,h2⟩:=oz hn;simp at hm;subst hm;simp only [ae];rw [am _ _ _ _ h1,aV,if_pos hl]
 | t::ss,d::ds,δ,m+1,s,hn,hm,hl=>by
  obtain⟨h1,h2⟩:=oz hn;simp only [ae];rw [mY ss ds _ m s h2 (by simpa using hm) (by rw [ed];exact hl)]
theorem Ck {d:Nat} {l:List Nat} (h1:iO d l=false) (h2:iW l=true):iW ([d]++l)=true:=by
 simp only [Js,Je,iW,h1];exact h2
theorem wM:∀{l m:List Nat},uI l m=true→∀x∈l,x∉m
 | a::l,m,h,x,hx=>by
  simp only [uI,eY] at h;split at h
  ·cases h
  ·rename_i h1
   rcases IG.1 hx with rfl | hx
   ·simpa using h1
   ·exact wM h x hx
theorem Fx {K:List Kd} {r:Nat} (h:cr K r):r<K.length:=by
 by_cases hd:r<K.length
 ·exact hd
 ·exfalso
  have:∀(K:List Kd) (r:Nat),¬r<K.length→ah K r = .no:=by
   intro K;induction K with
   | nil=>intro r _;rfl
   | cons k K ih =>
    intro r hr;cases r with
    | zero=>simp at hr
    | succ r=>exact ih r (by simpa using hr)
  rw [cr,this K r hd] at h;exact h
theorem ub {m:Kd} {pm:List Kd} (h:io0 (m::pm)=true):io0 pm=true∧(∀z lv io,m = .own z lv io→lv=0)∧∀n lv io,m = .box n lv io→lv=0:=by
 cases m with
 | own z lv io =>
  simp only [io0] at h;split at h
  case h_2=>cases h
  rename_i h0;exact⟨h,fun _ _ _ e=>by cases e;exact az.1 h0,fun _ _ _ e=>(by cases e)⟩
 | box z lv io =>
  simp only [io0] at h;split at h
  case h_2=>cases h
  rename_i h0;exact⟨h,fun _ _ _ e=>(by cases e),fun _ _ _ e=>by cases e;exact az.1 h0⟩
 | _=>exact⟨by simpa only [io0] using h,fun _ _ _ e=>(by cases e),fun _ _ _ e=>(by cases e)⟩
theorem yc:∀(ags:List Ag) (pm:List Kd) (xs:List Operand),yV c a δ ags pm xs→io0 pm=true→∀(m r:Nat),(de ags)[m]?=some r→∀lv,((∃z io,ah c.K r = .own z lv io)∨∃n io,ah c.K r = .box n lv io)→lv=0
 | [],_,_,_,_,m,r,hm,_,_=>by simp [de] at hm
 | .io t q::l,m::pm,x::xs,h,h0,j,r,hj,lv,hk=>by
  obtain⟨⟨_,_,h3⟩,h4⟩:=h;obtain⟨g1,g2,g3⟩:=ub h0;cases j with
  | zero =>
   simp only [de,List.getElem?_cons_zero,IF] at hj;subst hj;rcases h3 with ⟨z,lv',io,rfl,hk',_⟩ | ⟨n,lv',io,rfl,hk',_⟩
   ·have:=g2 z lv' true rfl
    subst this;rw [hk'] at hk;rcases hk with ⟨_,_,e⟩ | ⟨_,_,e⟩<;>cases e;rfl
   ·have:=g3 n lv' true rfl
    subst this;rw [hk'] at hk;rcases hk with ⟨_,_,e⟩ | ⟨_,_,e⟩<;>cases e;rfl
  | succ j=>exact yc l pm xs h4 g1 j r (by simpa [de] using hj) lv hk
 | .d _ _::l,m::pm,x::xs,h,h0,j,r,hj,lv,hk=>yc l pm xs h.2 (ub h0).1 j r (by simpa [de] using hj) lv hk
 | .bor _ _::l,m::pm,x::xs,h,h0,j,r,hj,lv,hk=>yc l pm xs h.2 (ub h0).1 j r (by simpa [de] using hj) lv hk
 | .io _ _::_,[],_,h,_,_,_,_,_,_=>h.elim
 | .io _ _::_,_::_,[],h,_,_,_,_,_,_=>h.elim
 | .d _ _::_,[],_,h,_,_,_,_,_,_=>h.elim
 | .d _ _::_,_::_,[],h,_,_,_,_,_,_=>h.elim
 | .bor _ _::_,[],_,h,_,_,_,_,_,_=>h.elim
 | .bor _ _::_,_::_,[],h,_,_,_,_,_,_=>h.elim
theorem mj (hI:Inv c B X w0 F0 F O a w δ) {S:FS} {ags:List Ag} {xs:List Operand} {ds rs us:List D} {F':Nat→Prop} {R:Nat→Option Nat} {vs:List Value} {w':World} {v:Value} {dst:Option Nat} {x:List D}
  (hags:ij c.K xs S.pm=some ags) (hpm:gQ S.pm=true) (hds:bJ ags (af δ (dW ags))=some ds) (hnd:iW (de ags)=true)
  (hbor:eM ags=[]∨(oo S.rm=true∧io0 S.pm=true))
  (hpost:CallPost S (xs.map a.eval).toArray rs us w (fun b=>F b∨∃r∈eM ags,O b=some (r,0)) (fun b=>match O b with
   | some (r,0)=>pF ags r 0
   | _=>none) F' R vs w')
  (hdx:(dst=none∧x=[])∨∃d y,dst=some d∧x=[y]∧iO d (de ags)=false) (g:Nat→Option (Nat × Nat)) (hg:∀j p,g j=some p→∀d,dst=some d→p.1=d) (hgn:dst=none→∀j,g j=none)
  (hU:∀(F2:Nat→Prop) (O2:Nat→Option (Nat × Nat)),(∀lv b,(eM ags=[]∨lv≤1)→FB F' w.heap.size lv b→FB F2 B lv b)→(∀b j,R b=some j→O2 b=g j∧B≤b∧(g j=none→F2 b))→∀d y,dst=some d→x=[y]→d<δ.length→qd c.K B F2 O2 (a.put dst v) w' d y) :
  ∃F2 O2,Inv c B X w0 F0 F2 O2 (a.put dst v) w' (ae δ (dst.toList++(de ags++aB c.K dst.toList)) (x++us)):=by
 have hB:=hI.bb;have hioA:=rT hI xs S.pm ags ds hags hpm hds;obtain⟨hul,hun⟩:=sx (c:=c) (a:=a) (δ:=δ) ags S.pm xs us hioA (by simpa using hpost.us);have hkeep:∀b,b<w.heap.size→(∀p,O b=some p→p.1∉de ags)→w'.heap[b]?=w.heap[b]?:=by
  intro b hb hp;refine hpost.keep b hb ?_
  split
  ·rename_i r he
   cases h:pF ags r 0 with
   | none=>rfl
   | some j=>exact absurd (nY h) (hp _ he)
  ·rfl
 have hRn:∀b,b<w.heap.size→R b=none:=fun b hb=>by
  cases h:R b with
  | none=>rfl
  | some j=>have:=(hpost.rn b j h).1;omega
 let F2:Nat→Prop:=fun b=>F b∨(F' b∧w.heap.size≤b)∨∃j,R b=some j∧g j=none
 let O2:Nat→Option (Nat × Nat):=fun b=>match R b with
  | some j=>g j
  | none=>O b
 have hO2n:∀b,R b=none→O2 b=O b:=fun b h=>by simp only [O2,h]
 have hO2s:∀b j,R b=some j→O2 b=g j:=fun b j h=>by simp only [O2,h]
 have hOlt:∀b,w.heap.size≤b→O b=none:=fun b hb=>by
  cases h:O b with
  | none=>rfl
  | some p=>have:=(hI.ol b p h).1;omega
 have hlv:∀lv b,(eM ags=[]∨lv≤1)→FB F' w.heap.size lv b→FB F2 B lv b:=by
  intro lv b hbl hb
  match lv,hbl,hb with
  | 0,_,hb=>exact hb.elim
  | 1,_,hb=>exact⟨.inr (.inl hb),Jx hB hb.2⟩
  | n+2,hbl,hb =>
   have he:eM ags=[]:=hbl.resolve_right (by omega);rcases(hpost.fn b hb).1 with h1 | h1
   ·rcases h1 with h1 | ⟨r,hr,_⟩
    ·exact .inl h1
    ·rw [he] at hr;cases hr
   ·exact .inr (.inl ⟨hb,h1⟩)
 have hnd2:iW (dst.toList++de ags)=true:=by
  rcases hdx with ⟨rfl,_⟩ | ⟨d,y,rfl,_,hm⟩
  ·exact hnd
  ·exact Ck hm hnd
 have hlen:(x++us).length=(dst.toList++de ags).length:=by
  rcases hdx with ⟨rfl,rfl⟩ | ⟨d,y,rfl,rfl,_⟩<;>simp [hul]
 have hlt:∀r,cr c.K r→r<δ.length:=fun r hr=>by
  rw [hI.ld];exact Fx hr
 have hgetio:∀(m r:Nat),(de ags)[m]?=some r→cr c.K r→nth (ae δ (dst.toList++de ags) (x++us)) r=nth us m:=by
  intro m r hm hr;rcases hdx with ⟨rfl,rfl⟩ | ⟨d,y,rfl,rfl,_⟩
  ·exact mY _ _ _ m r hnd (by simpa using hm) (hlt r hr)
  ·have:=mY (δ:=δ) ([d]++de ags) ([y]++us) (m:=m+1) (s:=r) hnd2 (by simpa using hm) (hlt r hr)
   simpa [nth] using this
 have hrootIo:∀(m r:Nat),(de ags)[m]?=some r→cr c.K r:=by
  intro m r hm;obtain⟨_,u,_,hn⟩:=hun m r hm;obtain⟨_,hn⟩:=hn;unfold cr;generalize ah c.K r=kk at hn;cases kk<;>first | exact hn.elim | trivial
 refine⟨F2,O2,hI.many hlen (by cases dst<;>simp [Act.put]) (by cases dst<;>rfl) (fun s hs=>?_) (fun r hr _ hb=>?_) (fun s hs=>?_) (fun _ hb=>.inl hb) (fun b hb=>?_) (fun b p hp hm=>?_) (fun b hb=>?_) (fun b p hp=>?_) (fun b hb=>?_) hpost.size hpost.os hpost.tape hpost.output (fun b hb hx=>?_)⟩
 ·cases dst with
  | none=>rfl
  | some d=>exact bz fun e=>hs (by simp [e])
 ·obtain⟨m,hm⟩:=List.getElem?_of_mem hr
  obtain⟨_,u,hu,hn⟩:=hun m r hm;rw [hgetio m r hm (hrootIo m r hm),dA,Iz,hu];exact hn.1
 ·rcases List.mem_append.1 hs with hs | hs
  ·rcases hdx with ⟨rfl,_⟩ | ⟨d,y,rfl,rfl,_⟩
   ·cases hs
   ·have:s=d:=by simpa using hs
    subst this;by_cases hsl:s<δ.length
    ·have e:=mY (δ:=δ) ([s]++de ags) ([y]++us) (m:=0) (s:=s) hnd2 rfl hsl
     simp only [Option.toList_some] at e ⊢;rw [e];exact hU F2 O2 hlv (fun b j hj=>⟨hO2s b j hj,Jx hB (hpost.rn b j hj).1,fun hn=>.inr (.inr ⟨j,hj,hn⟩)⟩) s y rfl rfl hsl
    ·refine .inl ?_
     have:∀(l:List D) (n:Nat),¬n<l.length→nth l n = .bad:=fun l n h=>by
      rw [dA,Iz,II (by omega)];rfl
     exact this _ _ (by rw [bV];exact hsl)
  ·have hs':=hs
   obtain⟨m,hm⟩:=List.getElem?_of_mem hs;have hr:=hrootIo m s hm;obtain⟨hb,u,hu,hn⟩:=hun m s hm;rw [hgetio m s hm hr,dA,Iz,hu];have hav:av (a.put dst v) s=av a s:=by
    cases dst with
    | none=>rfl
    | some d =>
     refine bz ?_
     rcases hdx with ⟨h,_⟩ | ⟨d',y,h,_,hm'⟩
     ·cases h
     ·cases h
      rintro rfl;rw [eY] at hm';exact(of_decide_eq_false hm') hs'
   refine .inr ?_
   obtain⟨hn1,hn2⟩:=hn;have hbl:∀lv,lv≠1→(eM ags=[]∨lv≤1)→∀b,FB F' 0 lv b→FB F2 B lv b:=by
    intro lv h1 h2 b hb;refine hlv lv b h2 ?_
    match lv,h1 with
    | 0,_=>exact hb
    | n+2,_=>exact hb
   have hlv1:∀lv,(∃z io,ah c.K s = .own z lv io)∨(∃n io,ah c.K s = .box n lv io)→eM ags=[]∨lv≤1:=by
    intro lv hk;rcases hbor with h | ⟨_,h0⟩
    ·exact .inl h
    ·right
     have:=yc ags S.pm xs hioA h0 m s hm lv hk;omega
   generalize hks:ah c.K s=kk at hn2;cases kk with
   | own z lv io =>
    refine .inr ?_
    obtain⟨h1,h2⟩:=hn2;rw [hav];have hown:=(hI.own hks hb).blk;exact cm (hbl lv h1 (hlv1 lv (.inl ⟨z,io,hks⟩))) (fun _ _=>rfl) (fun b hbk _=>⟨⟨(hO2n b (hRn b (hown b hbk).2)).trans (hown b hbk).1.1,(hown b hbk).1.2⟩,rfl⟩) h2
   | box n lv io =>
    refine .inr ?_
    obtain⟨h1,h2⟩:=hn2;rw [hav];have hown:=(hI.box hks hb).blk;exact gk (hbl lv h1 (hlv1 lv (.inr ⟨n,io,hks⟩))) (fun _ _=>rfl) (fun b hbk _=>⟨⟨(hO2n b (hRn b (hown b hbk).2)).trans (hown b hbk).1.1,(hown b hbk).1.2⟩,rfl⟩) h2
   | _=>exact hn2.elim
 ·exact hkeep b (hI.fl b hb).1 fun p hp=>by rw [(hI.fl b hb).2] at hp;cases hp
 ·have hb:=(hI.ol b p hp).1
  exact⟨(hO2n b (hRn b hb)).trans hp,hkeep b hb fun q hq=>by rw [hp] at hq;cases hq;exact fun hm'=>hm (Ju _ hm')⟩
 ·rcases hb with hb | hb | ⟨j,hj,hn⟩
  ·obtain⟨h1,h2⟩:=hI.fl b hb
   exact⟨IU h1 hpost.size,(hO2n b (hRn b h1)).trans h2⟩
  ·obtain⟨_,h1,h2⟩:=hpost.fn b hb.1
   exact⟨h1,(hO2n b h2).trans (hOlt b hb.2)⟩
  ·exact⟨(hpost.rn b j hj).2,(hO2s b j hj).trans hn⟩
 ·cases h:R b with
  | none =>
   rw [hO2n b h] at hp;exact⟨IU (hI.ol b p hp).1 hpost.size,(hI.ol b p hp).2⟩
  | some j=>exact⟨(hpost.rn b j h).2,.inl (Jx hB (hpost.rn b j h).1)⟩
 ·rcases hb with hb | hb | ⟨j,hj,_⟩
  ·exact .inl hb
  ·exact .inr (Jx hB hb.2)
  ·exact .inr (Jx hB (hpost.rn b j hj).1)
 ·refine hkeep b (IU hb hB) fun p hp=>?_
  rcases(hI.ol b p hp).2 with h1 | h1
  ·omega
  ·exact absurd h1 hx
theorem Am:∀{ms:List Kd},oo ms=true→∀i lv,(ah ms i = .dat lv∨∃z io,ah ms i = .own z lv io)→lv≤1
 | [],_,i,lv,hk=>by simp [ah] at hk
 | m::ms,h,i,lv,hk=>by
  have:(∀l,m = .dat l→l≤1)∧(∀z l io,m = .own z l io→l≤1)∧oo ms=true:=by
   cases m with
   | dat a =>
    simp only [oo] at h;split at h
    case h_2=>cases h
    rename_i e;exact⟨fun l e'=>by cases e';exact aT.1 e,fun _ _ _ e=>(by cases e),h⟩
   | own z a io =>
    simp only [oo] at h;split at h
    case h_2=>cases h
    rename_i e;exact⟨fun _ e=>(by cases e),fun _ l _ e'=>by cases e';exact aT.1 e,h⟩
   | _=>simp [oo] at h
  obtain⟨h1,h2,h3⟩:=this;cases i with
  | zero =>
   simp only [ah] at hk;rcases hk with hk | ⟨z,io,hk⟩
   ·exact h1 lv hk
   ·exact h2 z lv io hk
  | succ i=>exact Am h3 i lv hk
theorem Be {o:Oper} {q:Call} {f:Nat} (ho:o.op = .call q) (hf:q.callee = .value (.func f)):(execOp a.eval o).run P w=(callFunc f (q.args.map a.eval)).run P w:=by
 simp [execOp,ho,resolve,hf,Deferred.ofValue,Act.eval,invoke]
theorem Bi {o:Oper} {q:Call} {t f:Nat} {us:Array Value} (ho:o.op = .call q) (hf:q.callee = .value (.tmp t)) (hv:av a t = .func (.func f) #[] us):(execOp a.eval o).run P w=(callFunc f (q.args.map a.eval++us)).run P w:=by
 have hv':a.eval (.tmp t) = .func (.func f) #[] us:=hv;simp [execOp,ho,resolve,hf,Deferred.ofValue,hv',invoke]
theorem pI {w:World} {F:Nat→Prop} {ow:Nat→Option Nat}:∀(pm pn:List Kd) (ds cs:List D) (ys us:List Value) (i:Nat),dN w F ow i pm ds ys→dN w F ow (i+pm.length) pn cs us→dN w F ow i (pm++pn) (ds++cs) (ys++us)
 | [],pn,[],cs,[],us,i,_,h=>by simpa using h
 | k::pm,pn,d::ds,cs,y::ys,us,i,h1,h2=>⟨h1.1,pI pm pn ds cs ys us (i+1) h1.2 (by rw [show i+1+pm.length=i+(k::pm).length by simp;omega];exact h2)⟩
 | [],_,_::_,_,_,_,_,h,_=>h.elim
 | [],_,[],_,_::_,_,_,h,_=>h.elim
 | _::_,_,[],_,_,_,_,h,_=>h.elim
 | _::_,_,_::_,_,[],_,_,h,_=>h.elim
theorem xn {K:List Kd}:∀(xs:List Operand) (pm:List Kd) (ags:List Ag),ij K xs pm=some ags→pm.length=xs.length
 | [],[],_,_=>rfl
 | x::xs,m::ms,ags,h=>by
  simp only [ij] at h;split at h
  ·rename_i h1 h2
   simp [xn xs ms _ h2]
  ·cases h
 | [],_::_,_,h=>by simp [ij] at h
 | _::_,[],_,h=>by simp [ij] at h
theorem yt {α:Type}:∀(n:Nat) (l:List α),uK n l=l.take n
 | 0,l=>by simp [uK]
 | n+1,[]=>by simp [uK]
 | n+1,_::l=>by simp [uK,yt n l]
theorem BM {w:World} {F:Nat→Prop} {ow:Nat→Option Nat}:∀(pn:List Kd) (cs:List D) (us:List Value) (i:Nat),jS pn=true→cs.length=pn.length→cs.all D.single=true→bh w F cs us→dN w F ow i pn cs us
 | [],[],us,i,_,_,_,h=>by
  rw [aL] at h;subst h;trivial
 | k::pn,d::cs,us,i,hk,hl,hs,h=>by
  obtain⟨v1,v2,rfl,h1,h2⟩:=ax.1 h;simp only [List.all_cons,IC] at hs;obtain⟨y,rfl,_⟩:=kU d v1 hs.1 h1;cases k with
  | dat lv =>
   simp only [jS] at hk;split at hk
   case h_2=>cases hk
   rename_i e;rw [az] at e;subst e;exact⟨.inr ((gK hs.1).2 h1),BM pn cs v2 (i+1) hk (by simpa using hl) hs.2 h2⟩
  | _=>simp [jS] at hk
 | [],_::_,_,_,_,hl,_,_=>by simp at hl
 | _::_,[],_,_,_,hl,_,_=>by simp at hl
theorem uC {w:World} {F:Nat→Prop}:∀(pm pn:List Kd) (us:List D) (ys zs:List Value),pm.length=ys.length→jS pn=true→mH w F (pm++pn) us (ys++zs)→mH w F pm us ys
 | [],pn,us,[],zs,_,hn,h=>by
  have:∀(pn:List Kd) (us:List D) (zs:List Value),jS pn=true→mH w F pn us zs→us=[]:=by
   intro pn;induction pn with
   | nil =>
    intro us zs _ h;cases us with
    | nil=>rfl
    | cons u us=>exact h.elim
   | cons k pn ih =>
    intro us zs hk h;cases k with
    | dat lv =>
     cases zs with
     | nil=>cases us<;>exact h.elim
     | cons z zs =>
      simp only [mH,lT,JA,if_false] at h;simp only [jS] at hk;split at hk
      ·exact ih us zs hk h
      ·cases hk
    | _=>simp [jS] at hk
  have e:=this pn us zs hn (by simpa using h);subst e;trivial
 | k::pm,pn,us,y::ys,zs,hl,hn,h=>by
  simp only [Js,mH] at h ⊢;split
  ·rename_i hk
   rw [if_pos hk] at h;cases us with
   | nil=>exact h
   | cons u us=>exact⟨h.1,h.2.1,uC pm pn us ys zs (by simpa using hl) hn h.2.2⟩
  ·rename_i hk
   rw [if_neg hk] at h;exact uC pm pn us ys zs (by simpa using hl) hn h
 | [],_,_,_::_,_,hl,_,_=>by simp at hl
 | _::_,_,_,[],_,hl,_,_=>by simp at hl
theorem CN (hS:∀f S,bR c.S f=some S→ay c.G P f S) {o:Oper} {q:Call} {t f:Nat} {S:FS} (ho:o.op = .call q) (hf:q.callee = .value (.tmp t)) (hlk:bR c.S f=some S) {A:Ac} (hA:yQ c o.dst t f S q.args.toList=some A) (hI:Inv c B X w0 F0 F O a w δ)
  {k:List D→Option Out} {r:Out} (hg:co c A δ k=some r) (Q:Exit→Act→World→Prop):o.wp P a w (Next c B X w0 F0 k r) Q:=by
 have hM:=hS f S hlk;unfold yQ at hA;split at hA
 case h_2=>cases hA
 rename_i d lt lr hd hkt hrm;split at hA
 case h_2=>cases hA
 rename_i ags l hags hkd;split at hA
 case h_2=>cases hA
 rename_i hlr hlt hpm hdat hio hbor;cases hA;rw [iY,yt] at hags hpm;rw [iY,rh] at hdat;rw [aT] at hlr hlt;simp only [co,af] at hg;obtain⟨caps,hc1,hg⟩:=Ix.1 hg;rw [fY] at hg;obtain⟨ds,h1,hg⟩:=Ix.1 hg;simp only [Je] at hg;unfold callK at hg;split at hg
 case h_2=>cases hg
 rename_i rs us h2;unfold GF at hc1;split at hc1
 case h_2=>cases hc1
 rename_i g0 l0 hclo;split at hc1
 case isFalse=>cases hc1
 rename_i hcc;cases hc1;obtain⟨rfl,hcl,hcs⟩:=hcc;have hbt:nth δ t ≠ .bad:=fun e=>by rw [e] at hclo;cases hclo
 have hst:=(hI.slot t).resolve_left hbt;rw [hkt] at hst;have hrep:=hst.resolve_left hbt;rw [hclo] at hrep;simp only [bj,RepC] at hrep;obtain⟨uv,hav,hru⟩:=hrep;simp only [IA,and_true] at hav;have hpmE:S.pm=S.pm.take q.args.toList.length++S.pm.drop q.args.toList.length:=(JI _ _).symm;have hlenA:=xn _ _ _ hags;have hFB:∀b,FB F B lt b→F b:=en;have hargs:=xR (F':=F) (ow:=fun _=>none) hI (fun _ h=>h) q.args.toList _ ags 0 ds hags hpm h1 (fun r hr b hb=>by rw [hbor] at hr;cases hr) (fun j r hj b hb=>by
  have:=oF hj;rw [hio] at this;cases this)
 have hcaps:=BM (w:=w) (F:=F) (ow:=fun _=>none) (S.pm.drop q.args.toList.length) caps uv (0+(S.pm.take q.args.toList.length).length) hdat (by rw [hcl,iY,iY,rh]) hcs (bm hFB (fun _ _=>rfl) _ _ hru);have hall:=pI _ _ _ _ _ _ 0 hargs hcaps;rw [←hpmE] at hall;have he:=hM (ds++caps) rs us h2 ((q.args.toList.map a.eval).toArray++uv.toArray) w F (fun _=>none) hI.gl (by simpa using hall) (fun b hb=>⟨(hI.fl b hb).1,rfl⟩) (fun b i hb=>by cases hb) o a (Next c B X w0 F0 k r) Q (fun v w' hp=>?_)
 ·unfold Oper.wp
  rw [Bi ho hf hav];have:q.args.map a.eval=(q.args.toList.map a.eval).toArray:=by rw [←JC,Jj]
  rw [this];exact he
 ·obtain⟨F',R,vs,hv,hp⟩:=hp
  have hpost:CallPost {pm:=S.pm.take q.args.toList.length,rm:=S.rm,f:=S.f} (q.args.toList.map a.eval).toArray rs us w (fun b=>F b∨∃r∈eM ags,O b=some (r,0)) (fun b=>match O b with
   | some (r,0)=>pF ags r 0
   | _=>none) F' R vs w':=by
   refine⟨hp.os,hp.tape,hp.output,hp.size,fun b hb _=>hp.keep b hb rfl,fun b hb=>?_,fun b hb=>⟨?_,(hp.fn b hb).2⟩,hp.rn,hp.len,hp.lenD,hp.res,?_⟩
   ·rcases hb with hb | ⟨r,hr,_⟩
    ·exact hp.f0 b hb
    ·rw [hbor] at hr;cases hr
   ·rcases(hp.fn b hb).1 with h | h
    ·exact .inl (.inl h)
    ·exact .inr h
   ·have hu:=hp.us
    rw [hpmE] at hu;simp only [Array.toList_append] at hu;exact uC _ _ _ _ _ (by simpa using hlenA) hdat hu
  have hvl:=hp.len;rw [hrm] at hvl;obtain⟨y,rfl⟩:=Jp.1 hvl;simp only [gP] at hv;subst hv;have hres:=hp.res 0;rw [hrm] at hres;simp only [ah,JJ] at hres;have hsz:d<δ.length→av (a.put (some d) v) d=v:=fun h=>cy (by rw [hI.la,←hI.ld];exact h)
  obtain⟨F2,O2,hI'⟩:=mj (S:={pm:=S.pm.take q.args.toList.length,rm:=S.rm,f:=S.f}) (v:=v) (dst:=some d) (x:=[nth rs 0]) hI hags hpm h1 (by simp [hio,iW]) (.inl hbor) hpost (.inr ⟨d,nth rs 0,rfl,rfl,by simp [hio,iO]⟩) (fun _=>none) (fun _ _ h=>by cases h) (fun _ _=>rfl) (fun F2 O2 h4 h5 d' y' e1 e2 h6=>by
   cases e1;simp only [IA,and_true] at e2;subst e2;by_cases hb:nth rs 0 = .bad
   ·exact .inl hb
   ·refine .inr ?_
    rw [hkd,hsz h6];exact .inr (aO (fun b hb=>jm hlr _ (h4 lr b (.inl hbor) hb)) (fun _ _=>rfl) (hres.resolve_left hb)))
  have hus:us=[]:=by
   have h3:=(sx (c:=c) (a:=a) (δ:=δ) ags _ q.args.toList us (rT hI _ _ _ _ hags hpm h1) (by simpa using hpost.us)).1;rw [hio] at h3;exact Jy h3
  subst hus;refine⟨F2,O2,_,by rw [hd];exact hI',?_⟩
  rw [hio];simpa using hg
theorem Bu (hS:∀f S,bR c.S f=some S→ay c.G P f S) {o:Oper} {q:Call} {f:Nat} {S:FS} (ho:o.op = .call q) (hf:q.callee = .value (.func f)) (hlk:bR c.S f=some S) {A:Ac} (hA:qs c o.dst S q.args.toList=some A) (hI:Inv c B X w0 F0 F O a w δ)
  {k:List D→Option Out} {r:Out} (hg:co c A δ k=some r) (Q:Exit→Act→World→Prop):o.wp P a w (Next c B X w0 F0 k r) Q:=by
 have hM:=hS f S hlk;unfold qs at hA;split at hA
 ·cases hA
 rename_i ags hags;simp only at hA;split at hA
 case h_2=>cases hA
 rename_i hokB hnd hpm;have hbor:eM ags=[]∨(oo S.rm=true∧io0 S.pm=true∧uI (eM ags) (de ags)=true):=by
  split at hokB
  ·rename_i e;exact .inl e
  ·split at hokB
   ·rename_i h1 h2;exact .inr ⟨h1,h2,hokB⟩
   ·cases hokB
 have hbor':eM ags=[]∨(oo S.rm=true∧io0 S.pm=true):=hbor.imp id fun h=>⟨h.1,h.2.1⟩
 have call:∀(ds rs us:List D),bJ ags (af δ (dW ags))=some ds→S.f ds=some (.ret rs us)→(∀v w' F' R vs,v=gP vs→CallPost S (q.args.toList.map a.eval).toArray rs us w (fun b=>F b∨∃r∈eM ags,O b=some (r,0)) (fun b=>match O b with
   | some (r,0)=>pF ags r 0
   | _=>none) F' R vs w'→Next c B X w0 F0 k r (a.put o.dst v) w')→o.wp P a w (Next c B X w0 F0 k r) Q:=by
  intro ds rs us h1 h2 h3;have hargs:=xR (F':=fun b=>F b∨∃r∈eM ags,O b=some (r,0)) (ow:=fun b=>match O b with
   | some (r,0)=>pF ags r 0
   | _=>none) hI (fun _ h=>.inl h) q.args.toList S.pm ags 0 ds hags hpm h1 (fun r hr b hb=>.inr ⟨r,hr,hb⟩) (fun j r hj b hb=>by simp only [hb];rw [tP hnd hj])
  have he:=hM ds rs us h2 (q.args.toList.map a.eval).toArray w _ _ (uZ (fun _ h=>Or.inl h) (fun _ _=>rfl) hI.gl) (by simpa using hargs) (fun b hb=>?_) (fun b i hb=>?_) o a (Next c B X w0 F0 k r) Q (fun v w' hp=>?_)
  ·unfold Oper.wp
   rw [Be ho hf];have:q.args.map a.eval=(q.args.toList.map a.eval).toArray:=by rw [←JC,Jj]
   rw [this];exact he
  ·rcases hb with hb | ⟨r',hr,hb⟩
   ·obtain⟨g1,g2⟩:=hI.fl b hb
    exact⟨g1,by simp only [g2]⟩
   ·refine⟨(hI.ol b _ hb).1,?_⟩
    simp only [hb];cases h:pF ags r' 0 with
    | none=>rfl
    | some j =>
     rcases hbor with h0 | ⟨_,_,h0⟩
     ·rw [h0] at hr;cases hr
     ·exact absurd (nY h) (wM h0 r' hr)
  ·split at hb
   ·rename_i r' hr;exact(hI.ol b _ hr).1
   ·cases hb
  ·obtain⟨F',R,vs,h4,h5⟩:=hp
   exact h3 v w' F' R vs h4 h5
 have asm:∀(K:List D→List D→Option Out),fE [] ags (af δ (dW ags)) (fun ds=>callK (S.f ds) K)=some r→∃ds rs us,bJ ags (af δ (dW ags))=some ds∧S.f ds=some (.ret rs us)∧K rs us=some r:=by
  intro K h;rw [fY] at h;obtain⟨ds,h1,h2⟩:=Ix.1 h;simp only [Je] at h2;unfold callK at h2;split at h2
  ·rename_i rs us h3
   exact⟨ds,rs,us,h1,h3,h2⟩
  ·cases h2
 have uslen:∀{ds rs us:List D} {F':Nat→Prop} {R:Nat→Option Nat} {vs:List Value} {w':World} {F1:Nat→Prop} {ow:Nat→Option Nat},bJ ags (af δ (dW ags))=some ds→CallPost S (q.args.toList.map a.eval).toArray rs us w F1 ow F' R vs w'→qs.outs us (de ags)=us:=by
  intro ds rs us F' R vs w' F1 ow h1 h2;have h3:=(sx (c:=c) (a:=a) (δ:=δ) ags S.pm q.args.toList us (rT hI _ _ _ _ hags hpm h1) (by simpa using h2.us)).1;unfold qs.outs;rw [BF us _ 0 (by omega),IJ,←h3,List.take_length]
 have hlv0:∀i lv,(ah S.rm i = .dat lv∨∃z io,ah S.rm i = .own z lv io)→eM ags=[]∨lv≤1:=fun i lv hk=>hbor'.imp id fun h=>Am h.1 i lv hk
 split at hA
 ·rename_i hd
  split at hA
  case h_2=>cases hA
  rename_i hrm;cases hA;obtain⟨ds,rs,us,h1,h2,h3⟩:=asm _ hg;refine call ds rs us h1 h2 (fun v w' F' R vs hv hp=>?_)
  obtain⟨F2,O2,hI'⟩:=mj (v:=v) (dst:=none) (x:=[]) hI hags hpm h1 hnd hbor' hp (.inl ⟨rfl,rfl⟩) (fun _=>none) (fun _ _ h=>by cases h) (fun _ _=>rfl) (fun _ _ _ _ _ _ h=>by cases h);rw [uslen h1 hp] at h3;exact⟨F2,O2,_,by rw [hd];exact hI',h3⟩
 ·rename_i d hd
  split at hA
  ·rename_i h1' h2' hrm
   cases hA;obtain⟨ds,rs,us,h1,h2,h3⟩:=asm _ hg;refine call ds rs us h1 h2 (fun v w' F' R vs hv hp=>?_)
   obtain⟨F2,O2,hI'⟩:=mj (v:=v) (dst:=some d) (x:=[.bad]) hI hags hpm h1 hnd hbor' hp (.inr ⟨d,.bad,rfl,rfl,h2'⟩) (fun _=>none) (fun _ _ h=>by cases h) (fun _ _=>rfl) (fun _ _ _ _ d y _ h _=>by
    simp only [IA,and_true] at h;exact .inl h.symm)
   rw [uslen h1 hp] at h3;exact⟨F2,O2,_,by rw [hd];exact hI',h3⟩
  ·rename_i kd h1' h2' hrm
   cases hA;obtain⟨ds,rs,us,h1,h2,h3⟩:=asm _ hg;refine call ds rs us h1 h2 (fun v w' F' R vs hv hp=>?_)
   have hvl:=hp.len;rw [hrm] at hvl;obtain⟨y,rfl⟩:=Jp.1 hvl;simp only [gP] at hv;subst hv;have hres:=hp.res 0;rw [hrm] at hres;simp only [ah,JJ] at hres;rw [hrm] at h1';have hlv:=hlv0 0;rw [hrm] at hlv;simp only [ah] at hlv;have fin:∀(g:Nat→Option (Nat × Nat)),(∀j p,g j=some p→p.1=d)→(∀(F2:Nat→Prop) (O2:Nat→Option (Nat × Nat)),(∀lv b,(eM ags=[]∨lv≤1)→FB F' w.heap.size lv b→FB F2 B lv b)→(∀b j,R b=some j→O2 b=g j∧B≤b∧(g j=none→F2 b))→d<δ.length→qd c.K B F2 O2 (a.put (some d) v) w' d (nth rs 0)) →
     Next c B X w0 F0 k r (a.put o.dst v) w':=by
    intro g hg' hU;obtain⟨F2,O2,hI'⟩:=mj (v:=v) (dst:=some d) (x:=[nth rs 0]) hI hags hpm h1 hnd hbor' hp (.inr ⟨d,nth rs 0,rfl,rfl,h2'⟩) g (fun j p h d' e=>by cases e;exact hg' j p h) (fun h=>by cases h) (fun F2 O2 h4 h5 d' y' e1 e2 h6=>by
     cases e1;simp only [IA,and_true] at e2;subst e2;exact hU F2 O2 h4 h5 h6)
    rw [uslen h1 hp] at h3;exact⟨F2,O2,_,by rw [hd];exact hI',h3⟩
   have hsz:d<δ.length→av (a.put (some d) v) d=v:=fun h=>cy (by rw [hI.la,←hI.ld];exact h)
   by_cases hb:nth rs 0 = .bad
   ·exact fin (fun _=>none) (fun _ _ h=>by cases h) (fun _ _ _ _ _=>.inl hb)
   have hres:=hres.resolve_left hb;cases kd with
   | dat lv =>
    simp only [Ab] at h1';split at h1'
    case h_2=>cases h1'
    rename_i l hkd;rw [aT] at h1';refine fin (fun _=>none) (fun _ _ h=>by cases h) (fun F2 O2 h4 h5 h6=>.inr ?_)
    rw [hkd,hsz h6];exact .inr (aO (fun b hb=>jm h1' _ (h4 lv b (hlv lv (.inl rfl)) hb)) (fun _ _=>rfl) hres)
   | own z lv io =>
    cases io
    case true =>
     simp only [Ab] at h1';split at h1'
     ·simp [eU] at h1'
     ·cases h1'
    simp only [Ab] at h1';have hlv':=hlv lv (.inr ⟨z,false,rfl⟩);rcases mX h1' with ⟨l,hkd,hle⟩ | ⟨l,hkd,h1l,hle⟩
    ·refine fin (fun _=>some (d,0)) (fun _ _ h=>by cases h;rfl) (fun F2 O2 h4 h5 h6=>.inr ?_)
     rw [hkd,hsz h6];exact .inr (cm (fun b hb=>jm hle _ (h4 lv b hlv' hb)) (fun _ _=>rfl) (fun b _ hb=>⟨⟨(h5 b 0 hb.1).1,fun _=>(h5 b 0 hb.1).2.1⟩,rfl⟩) hres)
    ·refine fin (fun _=>none) (fun _ _ h=>by cases h) (fun F2 O2 h4 h5 h6=>.inr ?_)
     rw [hkd,hsz h6];refine .inr (aO (fun b hb=>?_) (fun _ _=>rfl) (iH hres))
     rcases hb with hb | ⟨hb1,hb2⟩
     ·exact jm hle _ (h4 lv b hlv' hb)
     ·obtain⟨_,g2,g3⟩:=h5 b 0 hb1
      match l,h1l with
      | 1,_=>exact⟨g3 rfl,g2⟩
      | _+2,_=>exact g3 rfl
   | _=>exact hres.elim
  ·rename_i h1' h2' hn0 hn1
   cases hA;obtain⟨ds,rs,us,h1,h2,h3⟩:=asm _ hg;refine call ds rs us h1 h2 (fun v w' F' R vs hv hp=>?_)
   have hvl:=hp.len;have hfit:∃ns,ah c.K d = .tup ns∧eU S.rm ns=true:=by
    unfold Ab at h1';split at h1'
    ·rename_i e;exact absurd e (hn1 _)
    ·rename_i e;exact absurd e (hn1 _)
    ·rename_i e;exact absurd e hn0
    ·split at h1'
     ·exact⟨_,‹_›,h1'⟩
     ·cases h1'
   obtain⟨ns,hkd,hsame⟩:=hfit;have hv2:v = .tuple vs.toArray:=by
    rw [hv];unfold gP;split
    ·rename_i y
     exfalso;have:S.rm.length=1:=by rw [←hvl];rfl
     obtain⟨kk,e⟩:=Jp.1 this;exact hn1 _ e
    ·rfl
   obtain⟨F2,O2,hI'⟩:=mj (v:=v) (dst:=some d) (x:=[.tup rs]) hI hags hpm h1 hnd hbor' hp (.inr ⟨d,.tup rs,rfl,rfl,h2'⟩) (fun j=>some (d,j+1)) (fun j p h d' e=>by cases e;cases h;rfl) (fun h=>by cases h) (fun F2 O2 h4 h5 d' y' e1 e2 h6=>by
    cases e1;simp only [IA,and_true] at e2;subst e2;refine .inr ?_
    rw [hkd,cy (by rw [hI.la,←hI.ld];exact h6),hv2];refine⟨rs,vs.toArray,rfl,rfl,fun i=>?_⟩
    obtain⟨e1,e2⟩:=sg hsame i;rw [e1];have hgd:vs.toArray.getD i undef=vs.getD i undef:=by simp
    rw [hgd];rcases hp.res i with hb | hres
    ·exact .inl hb
    rcases e2 with e2 | ⟨lv,e2⟩ | ⟨z,lv,e2⟩
    ·rw [e2] at hres;exact hres.elim
    ·rw [e2] at hres ⊢
     exact .inr (aO (fun b hb=>h4 lv b (hlv0 i lv (.inl e2)) hb) (fun _ _=>rfl) hres)
    ·rw [e2] at hres ⊢
     exact .inr (cm (fun b hb=>h4 lv b (hlv0 i lv (.inr ⟨z,false,e2⟩)) hb) (fun _ _=>rfl) (fun b _ hb=>⟨⟨(h5 b i hb.1).1,fun _=>(h5 b i hb.1).2.1⟩,rfl⟩) hres))
   rw [uslen h1 hp] at h3;exact⟨F2,O2,_,by rw [hd];exact hI',h3⟩
  ·cases hA
end
end Go.V

namespace Go.V
open Go.RowKit
set_option maxRecDepth 100000
section
variable {P:Program} {c:Cx} {B:Nat} {X:Nat→Prop} {w0:World} {F0 F:Nat→Prop} {O:Nat→Option (Nat × Nat)} {a:Act} {w:World} {δ:List D}
theorem Inv.itr (h:Inv c B X w0 F0 F O a w δ) {s:Nat} (hk:ah c.K s = .itr) (hb:nth δ s ≠ .bad):Fy w (fun g=>O g=some (s,0)∧B≤g) (nth δ s) (av a s):=by
 have h0:=(h.slot s).resolve_left hb;rw [hk] at h0;exact h0.resolve_left hb
theorem Inv.freshI (h:Inv c B X w0 F0 F O a w δ) {d:Nat} (hk:ah c.K d = .itr) (s:ByteArray) :
  ∃F' O',Inv c B X w0 F0 F' O' (a.put (some d) (.pointer (some ⟨w.heap.size,0,none⟩))) (w.alloc (.stringIter s 0)) (ae δ ([d]++([]++aB c.K [d])) [.itr s 0]):=by
 have sz:w.heap.size≤(w.alloc (.stringIter s 0)).heap.size:=by simp
 have hw:∀b,b<w.heap.size→(w.alloc (.stringIter s 0)).heap[b]?=w.heap[b]?:=fun b hb=>heap_alloc_old w _ hb
 have hg:w.heap.size<(w.alloc (.stringIter s 0)).heap.size:=by simp
 refine⟨F,dE O (.pointer (some ⟨w.heap.size,0,none⟩)) (some (d,0)),h.many (by simp) em rfl (fun s hs=>bz fun e=>hs (by simp [e])) (by simp) (fun s' hs=>?_) (fun _ hb=>hb) (fun b hb=>hw b (h.fl b hb).1) (fun b p hp _=>⟨?_,hw b (h.ol b p hp).1⟩) (fun b hb=>⟨IU (h.fl b hb).1 sz,?_⟩) (fun b p hp=>?_) (fun _ hb=>.inl hb) sz rfl rfl rfl (fun b hb _=>hw b (IU hb h.bb))⟩
 ·rw [List.append_nil] at hs ⊢
  rcases dG (δ:=δ) (x:=.itr s 0) (ts:=[]) hs with e | ⟨rfl,hd,e⟩
  ·exact .inl e
  ·refine .inr ?_
   simp only [Jb] at e;rw [hk,e,cy (by rw [h.la,←h.ld];exact hd)];exact .inr ⟨s,0,_,rfl,rfl,heap_alloc_new w _,qS rfl,h.bb⟩
 ·have:=(h.ol b p hp).1
  rw [eI (fun e=>by rw [oV] at e;omega)];exact hp
 ·have:=(h.fl b hb).1
  rw [eI (fun e=>by rw [oV] at e;omega)];exact(h.fl b hb).2
 ·by_cases e:w.heap.size=b
  ·subst e
   exact⟨hg,.inl h.bb⟩
  ·rw [eI (fun e'=>e (oV.1 e'))] at hp
   exact⟨IU (h.ol b p hp).1 sz,(h.ol b p hp).2⟩
theorem zW (hT:okT P c.T=true) {o:Oper} {t:Nat} {x:Operand} (ho:o.op = .range t x):eZ P c o:=by
 intro A hA B X w0 F0 F O a w δ hI k r hg Q;simp only [bC,ho] at hA;obtain⟨i,hi,hA⟩:=ao hA;split at hA
 case h_2=>cases hA
 rename_i hstr;have hti:=tok hT hi;unfold FP at hA;split at hA
 ·cases hA
 rename_i d hd;split at hA
 case h_2=>cases hA
 rename_i hk hlv;cases hA;simp only [co] at hg;rw [bk] at hg;obtain⟨y,h1,h2⟩:=Ix.1 hg;obtain⟨d1,e,h1⟩:=aQ h1;simp only [ID,Jb,IA,and_true] at e;subst e;unfold itD at h1;split at h1
 case h_2=>cases h1
 rename_i s hs;cases h1;have hx:=(hI.opd (aT.1 hlv)).rep (by rw [hs];simp);rw [hs] at hx;simp only [bj,RepC] at hx;have hv:a.eval x = .string s:=by simpa using hx.1
 have hrun:(execOp a.eval o).run P w = .ok (.value (.pointer (some ⟨w.heap.size,0,none⟩))) (w.alloc (.stringIter s 0)):=by
  refine bX (s:=Instr.range t (a.eval x)) (by simp only [execOp,ho]) ?_
  rw [hv];exact run_range_string w t s (hti.str hstr).1
 obtain⟨F',O',hI'⟩:=hI.freshI hk s;exact bt hd hrun hI' h2 Q
theorem run_next_at {g:Nat} {s:ByteArray} {p:Nat} (ty:TypeId) (hg:w.heap[g]?=some (.stringIter s p)) (h:p<s.size) (ha:(s[p]'h).toNat<128) :
  (JB (.pointer (some ⟨g,0,none⟩)) true ty).run P w = .ok (.tuple #[.bool true,.int .i64 p,.int .i32 (s[p]'h).toNat]) {w with heap:=w.heap.setIfInBounds g (.stringIter s (p+1))}:=by
 have hl:=(IV.1 hg).1;simp only [JB,getObj,setObj,Sem.run_bind,Sem.run,hg,Jg,h,if_true,decode_ascii s p h ha];simp [goInt]
theorem we {g:Nat} {s:ByteArray} {p:Nat} (ty:TypeId) (hg:w.heap[g]?=some (.stringIter s p)) (h:¬p<s.size) :
  (JB (.pointer (some ⟨g,0,none⟩)) true ty).run P w = .ok (.tuple #[.bool false]) w:=by
 simp [JB,getObj,Sem.run,hg,h]
theorem Inv.nextI (h:Inv c B X w0 F0 F O a w δ) {d q g l1 l2 l3:Nat} (hq:ah c.K q = .itr) (hk:ah c.K d = .tup [.dat l1,.dat l2,.dat l3]) (hO:O g=some (q,0)) (hB:B≤g) (hy:av a q = .pointer (some ⟨g,0,none⟩))
  (s:ByteArray) (p:Nat) {vs:Array Value} {l:List D} (hl:l=vs.toList.map .v) (hf:∀v∈vs.toList,flat v=true) (h3:vs.size≤3) {w':World} (hg:w'.heap[g]?=some (.stringIter s p)) (hw:∀b,b≠g→w'.heap[b]?=w.heap[b]?) (sz:w'.heap.size=w.heap.size)
  (os:w'.os=w.os) (tape:w'.tape=w.tape) (output:w'.output=w.output) :
  Inv c B X w0 F0 F O (a.put (some d) (.tuple vs)) w' (ae δ ([d]++([q]++aB c.K [d])) [.tup l,.itr s p]):=by
 have hdq:d≠q:=fun e=>by
  subst e;rw [hq] at hk;cases hk
 have e0:∀t,nth (ae δ ([d]++[q]) [.tup l,.itr s p]) t=if t=q then(if q<δ.length then .itr s p else .bad) else if t=d then(if d<δ.length then .tup l else .bad) else nth δ t:=by
  intro t;simp only [Js,Je,ae];by_cases h1:t=q
  ·subst h1
   rw [if_pos rfl,aV,ed]
  ·rw [if_neg h1,bN _ _ _ _ h1]
   by_cases h2:t=d
   ·subst h2
    rw [if_pos rfl,aV]
   ·rw [if_neg h2,bN _ _ _ _ h2]
 have hgl:=(h.ol g _ hO).1;refine h.many (by simp) em rfl (fun s hs=>bz fun e=>hs (by simp [e])) (fun r hr _ hb=>?_) (fun t ht=>?_) (fun _ hb=>hb) (fun b hb=>hw b fun e=>?_) (fun b p' hp hn=>⟨hp,hw b fun e=>?_⟩) (fun b hb=>⟨by rw [sz];exact(h.fl b hb).1,(h.fl b hb).2⟩) (fun b p' hp=>⟨by rw [sz];exact(h.ol b p' hp).1,(h.ol b p' hp).2⟩) (fun _ hb=>.inl hb) (Nat.le_of_eq sz.symm) os tape output (fun b hb _=>hw b (by omega))
 ·simp at hr
  subst hr;rw [e0,if_pos rfl];by_cases hlt:r<δ.length
  ·rw [if_pos hlt]
   simp
  ·refine absurd ?_ hb
   rw [dA,Iz,II (by omega)];rfl
 ·rw [e0]
  by_cases h1:t=q
  ·subst h1
   rw [if_pos rfl];by_cases hlt:t<δ.length
   ·rw [if_pos hlt]
    refine .inr ?_
    rw [hq,bz (Jz hdq),hy];exact .inr ⟨s,p,g,rfl,rfl,hg,hO,hB⟩
   ·rw [if_neg hlt]
    exact .inl rfl
  ·have h2:t=d:=by simpa [h1] using ht
   subst h2;rw [if_neg h1,if_pos rfl];by_cases hlt:t<δ.length
   ·rw [if_pos hlt]
    refine .inr ?_
    rw [hk,cy (by rw [h.la,←h.ld];exact hlt)];refine⟨l,vs,rfl,rfl,fun i=>?_⟩
    subst hl;by_cases hi:i<vs.size
    ·have hv:nth (vs.toList.map D.v) i = .v vs[i]:=by
      rw [dA,Iz];simp [hi]
     have hv2:vs.getD i undef=vs[i]:=by simp [Array.getD,hi]
     rw [hv,hv2];refine .inr ?_
     have hfl:=hf vs[i] (by simp);obtain⟨v,hv0⟩:∃v,v=vs[i]:=⟨_,rfl⟩
     rw [←hv0] at hfl ⊢;clear hv hv2 hv0
     match i,hi with
     | 0,_=>exact dc hfl
     | 1,_=>exact dc hfl
     | 2,_=>exact dc hfl
     | i+3,hi=>omega
    ·refine .inl ?_
     rw [dA,Iz,II (by simpa using hi)];rfl
   ·rw [if_neg hlt]
    exact .inl rfl
 ·subst e
  rw [(h.fl b hb).2] at hO;cases hO
 ·subst e
  rw [hO] at hp;cases hp;exact hn (by simp)
theorem AM {o:Oper} {q:Nat} (ho:o.op = .next (.tmp q) true):eZ P c o:=by
 intro A hA B X w0 F0 F O a w δ hI k r hg Q;simp only [bC,ho] at hA;unfold FV at hA;split at hA
 ·cases hA
 rename_i d hd;split at hA
 case h_2=>cases hA
 rename_i l1 l2 l3 hq hk;cases hA;simp only [co,af,cM,nth] at hg;obtain⟨y,h1,h2⟩:=Ix.1 hg;have hb:nth δ q ≠ .bad:=fun e=>by
  rw [e] at h1;simp [nxS] at h1
 obtain⟨s,p,g,a1,a2,a3,a4,a5⟩:=hI.itr hq hb;have hgl:=(hI.ol g _ a4).1;rw [a1] at h1 h2;simp only [nxS] at h1;simp only [nxT] at h2;have hex:execOp a.eval o=(do pure (.value (←JB (av a q) true o.type))):=by simp only [execOp,ho,br]
 split at h1
 ·rename_i ch hch
  split at h1
  case isFalse=>cases h1
  rename_i hasc;cases h1;rw [hch] at h2;have hlt:p<s.size:=by
   have:=(IY.1 hch).1;rw [JK] at this;exact this
  have hcc:s[p]'hlt=ch:=by
   have:=(IY.1 hch).2;rw [←this];rfl
  have hr:=run_next_at (P:=P) o.type a3 hlt (by rw [hcc];exact hasc);rw [hcc] at hr;refine bt hd (bX hex (by rw [a2];exact hr)) (hI.nextI (w':={w with heap:=w.heap.setIfInBounds g (.stringIter s (p+1))}) hq hk a4 a5 a2 s (p+1) (vs:=#[.bool true,.int .i64 p,.int .i32 ch.toNat]) rfl (by simp [flat]) (by simp) ?_ (fun b hne=>?_) ?_ rfl rfl rfl) h2 Q
  ·simp [hgl]
  ·simp [Jz hne]
  ·simp
 ·rename_i hch
  cases h1;rw [hch] at h2;have hlt:¬p<s.size:=by
   have:=List.getElem?_eq_none_iff.1 hch;rw [JK] at this;exact Nat.not_lt.2 this
  have hr:=we (P:=P) o.type a3 hlt;exact bt hd (bX hex (by rw [a2];exact hr)) (hI.nextI hq hk a4 a5 a2 s p (vs:=#[.bool false]) rfl (by simp [flat]) (by simp) a3 (fun _ _=>rfl) rfl rfl rfl rfl) h2 Q
theorem vK {o:Oper} {t:Nat} (ho:o.op = .makeMap t none):eZ P c o:=by
 intro A hA B X w0 F0 F O a w δ hI k r hg Q;simp only [bC,ho] at hA;obtain⟨i,hi,hA⟩:=ao hA;split at hA
 case h_2=>cases hA
 unfold Fq at hA;split at hA
 ·cases hA
 rename_i d hd;split at hA
 case h_2=>cases hA
 rename_i hk;cases hA;simp only [co] at hg;have hrun:(execOp a.eval o).run P w = .ok (.value (.map (some w.heap.size))) (w.alloc (.map #[] 0)):=by
  refine bX (s:=Instr.makeMap t none) (by simp only [execOp,ho,Option.map_none]) ?_
  simp [Instr.makeMap,newObj,Sem.run]
 obtain⟨F',O',hI'⟩:=hI.installM (ts:=[]) (l:=[]) (es:=#[]) (clock:=0) (.inl hk) (heap_alloc_new w _) ⟨Go.MapKept.stamped_empty 0,rfl⟩ hI.bb (.inl (JP _)) (by simp) (fun b hb=>heap_alloc_old w _ hb) rfl rfl rfl;exact bt hd hrun hI' hg Q
theorem xu (n:Int) (v:Bool) (fk:MapEntry→MapEntry) (hf:∀e,(fk e).key = .int .i64 n∧(fk e).val = .bool v):∀(l:List (Int × Bool)) (es:List MapEntry) (i:Nat),
  es.map (fun e=>(e.key,e.val))=l.map (fun p=>(JV .i64 p.1,JQ p.2)) →
  (IM (.int .i64) (.int .i64 n) es i=some none∧lR l n=false∧jA l n v=l++[(n,v)]) ∨
  ∃p e,IM (.int .i64) (.int .i64 n) es i=some (some (i+p,.bool (lR l n)))∧es[p]?=some e∧e.key = .int .i64 n∧(es.modify p fk).map (fun e=>(e.key,e.val))=(jA l n v).map fun p=>(JV .i64 p.1,JQ p.2)
 | [],[],_,_=>.inl ⟨rfl,rfl,rfl⟩
 | [],_::_,_,h=>by cases h
 | _::_,[],_,h=>by cases h
 | (m,b)::l,e::es,i,h=>by
  simp only [ID,IA,JW] at h;obtain⟨⟨h1,h2⟩,h3⟩:=h;by_cases hm:m=n
  ·subst hm
   refine .inr ⟨0,e,by simp [IM,Jq,h1,h2,lR],rfl,h1,?_⟩
   simp [jA,hf,h3]
  ·have hnm:(n==m)=false:=beq_eq_false_iff_ne.2 (Jz hm)
   rcases xu n v fk hf l es (i+1) h3 with ⟨g1,g2,g3⟩ | ⟨p,e',g1,g2,g3,g4⟩
   ·refine .inl ⟨by simp [IM,Jq,h1,hnm,g1],by simp [lR,hm,g2],by simp [jA,hm,g3]⟩
   ·refine .inr ⟨p+1,e',?_,by simpa using g2,g3,?_⟩
    ·simp [IM,Jq,h1,hnm,g1,lR,hm]
     omega
    ·simp [jA,hm,h1,h2,g4]
theorem Bz (n:Int):∀(l:List (Int × Bool)) (es:List MapEntry) (i:Nat),es.map (fun e=>(e.key,e.val))=l.map (fun p=>(JV .i64 p.1,JQ p.2))→IM (.int .i64) (.int .i64 n) es i=some none→∀e∈es,e.key ≠ .int .i64 n
 | _,[],_,_,_,e,he=>by cases he
 | [],_::_,_,h,_,_,_=>by cases h
 | (m,b)::l,e::es,i,h,hf,x,hx=>by
  simp only [ID,IA,JW] at h;obtain⟨⟨h1,h2⟩,h3⟩:=h;by_cases hm:m=n
  ·subst hm
   simp [IM,Jq,h1] at hf
  ·have hnm:(n==m)=false:=beq_eq_false_iff_ne.2 (Jz hm)
   simp [IM,Jq,h1,hnm] at hf;rcases IG.1 hx with rfl | hx
   ·rw [h1]
    simp [hm]
   ·exact Bz n l es (i+1) h3 hf x hx
theorem oX (n:Int):Go.MapKept.IsKey (.int .i64) (.int .i64 n):=rfl
theorem pY {t k e:TypeId} {g:Nat} {es:Array MapEntry} {clock:Nat} {l:List (Int × Bool)} {n:Int} (hu:P.underlying t=some (.map k e)) (hk:P.underlying k=some (.int .i64)) (hz:∀w:World,(zeroValue e).run P w = .ok (.bool false) w)
  (hb:w.heap[g]?=some (.map es clock)) (he:nv es clock l):(Jn t (.map (some g)) (.int .i64 n) false).run P w = .ok (.bool (lR l n)) w:=by
 rcases xu n false (fun e=>{e with key:=.int .i64 n,val:=.bool false}) (fun _=>⟨rfl,rfl⟩) l es.toList 0 he.2 with ⟨g1,g2,_⟩ | ⟨p,e',g1,_,_,_⟩
 ·simp [Jn,run_underlying hu,IK hb,IP hk (oX n),IQ hk g1,hz,Jg,g2]
 ·simp [Jn,run_underlying hu,IK hb,IP hk (oX n),IQ hk g1,Jg]
theorem um {t k e:TypeId} {n:Int} (hu:P.underlying t=some (.map k e)) (hk:P.underlying k=some (.int .i64)) (hz:∀w:World,(zeroValue e).run P w = .ok (.bool false) w) :
  (Jn t (.map none) (.int .i64 n) false).run P w = .ok (.bool false) w:=by
 simp [Jn,run_underlying hu,IP hk (oX n),IQ hk (show IM (.int .i64) (.int .i64 n) [] 0=some none from rfl),hz,Jg]
theorem vZ {t k e:TypeId} {g:Nat} {es:Array MapEntry} {clock:Nat} {l:List (Int × Bool)} {n:Int} {v:Bool} (hu:P.underlying t=some (.map k e)) (hk:P.underlying k=some (.int .i64))
  (hb:w.heap[g]?=some (.map es clock)) (he:nv es clock l):∃es' clock',(JG t (.map (some g)) (.int .i64 n) (.bool v)).run P w = .ok () {w with heap:=w.heap.setIfInBounds g (.map es' clock')}∧nv es' clock' (jA l n v):=by
 rcases xu n v (fun e=>{e with key:=.int .i64 n,val:=.bool v}) (fun _=>⟨rfl,rfl⟩) l es.toList 0 he.2 with ⟨g1,_,g3⟩ | ⟨p,e',g1,g2,g3,g4⟩
 ·refine⟨es.push {key:=.int .i64 n,val:=.bool v,born:=clock},clock+1,?_,?_⟩
  ·simp [JG,run_underlying hu,IK hb,IP hk (oX n),IQ hk g1,Go.MapKept.run_setObj_map _ hb,Jg]
  ·refine⟨Go.MapKept.stamped_push he.1 fun x hx=>?_,?_⟩
   ·exact Bz n l es.toList 0 he.2 g1 x hx
   ·rw [g3]
    simp [he.2]
 ·refine⟨es.modify p fun e=>{e with key:=.int .i64 n,val:=.bool v},clock,?_,?_⟩
  ·have hj:es[p]?=some e':=by simpa using g2
   have hs:=Go.MapKept.run_keyThatStays (P:=P) (w:=w) (oX n);simp [JG,run_underlying hu,IK hb,IP hk (oX n),IQ hk g1,hj,g3,hs,Go.MapKept.run_setObj_map _ hb,Jg]
  ·refine⟨Go.MapKept.stamped_modify he.1 p _ (fun _ _=>rfl) fun e h1 h2=>?_,?_⟩
   ·have hj:es[p]?=some e':=by simpa using g2
    rw [hj] at h2;cases h2;exact g3.symm
   ·rw [Array.toList_modify]
    exact g4
theorem AB (hT:okT P c.T=true) {o:Oper} {x:Operand} {t:Nat} (ho:o.op = .call {callee:=.builtin .len,args:=#[x],argTypes:=#[t]}) {i:TI} (hi:bR c.T t=some i)
  (hm:i.mp=true) {A:Ac} (hA:Fe c o.dst x=some A) (hI:Inv c B X w0 F0 F O a w δ) {k:List D→Option Out} {r:Out} (hg:co c A δ k=some r) (Q:Exit→Act→World→Prop):o.wp P a w (Next c B X w0 F0 k r) Q:=by
 obtain⟨kt,et,hu,hkt,hz0⟩:=(tok hT hi).mp hm;unfold Fe at hA;split at hA
 case h_2=>cases hA
 split at hA
 case h_2=>cases hA
 refine aH hA hI hg (fun hx z hz=>?_) Q
 obtain⟨d1,e,hz⟩:=aQ hz;simp only [ID,Jb,IA,and_true] at e;subst e;have hr:=(hx _ (List.mem_singleton.2 rfl)).2;unfold Gv at hz;split at hz
 case h_2=>cases hz
 rename_i l hl;cases hz;rw [hl] at hr;have hr2:=hr.rep (by simp);replace hr2:RepC _ _ (.mp l) [_]:=hr2;simp only [RepC] at hr2;have run:∀y:Value,(JL #[t] o.type #[y]).run P w = .ok (goInt l.length) w→∀x:Operand,o.op = .call {callee:=.builtin .len,args:=#[x],argTypes:=#[t]}→a.eval x=y→(execOp a.eval o).run P w = .ok (.value (goInt l.length)) w:=fun y h1 x hx2 h2=>by
  simp only [execOp,hx2,resolve,invoke,builtin,Sem.run_bind,Sem.run_pure,Result.andThen_ok,JC,ID,Jb,h2,h1]
 refine⟨_,run _ ?_ _ ho rfl,gc rfl rfl⟩
 rcases hr2 with ⟨h1,rfl⟩ | ⟨g,es,clock,h1,_,hb,he⟩
 ·simp only [IA,and_true] at h1
  rw [h1];simp [JL,run_underlying hu,goInt]
 ·simp only [IA,and_true] at h1
  rw [h1];have hl2:es.size=l.length:=by
   have:=congrArg List.length he.2;simpa using this
  simp [JL,run_underlying hu,goInt,IK hb,hl2]
theorem xP (hT:okT P c.T=true) {o:Oper} {t q:Nat} {x:Operand} (ho:o.op = .lookup t (.tmp q) x false):eZ P c o:=by
 intro A hA B X w0 F0 F O a w δ hI k r hg Q;simp only [bC,ho] at hA;obtain⟨i,hi,hA⟩:=ao hA;split at hA
 case h_2=>cases hA
 rename_i hm;obtain⟨kt,et,hu,hkt,hz⟩:=(tok hT hi).mp hm;have hex:execOp a.eval o=(do pure (.value (←Jn t (av a q) (a.eval x) false))):=by simp only [execOp,ho,br]
 have own:∀(r d lv:Nat),ah c.K r = .mpo→av a q=av a r→ah c.K d = .dat lv→cI c.K x≤2→∀z,lkD (nth δ r) (opD δ x)=some z→∃y,(execOp a.eval o).run P w = .ok (.value y) w∧uj c.K B F a w δ d z y:=by
  intro r d lv hq hav hkd hlv z hzz;have hb:nth δ r ≠ .bad:=fun e=>by
   rw [e] at hzz;simp [lkD] at hzz
  obtain⟨l,g,es,clock,e1,e2,e3,e4,_⟩:=hI.mpo hq hb;rw [e1] at hzz;unfold lkD at hzz;split at hzz
  case h_2=>cases hzz
  rename_i l' n e5 e6;cases e5;cases hzz;have h2:=hI.opd hlv;rw [e6] at h2;obtain⟨h2,_⟩:=aK h2;refine⟨.bool (lR l n),bX hex ?_,.inr ?_⟩
  ·rw [h2,hav,e2]
   exact pY hu hkt hz e3 e4
  ·rw [hkd]
   exact dc rfl
 unfold Gk at hA;split at hA
 ·rename_i lv hq
  refine aH hA hI hg (fun hx z hzz=>?_) Q
  obtain⟨d1,d2,e,hzz⟩:=eN hzz;simp only [ID,Jb,IA,and_true] at e;obtain⟨rfl,rfl⟩:=e;unfold lkD at hzz;split at hzz
  case h_2=>cases hzz
  rename_i l n e1 e2;cases hzz;have h1:=(hx (.tmp q) (by simp)).2.rep (by rw [e1];simp);have h2:=(hx x (by simp)).2;rw [e1] at h1;rw [e2] at h2;obtain⟨h2,_⟩:=aK h2;simp only [bj,RepC,br] at h1;refine⟨.bool (lR l n),bX hex ?_,.inr (dc rfl)⟩
  rw [h2];rcases h1 with ⟨h1,rfl⟩ | ⟨g,es,clock,h1,_,h3,h4⟩
  ·simp only [IA,and_true] at h1
   rw [h1];exact um hu hkt hz
  ·simp only [IA,and_true] at h1
   rw [h1];exact pY hu hkt hz h3 h4
 ·rename_i hq
  split at hA
  ·cases hA
  rename_i d hd;split at hA
  case h_2=>cases hA
  rename_i lv hkd hlv;cases hA;refine bx hI hd hg (fun z hzz=>?_) Q
  simp only [af] at hzz;rw [bk] at hzz;obtain⟨d1,e,hzz⟩:=aQ hzz;simp only [ID,Jb,IA,and_true] at e;subst e;exact own q d lv hq rfl hkd (aT.1 hlv) z hzz
 ·rename_i rr hq
  split at hA
  case h_2=>cases hA
  rename_i d hkr hd;split at hA
  case h_2=>cases hA
  rename_i lv hkd hlv;cases hA;refine bx hI hd hg (fun z hzz=>?_) Q
  simp only [af] at hzz;obtain⟨b,hb1,hzz⟩:=Ix.1 hzz;obtain⟨hpb,rfl⟩:=aS hb1;rw [bk] at hzz;obtain⟨d1,e,hzz⟩:=aQ hzz;simp only [ID,Jb,IA,and_true] at e;subst e;exact own rr d lv hkr (hI.via hq hpb).1 hkd (aT.1 hlv) z hzz
 ·cases hA
theorem tf (hT:okT P c.T=true) {o:Oper} {t q:Nat} {x y:Operand} (ho:o.op = .mapUpdate t (.tmp q) x y):eZ P c o:=by
 intro A hA B X w0 F0 F O a w δ hI k r hg Q;simp only [bC,ho] at hA;split at hA
 case h_2=>cases hA
 rename_i hdst;obtain⟨i,hi,hA⟩:=ao hA;split at hA
 case h_2=>cases hA
 rename_i hm;obtain⟨kt,et,hu,hkt,hz⟩:=(tok hT hi).mp hm;have main:∀(r1:Nat),ah c.K r1 = .mpo→av a q=av a r1→iL c.K [x,y]≤2→∀z,upM (nth δ r1) ([x,y].map (opD δ))=some z→k (ae δ ([]++([r1]++aB c.K [])) [z])=some r→o.wp P a w (Next c B X w0 F0 k r) Q:=by
  intro r1 hq hav hlv z h1 h2;have hb:nth δ r1 ≠ .bad:=fun e=>by
   rw [e] at h1;simp [upM] at h1
  obtain⟨l,g,es,clock,e1,e2,e3,e4,e5,e6⟩:=hI.mpo hq hb;rw [e1] at h1;unfold upM at h1;split at h1
  case h_2=>cases h1
  rename_i l' n v e7 e8;cases e7;cases h1;simp only [ID,Jb,IA,and_true] at e8;have hlx:=gG hlv x (by simp);have hly:=gG hlv y (by simp);have hx:=hI.opd hlx;have hy:=hI.opd hly;rw [e8.1] at hx;rw [e8.2] at hy;obtain⟨hx,_⟩:=aK hx;obtain⟨hy,_⟩:=aK hy;obtain⟨es',clock',hrun,he'⟩:=vZ (P:=P) (w:=w) (n:=n) (v:=v) hu hkt e3 e4;have hgl:=(hI.ol g _ e5).1;have hex:(execOp a.eval o).run P w = .ok .skip {w with heap:=w.heap.setIfInBounds g (.map es' clock')}:=by
   simp only [execOp,ho,br,hav,e2,hx,hy];simp [hrun]
  have e0:∀s,nth (ae δ ([]++[r1]) [.mp (jA l n v)]) s=if s=r1 then(if r1<δ.length then .mp (jA l n v) else .bad) else nth δ s:=by
   intro s;simp only [Je,ae];by_cases h:s=r1
   ·subst h
    rw [if_pos rfl,aV]
   ·rw [if_neg h,bN _ _ _ _ h]
  refine zV hex ⟨F,O,_,?_,h2⟩
  rw [hdst];refine hI.many (hw:=[]) (cw:=[r1]) (outs:=[.mp (jA l n v)]) (by simp) rfl rfl (fun s _=>rfl) (fun r' hr _ hbr=>?_) (fun s hs=>?_) (fun _ hb=>hb) (fun b hbF=>?_) (fun b p hp hn=>⟨hp,?_⟩) (fun b hbF=>⟨by simpa using (hI.fl b hbF).1,(hI.fl b hbF).2⟩) (fun b p hp=>⟨by simpa using (hI.ol b p hp).1,(hI.ol b p hp).2⟩) (fun _ hb=>.inl hb) (by simp) rfl rfl rfl (fun b hbB _=>?_)
  ·simp at hr
   subst hr;rw [e0,if_pos rfl];by_cases hlt:r'<δ.length
   ·rw [if_pos hlt]
    simp
   ·refine absurd ?_ hbr
    rw [dA,Iz,II (by omega)];rfl
  ·simp at hs
   subst hs;rw [e0,if_pos rfl];by_cases hlt:s<δ.length
   ·rw [if_pos hlt]
    refine .inr ?_
    rw [hq];exact .inr ⟨_,g,es',clock',rfl,e2,by simp [hgl],he',e5,e6⟩
   ·rw [if_neg hlt]
    exact .inl rfl
  ·have hne:b≠g:=fun e=>by
    subst e;rw [(hI.fl b hbF).2] at e5;cases e5
   simp [Jz hne]
  ·have hne:b≠g:=fun e=>by
    subst e;rw [e5] at hp;cases hp;exact hn (by simp)
   simp [Jz hne]
  ·have hne:b≠g:=by omega
   simp [Jz hne]
 unfold FE at hA;split at hA
 ·rename_i hq hlv
  cases hA;simp only [co,af] at hg;rw [bk] at hg;obtain⟨z,h1,h2⟩:=Ix.1 hg;exact main q hq rfl (aT.1 hlv) z h1 h2
 ·rename_i rr hq hlv
  split at hA
  case h_2=>cases hA
  rename_i hkr;cases hA;simp only [co,af] at hg;obtain⟨b,hb1,hg⟩:=Ix.1 hg;obtain⟨hpb,rfl⟩:=aS hb1;rw [bk] at hg;obtain⟨z,h1,h2⟩:=Ix.1 hg;exact main rr hkr (hI.via hq hpb).1 (aT.1 hlv) z h1 h2
 ·cases hA
end
end Go.V

namespace Go.V
open Go.RowKit
set_option maxRecDepth 100000
section
variable {P:Program} {c:Cx}
theorem ro {o:Oper} {q:Call} (ho:o.op = .call q) {bi:Builtin} (hq:q.callee = .builtin bi) (f:D→D→Option D) (g:Value→Value→Sem Value) (hbi:(bi = .min∧f=Cm∧g=JM)∨(bi = .max∧f=CK∧g=JN))
  {A:Ac} (hA:ba c o.dst q.args.toList 0 (uJ f)=some A) {B:Nat} {X:Nat→Prop} {w0:World} {F0 F:Nat→Prop} {O:Nat→Option (Nat × Nat)} {a:Act} {w:World} {δ:List D} (hI:Inv c B X w0 F0 F O a w δ) {k:List D→Option Out} {r:Out} (hg:co c A δ k=some r) (Q:Exit→Act→World→Prop):o.wp P a w (Next c B X w0 F0 k r) Q:=by
 rcases hbi with ⟨rfl,rfl,rfl⟩ | ⟨rfl,rfl,rfl⟩
 ·refine sP ho hq rfl (f:=Cm) (g:=JM) (fun w G a b z x y ha hb h=>FG ha hb h) (fun x rest v he hr=>?_) hA hI hg Q
  simp [builtin,Builtin.min_,he,hr]
 ·refine sP ho hq rfl (f:=CK) (g:=JN) (fun w G a b z x y ha hb h=>FZ ha hb h) (fun x rest v he hr=>?_) hA hI hg Q
  simp [builtin,Builtin.max_,he,hr]
theorem CH (hT:okT P c.T=true) (hS:∀f S,bR c.S f=some S→ay c.G P f S) (o:Oper):eZ P c o:=by
 intro A hA B X w0 F0 F O a w δ hI k r hg Q;have hA0:=hA;unfold bC at hA;split at hA
 case h_1 x ho=>exact zK (.inl ho) hA hI hg Q
 case h_2 x ho=>exact zK (.inr ho) hA hI hg Q
 case h_3 q x y ho=>exact Bf ho A hA0 B X w0 F0 F O a w δ hI k r hg Q
 case h_4 t ho=>exact yi hT ho A hA0 B X w0 F0 F O a w δ hI k r hg Q
 case h_5 t x ho=>exact Cj ho A hA0 B X w0 F0 F O a w δ hI k r hg Q
 case h_6 t ps ho=>exact Af hT ho A hA0 B X w0 F0 F O a w δ hI k r hg Q
 case h_7 t n ps ho=>exact sd hT ho A hA0 B X w0 F0 F O a w δ hI k r hg Q
 case h_8 t p ho=>exact AD hT ho A hA0 B X w0 F0 F O a w δ hI k r hg Q
 case h_9 t p x ho=>exact yz hT ho A hA0 B X w0 F0 F O a w δ hI k r hg Q
 case h_10 x ho=>exact uY ho A hA0 B X w0 F0 F O a w δ hI k r hg Q
 case h_11 op t x y _ ho=>exact Ak hT ho A hA0 B X w0 F0 F O a w δ hI k r hg Q
 case h_12 op t x ho=>exact Ay ho A hA0 B X w0 F0 F O a w δ hI k r hg Q
 case h_13 s t x ho=>exact vJ hT ho A hA0 B X w0 F0 F O a w δ hI k r hg Q
 case h_14 f u v ho=>exact ui ho A hA0 B X w0 F0 F O a w δ hI k r hg Q
 case h_15 t n m ho=>exact tC hT ho A hA0 B X w0 F0 F O a w δ hI k r hg Q
 case h_16 t x lo hi ho =>
  have hA1:=ao hA;clear hA;obtain⟨i,hi',hA⟩:=hA1;have main:∀(hsl:i.str=false→jz i=true),wj c o.dst i x lo hi=some A→o.wp P a w (Next c B X w0 F0 k r) Q:=by
   intro hsl hA;have hA2:=hA;unfold wj at hA2;split at hA2
   case h_3=>cases hA2
   case h_2=>exact tk hT ho hi' hsl hA hI hg Q
   rename_i q;split at hA2
   ·rename_i lv hk;exact tq hT ho hi' hsl hk hA hI hg Q
   ·exact nu hT ho hi' hsl hA2 hI hg Q
   ·exact nu hT ho hi' hsl hA2 hI hg Q
   ·cases hA2
  split at hA
  ·rename_i h1 h2;exact main (fun _=>h1) hA
  ·rename_i h1 h2;exact main (fun h=>by rw [h] at h2;cases h2) hA
  ·cases hA
 case h_17 t x f ho=>exact te hT ho A hA0 B X w0 F0 F O a w δ hI k r hg Q
 case h_18 t x f ho=>exact yS hT ho A hA0 B X w0 F0 F O a w δ hI k r hg Q
 case h_19 t x i ho=>exact tu hT ho A hA0 B X w0 F0 F O a w δ hI k r hg Q
 case h_20 t x i ho=>exact yf hT ho A hA0 B X w0 F0 F O a w δ hI k r hg Q
 case h_21 x i ho=>exact wn ho A hA0 B X w0 F0 F O a w δ hI k r hg Q
 case h_22 q ho =>
  unfold Cn at hA;split at hA
  ·rename_i x t hq h1 h2
   have hA1:=ao hA;clear hA;obtain⟨i,hi,hA⟩:=hA1;have eq:q={callee:=.builtin .len,args:=#[x],argTypes:=#[t]}:=by
    obtain⟨cl,ar,ty⟩:=q;simp only at hq h1 h2;subst hq;congr
    ·rw [←Jj (xs:=ar),h1]
    ·rw [←Jj (xs:=ty),h2]
   rw [eq] at ho;split at hA
   ·rename_i g1 g2
    exact uE hT ho hi (fun _=>g1) (fun h=>by cases h) hA hI hg Q
   ·rename_i g1 g2
    exact uE hT ho hi (fun h=>by cases h) (fun _=>g2) hA hI hg Q
   ·split at hA
    ·rename_i gm
     exact AB hT ho hi gm hA hI hg Q
    ·cases hA
   ·cases hA
  ·rename_i s x t u hq h1 h2
   split at hA
   case h_2=>cases hA
   rename_i htu;rw [az] at htu;subst htu;have hA1:=ao hA;clear hA;obtain⟨i,hi,hA⟩:=hA1;have hA1:=ao hA;clear hA;obtain⟨e,he,hA⟩:=hA1;split at hA
   case h_2=>cases hA
   rename_i hsl;exact yb hT ho hq h1 h2 hi he hsl hA hI hg Q
  ·rename_i hq;exact ro ho hq Cm JM (.inl ⟨rfl,rfl,rfl⟩) hA hI hg Q
  ·rename_i hq;exact ro ho hq CK JN (.inr ⟨rfl,rfl,rfl⟩) hA hI hg Q
  ·rename_i f hq
   split at hA
   case h_2=>cases hA
   rename_i S hlk;exact Bu hS ho hq hlk hA hI hg Q
  ·rename_i t hq
   split at hA
   case h_2=>cases hA
   rename_i f hC;split at hA
   case h_2=>cases hA
   rename_i S hlk;exact CN hS ho hq hlk hA hI hg Q
  ·cases hA
 case h_23 t x ho=>exact zW hT ho A hA0 B X w0 F0 F O a w δ hI k r hg Q
 case h_24 q ho=>exact AM ho A hA0 B X w0 F0 F O a w δ hI k r hg Q
 case h_25 t ho=>exact vK ho A hA0 B X w0 F0 F O a w δ hI k r hg Q
 case h_26 t q x y ho=>exact tf hT ho A hA0 B X w0 F0 F O a w δ hI k r hg Q
 case h_27 t q x ho=>exact xP hT ho A hA0 B X w0 F0 F O a w δ hI k r hg Q
 case h_28=>cases hA
def Nt (n:Nat) (f:(List D→Option Out)→Option Out):Prop:=∃o:Option (List D),(∀k,f k=o.bind k)∧∀l,o=some l→l.length=n
def fS:Ac→Prop
 | .one _ _ _=>True
 | .many _ hw cw fn=>∀is,Nt (hw++cw).length (fn is)
theorem dP {n:Nat} {l:List D} (h:l.length=n):Nt n (fun k=>k l):=⟨some l,fun _=>rfl,fun l' e=>by cases e;exact h⟩
theorem ic {n:Nat}:Nt n (fun _=>none):=⟨none,fun _=>rfl,fun _ e=>by cases e⟩
theorem cL {n:Nat} {X:Option D} {f:D→(List D→Option Out)→Option Out} (h:∀y,Nt n (f y)):Nt n (fun k=>X.bind fun y=>f y k):=by
 cases X with
 | none=>exact ic
 | some y=>exact h y
theorem Et {n:Nat} {X:Option (List D)} {f:List D→(List D→Option Out)→Option Out} (h:∀y,Nt n (f y)):Nt n (fun k=>X.bind fun y=>f y k):=by
 cases X with
 | none=>exact ic
 | some y=>exact h y
theorem mV {n:Nat} {is:List D} {i:Nat} {f:D→(List D→Option Out)→Option Out} (h:∀y,Nt n (f y)):Nt n (fun k=>cU is i fun y=>f y k):=by
 simp only [cM];exact h _
theorem Dp {n q r:Nat} {is:List D} {f:D→D→List D→(List D→Option Out)→Option Out} (h:∀b p is,Nt n (f b p is)):Nt n (fun k=>goP q r is fun b p is=>f b p is k):=by
 unfold goP;cases IH q r
 ·rcases is with _ | ⟨p,_ | ⟨b,is⟩⟩
  ·exact ic
  ·exact ic
  ·exact h _ _ _
 ·cases is with
  | nil=>exact ic
  | cons b is=>exact h _ _ _
theorem DN {n m:Nat} {chk:Bool} {b p y:D} {f:D→(List D→Option Out)→Option Out} (h:∀y,Nt n (f y)):Nt n (fun k=>stK chk m b p y fun b=>f b k):=by
 unfold stK;cases chk
 ·exact cL h
 ·exact cL fun _=>cL h
theorem xF {n:Nat} {rd:List Nat} {is:List D} {f:D→(List D→Option Out)→Option Out} (h:∀y,Nt n (f y)):Nt n (fun k=>iy rd is fun y=>f y k):=by
 unfold iy;rcases rd with _ | ⟨a,_ | ⟨b,rd⟩⟩
 ·exact h _
 ·exact mV h
 ·exact mV fun p=>mV fun x=>cL h
theorem Er {n:Nat} {ags:List Ag} {is:List D} {f:List D→(List D→Option Out)→Option Out} (h:∀y,Nt n (f y)):Nt n (fun k=>fE [] ags is fun y=>f y k):=by
 simp only [fY,Je];cases bJ ags is with
 | none=>exact ic
 | some y=>exact h y
theorem BQ {n:Nat} {r:Option Out} {f:List D→List D→(List D→Option Out)→Option Out} (h:∀y z,Nt n (f y z)):Nt n (fun k=>callK r fun y z=>f y z k):=by
 unfold callK;split
 ·exact h _ _
 ·exact ic
theorem bc {dst:Option Nat} {xs:List Operand} {lv:Nat} {h:List D→Option D} {A:Ac} (hA:ba c dst xs lv h=some A):fS A:=by
 unfold ba at hA
 repeat' (split at hA)
 all_goals first | (cases hA;done) | (cases hA;trivial)
theorem Co {rd:List Nat} {d lv l:Nat} {h:List D→Option D} {A:Ac} (hA:Gg (fun h=>Ac.one rd d h) (xg lv l h)=some A):fS A:=by
 unfold xg at hA
 repeat' (split at hA)
 all_goals first | (cases hA;done) | (cases hA;trivial)
theorem yL {dst:Option Nat} {x:Operand} {t:Nat} {A:Ac} (hA:yn c dst x t=some A):fS A:=by
 unfold yn at hA
 repeat' (split at hA)
 all_goals first
  | (cases hA;done)
  | exact bc hA
  | (cases hA;trivial)
  | (cases hA;exact fun is=>mV fun x=>dP rfl)
  | (cases hA;exact fun is=>mV fun p=>mV fun x=>cL fun y=>dP rfl)
  | (cases hA;exact fun is=>dP rfl)
  | (obtain⟨i,_,hA⟩:=ao hA;exact bc hA)
theorem EL {dst:Option Nat} {i:TI} {p:Operand} {A:Ac} (hA:FJ c dst i p=some A):fS A:=by
 unfold FJ at hA
 repeat' (split at hA)
 all_goals first | (cases hA;done) | exact bc hA | exact Co hA
theorem Dv {i:TI} {p x:Operand} {A:Ac} (hA:DU c i p x=some A):fS A:=by
 have main:∀q r lv,yZ c i q r lv x=some A→fS A:=by
  intro q r lv hA;unfold yZ at hA
  repeat' (split at hA)
  all_goals first
   | (cases hA;done)
   | (cases hA;exact fun is=>Dp fun b p is=>mV fun y=>DN fun b=>dP rfl)
   | (cases hA;exact fun is=>Dp fun b p is=>DN fun b=>dP rfl)
 unfold DU at hA
 repeat' (split at hA)
 all_goals first | (cases hA;done) | exact main _ _ _ hA
theorem DZ {dst:Option Nat} {i:TI} {f:Nat} {p:Operand} {A:Ac} (hA:Ga c dst i f p=some A):fS A:=by
 unfold Ga at hA
 repeat' (split at hA)
 all_goals first | (cases hA;done) | exact bc hA | (cases hA;trivial)
theorem Dh {dst:Option Nat} {i:TI} {x y:Operand} {A:Ac} (hA:Gu c dst i x y=some A):fS A:=by
 unfold Gu at hA
 repeat' (split at hA)
 all_goals first | (cases hA;done) | exact bc hA | (cases hA;trivial)
theorem ES {dst:Option Nat} {i:TI} {n:Nat} {ps:List (Nat × Operand)} {A:Ac} (hA:FF c dst i n ps=some A):fS A:=by
 unfold FF at hA;simp only at hA
 repeat' (split at hA)
 all_goals first | (cases hA;done) | (cases hA;exact fun is=>cL fun y=>dP rfl)
theorem EV {n:Nat} {chk:Bool} {b:D} {f:D→(List D→Option Out)→Option Out} (h:∀y,Nt n (f y)):Nt n (fun k=>Bt chk b fun b=>f b k):=by
 cases chk
 ·exact h b
 ·exact cL h
theorem EA {dst:Option Nat} {i:TI} {x y:Operand} {A:Ac} (hA:EO c dst i x y=some A):fS A:=by
 have main:∀d chk rs rx os,CY c d i chk rs rx os=some A→fS A:=by
  intro d chk rs rx os hA;unfold CY at hA
  repeat' (split at hA)
  all_goals first
   | (cases hA;done)
   | (cases hA;exact fun is=>xF fun a=>xF fun b=>EV fun b=>cL fun y=>dP rfl)
   | (cases hA;exact fun is=>xF fun b=>EV fun b=>cL fun y=>dP rfl)
 unfold EO at hA
 repeat' (split at hA)
 all_goals first
  | (cases hA;done)
  | exact main _ _ _ _ _ hA
theorem Eo {dst:Option Nat} {str:Bool} {x:Operand} {A:Ac} (hA:Cy c dst str x=some A):fS A:=by
 unfold Cy at hA
 repeat' (split at hA)
 all_goals first | (cases hA;done) | exact bc hA | (cases hA;trivial)
theorem Ep {dst:Option Nat} {i:TI} {x:Operand} {lo hi:Option Operand} {A:Ac} (hA:wj c dst i x lo hi=some A):fS A:=by
 have own:wJ c dst i x lo hi=some A→fS A:=by
  intro hA;unfold wJ at hA
  repeat' (split at hA)
  all_goals first | (cases hA;done) | (cases hA;exact fun is=>xF fun a=>cL fun y=>dP rfl)
 unfold wj at hA
 repeat' (split at hA)
 all_goals first | (cases hA;done) | exact bc hA | exact own hA
theorem EI {dst:Option Nat} {i e:TI} {x y:Operand} {A:Ac} (hA:Gc c dst i e x y=some A):fS A:=by
 unfold Gc at hA
 repeat' (split at hA)
 all_goals first | (cases hA;done) | (cases hA;exact fun is=>cL fun y=>dP rfl)
theorem Fb {dst:Option Nat} {i:TI} {x:Operand} {A:Ac} (hA:Gq c dst i x=some A):fS A:=by
 unfold Gq at hA
 repeat' (split at hA)
 all_goals first | (cases hA;done) | (cases hA;exact fun is=>cL fun y=>dP rfl) | (cases hA;exact fun is=>cL fun y=>cL fun y=>dP rfl)
theorem CV {dst:Option Nat} {t f:Nat} {S:FS} {xs:List Operand} {A:Ac} (hA:yQ c dst t f S xs=some A):fS A:=by
  unfold yQ at hA
  repeat' (split at hA)
  all_goals first
    | (cases hA;done)
    | (cases hA;exact fun is=>by
        cases is with
        | nil=>exact ic
        | cons cl is=>exact Et fun caps=>Er fun ds=>BQ fun rs us=>dP rfl)
theorem DC {dst:Option Nat} {i:TI} {A:Ac} (hA:FI c dst i=some A):fS A:=by
 unfold FI at hA
 repeat' (split at hA)
 all_goals first | (cases hA;done) | (cases hA;exact fun is=>dP rfl)
theorem DL {dst:Option Nat} {x:Operand} {i:Nat} {A:Ac} (hA:Gw c dst x i=some A):fS A:=by
 unfold Gw at hA
 repeat' (split at hA)
 all_goals first | (cases hA;done) | (cases hA;trivial) | (cases hA;exact fun is=>mV fun t=>cL fun y=>dP rfl)
theorem zC (us:List D):∀(ios:List Nat) (j:Nat),(qs.go us j ios).length=ios.length
 | [],_=>rfl
 | _::l,j=>by simp [qs.go,zC us l]
theorem Ec {dst:Option Nat} {S:FS} {xs:List Operand} {A:Ac} (hA:qs c dst S xs=some A):fS A:=by
 unfold qs at hA;split at hA
 ·cases hA
 simp only at hA;split at hA
 case h_2=>cases hA
 repeat' (split at hA)
 all_goals first
  | (cases hA;done)
  | (cases hA;exact fun is=>Er fun ds=>BQ fun rs us=>dP (by simp [qs.outs,zC]))
theorem Dj {dst:Option Nat} {i j:TI} {x:Operand} {A:Ac} (hA:Gd c dst i j x=some A):fS A:=by
 unfold Gd at hA
 repeat' (split at hA)
 all_goals first | (cases hA;done) | exact bc hA | (cases hA;trivial)
theorem Dd {dst:Option Nat} {i:TI} {x y:Operand} {A:Ac} (hA:FD c dst i x y=some A):fS A:=by
 unfold FD at hA
 repeat' (split at hA)
 all_goals first | (cases hA;done) | exact bc hA | (obtain⟨i,_,hA⟩:=ao hA;exact bc hA)
theorem Ew {dst:Option Nat} {i:TI} {ps:List (Nat × Operand)} {A:Ac} (hA:Gb c dst i ps=some A):fS A:=by
 unfold Gb at hA;simp only at hA
 repeat' (split at hA)
 all_goals first | (cases hA;done) | exact bc hA
theorem DY {dst:Option Nat} {x:Operand} {A:Ac} (hA:FU c dst x=some A):fS A:=by
 unfold FU at hA
 repeat' (split at hA)
 all_goals first | (cases hA;done) | exact bc hA | (cases hA;trivial)
theorem DB {dst:Option Nat} {x:Operand} {A:Ac} (hA:Fe c dst x=some A):fS A:=by
 unfold Fe at hA
 repeat' (split at hA)
 all_goals first | (cases hA;done) | exact bc hA
theorem EG {dst:Option Nat} {q:Call} {A:Ac} (hA:Cn c dst q=some A):fS A:=by
 unfold Cn at hA;split at hA
 ·obtain⟨i,_,hA⟩:=ao hA
  repeat' (split at hA)
  all_goals first | exact Eo hA | exact DB hA | cases hA
 ·split at hA
  ·obtain⟨i,_,hA⟩:=ao hA
   obtain⟨e,_,hA⟩:=ao hA;split at hA<;>first | exact EA hA | cases hA
  ·cases hA
 ·exact bc hA
 ·exact bc hA
 ·split at hA<;>first | exact Ec hA | cases hA
 ·repeat' (split at hA)
  all_goals first | exact CV hA | cases hA
 ·cases hA
theorem Dn {dst:Option Nat} {x:Operand} {A:Ac} (hA:FP c dst x=some A):fS A:=by
 unfold FP at hA
 repeat' (split at hA)
 all_goals first | (cases hA;done) | (cases hA;exact fun is=>cL fun y=>dP rfl)
theorem El {dst:Option Nat} {q:Nat} {A:Ac} (hA:FV c dst q=some A):fS A:=by
 unfold FV at hA
 repeat' (split at hA)
 all_goals first | (cases hA;done) | (cases hA;exact fun is=>mV fun x=>cL fun y=>dP rfl)
theorem Fc {dst:Option Nat} {A:Ac} (hA:Fq c dst=some A):fS A:=by
 unfold Fq at hA
 repeat' (split at hA)
 all_goals first | (cases hA;done) | (cases hA;exact fun is=>dP rfl)
theorem Db {q:Nat} {x y:Operand} {A:Ac} (hA:FE c q x y=some A):fS A:=by
 unfold FE at hA
 repeat' (split at hA)
 all_goals first
  | (cases hA;done)
  | (cases hA;intro is;rcases is with _ | ⟨b,is⟩;exact ic;exact cL fun y=>dP rfl)
  | (cases hA;intro is;rcases is with _ | ⟨p,_ | ⟨b,is⟩⟩;exact ic;exact ic;exact cL fun b=>cL fun y=>dP rfl)
theorem ED {dst:Option Nat} {q:Nat} {x:Operand} {A:Ac} (hA:Gk c dst q x=some A):fS A:=by
 unfold Gk at hA
 repeat' (split at hA)
 all_goals first | (cases hA;done) | exact bc hA | (cases hA;trivial)
theorem xc {o:Oper} {A:Ac} (hA:bC c o=some A):fS A:=by
 unfold bC at hA;split at hA
 case h_1=>exact yL hA
 case h_2=>exact yL hA
 case h_3=>exact bc hA
 case h_4=>obtain⟨i,_,hA⟩:=ao hA;exact DC hA
 case h_5=>obtain⟨i,_,hA⟩:=ao hA;exact Fb hA
 case h_6=>obtain⟨i,_,hA⟩:=ao hA;exact Ew hA
 case h_7 =>
  obtain⟨i,_,hA⟩:=ao hA;obtain⟨e,_,hA⟩:=ao hA;split at hA<;>first | exact ES hA | cases hA
 case h_8=>obtain⟨i,_,hA⟩:=ao hA;exact EL hA
 case h_9 =>
  split at hA
  ·obtain⟨i,_,hA⟩:=ao hA;exact Dv hA
  ·cases hA
 case h_10=>exact DY hA
 case h_11 =>
  obtain⟨i,_,hA⟩:=ao hA;split at hA
  ·exact bc hA
  ·split at hA<;>exact bc hA
 case h_12=>exact bc hA
 case h_13 =>
  obtain⟨i,_,hA⟩:=ao hA;obtain⟨e,_,hA⟩:=ao hA;exact Dj hA
 case h_14=>split at hA<;>first | exact bc hA | cases hA
 case h_15 =>
  obtain⟨i,_,hA⟩:=ao hA;obtain⟨e,_,hA⟩:=ao hA;split at hA<;>first | exact EI hA | cases hA
 case h_16 =>
  obtain⟨i,_,hA⟩:=ao hA;split at hA<;>first | exact Ep hA | cases hA
 case h_17=>obtain⟨i,_,hA⟩:=ao hA;exact DZ hA
 case h_18 =>
  obtain⟨i,_,hA⟩:=ao hA;split at hA<;>first | exact bc hA | cases hA
 case h_19=>obtain⟨i,_,hA⟩:=ao hA;exact Dh hA
 case h_20=>obtain⟨i,_,hA⟩:=ao hA;exact Dd hA
 case h_21=>exact DL hA
 case h_22=>exact EG hA
 case h_23 =>
  obtain⟨i,_,hA⟩:=ao hA;split at hA<;>first | exact Dn hA | cases hA
 case h_24=>exact El hA
 case h_25 =>
  obtain⟨i,_,hA⟩:=ao hA;split at hA<;>first | exact Fc hA | cases hA
 case h_26 =>
  split at hA
  ·obtain⟨i,_,hA⟩:=ao hA
   split at hA<;>first | exact Db hA | cases hA
  ·cases hA
 case h_27 =>
  obtain⟨i,_,hA⟩:=ao hA;split at hA<;>first | exact ED hA | cases hA
 case h_28=>cases hA
end
end Go.V

namespace Go.V
open Go.RowKit
set_option maxRecDepth 100000
def AO:Kd→Bool
 | .via _=>false
 | .ref _=>false
 | _=>true
def Bc (c:Cx) (ops:List Oper) (o:Oper):Bool :=
 (match o.dst with
  | some d=>!lT (ah c.K d)
  | none=>true) &&
 (match o.guard with
  | none=>true
  | some (j,_)=>(match vl ops j with
    | some g=>(match ah c.K g with
     | .dat _=>true
     | _=>false)
    | none=>false) &&
   (match bC c o with
    | some (.one _ d _)=>(match o.dst with
     | some d'=>IH d' d
     | none=>false)
    | some (.many _ hw cw _)=>(hw++cw).all (fun s=>AO (ah c.K s))&&(match o.dst with
     | some d=>iO d hw
     | none=>true)
    | none=>true))
def IoV (c:Cx) (V:Nat→Value) (a:Act):Prop:=∀s,lT (ah c.K s)=true→av a s=V s
theorem Dz {P:Program} {o:Oper} {a:Act} {next:Act→World→Prop} {Q:Exit→Act→World→Prop}:∀{res:Result Go.Next},o.upon P a next Q res→o.upon P a (fun a' w'=>next a' w'∧∀s,o.dst≠some s→av a' s=av a s) Q res:=by
 have key:∀(df:List Deferred) (v:Value) (s:Nat),o.dst≠some s→av (({a with defers:=df}:Act).put o.dst v) s=av a s:=by
  intro df v s hs;cases hd:o.dst with
  | none=>rfl
  | some d =>
   have:s≠d:=fun e=>hs (by rw [hd,e])
   exact(bz this).trans rfl
 have key0:∀(v:Value) (s:Nat),o.dst≠some s→av (a.put o.dst v) s=av a s:=fun v s hs=>key a.defers v s hs
 intro res h;cases res with
 | ok n w' =>
  cases n<;>simp only [Oper.upon] at h ⊢ <;>
   first
    | exact⟨h,key0 _⟩
    | exact⟨h,key _ _⟩
    | exact Calls.mono h (fun e w'' he=>by cases e<;>first | exact⟨he,key0 _⟩ | exact he)
    | exact Rows.mono h (fun _ _ he=>⟨he,key0 _⟩)
 | halt x w'=>cases x<;>simp only [Oper.upon] at h ⊢<;>exact h
section
variable {P:Program} {c:Cx} {B:Nat} {X:Nat→Prop} {w0:World} {F0 F:Nat→Prop} {O:Nat→Option (Nat × Nat)} {a:Act} {w:World} {δ:List D}
theorem mL:∀(ss:List Nat) (l:List D) (j:Nat),j+ss.length=l.length→fit l j ss=l.drop j
 | [],l,j,h=>by simp [fit,List.drop_eq_nil_of_le (show l.length≤j by simp at h;omega)]
 | s::ss,l,j,h=>by
  simp only [Jr] at h;have hj:j<l.length:=by omega
  simp only [fit];rw [mL ss l (j+1) (by omega),Jl hj,dA,Iz,Ja hj];rfl
def sI (K:List Kd) (dst:Option Nat) (δ:List D) (s:Nat):D :=
 match dst with
 | some d=>if iO s (d::eu d K 0) then rA (ah K s) else nth δ s
 | none=>nth δ s
theorem qC (K:List Kd) (dst:Option Nat) (δ:List D):∀(ss:List Nat) (k:List D→Option Out),Ad K δ dst ss k=k (ss.map (sI K dst δ))
 | [],k=>by simp [Ad]
 | s::ss,k=>by
  cases dst with
  | none=>simp only [Ad,sI,cM,ID];exact qC K none δ ss _
  | some d =>
   simp only [Ad,ID];cases h:iO s (d::eu d K 0)
   ·simp only [cM]
    rw [qC K (some d) δ ss];simp only [sI,h,JA,if_false]
   ·simp only
    rw [qC K (some d) δ ss];simp only [sI,h,if_true]
theorem lD (f:Nat→D):∀(ss:List Nat) (δ:List D) (s:Nat),nth (ae δ ss (ss.map f)) s=if s∈ss then(if s<δ.length then f s else .bad) else nth δ s
 | [],δ,s=>by simp [ae]
 | t::ss,δ,s=>by
  simp only [ID,ae];rw [lD f ss (eL δ t (f t)) s,ed];by_cases hs:s∈ss
  ·simp [hs]
  ·by_cases ht:s=t
   ·subst ht
    simp only [hs,if_false,IG,true_or,if_true];exact aV _ _ _
   ·simp only [hs,if_false,IG,ht,or_self]
    exact bN _ _ _ _ ht
theorem AQ {δ:List D} {s:Nat} (h:nth δ s ≠ .bad):s<δ.length:=by
 by_cases hl:s<δ.length
 ·exact hl
 ·exfalso
  rw [dA,Iz,II (by omega)] at h;exact h rfl
theorem Gf {s:Nat} (hs:s<a.tmps.size):qd c.K B F O (a.put (some s) undef) w s (rA (ah c.K s)):=by
 have hav:av (a.put (some s) undef) s=undef:=by
  simp [av,Act.put,hs]
 unfold rA;split
 ·rename_i lv hk
  refine .inr ?_
  simp only [hk];refine .inr ?_
  rw [hav];exact⟨rfl,rfl⟩
 ·exact .inl rfl
theorem Inv.pass_over (h:Inv c B X w0 F0 F O a w δ) {dst:Option Nat} {hw cw:List Nat} (hk:∀s∈hw++cw,AO (ah c.K s)=true) (hd:∀d,dst=some d→d∈hw) :
  Inv c B X w0 F0 F O (a.put dst undef) w (ae δ (hw++(cw++aB c.K hw)) ((hw++cw).map (sI c.K dst δ))):=by
 have hav:∀s,dst≠some s→av (a.put dst undef) s=av a s:=by
  intro s hs;cases dst with
  | none=>rfl
  | some d=>exact bz fun e=>hs (by rw [e])
 have hnd:∀s,AO (ah c.K s)=true→∀d,s∉eu d c.K 0:=fun s hs d hm=>by
  rcases oZ hm with e | e<;>rw [e] at hs<;>cases hs
 refine h.many (by simp) (by cases dst<;>simp [Act.put]) (by cases dst<;>rfl) (fun s hs=>hav s fun e=>hs (hd s e)) (fun r hr hn hb=>?_) (fun s hs=>?_) (fun _ hb=>hb) (fun _ _=>rfl) (fun _ _ hp _=>⟨hp,rfl⟩) h.fl h.ol (fun _ hb=>.inl hb) (JP _) rfl rfl rfl (fun _ _ _=>rfl)
 ·rw [lD,if_pos (Ju _ hr),if_pos (AQ hb)]
  unfold sI;split
  ·rename_i d
   rw [if_neg]
   ·exact hb
   ·rw [eY]
    simp only [decide_eq_true_eq,IG,not_or];exact⟨fun e=>hn (e ▸ hd d rfl),hnd r (hk r (Ju _ hr)) d⟩
  ·exact hb
 ·rw [lD,if_pos hs]
  split
  case isFalse=>exact .inl rfl
  rename_i hsl;have keep:dst≠some s→qd c.K B F O (a.put dst undef) w s (nth δ s):=by
   intro hne;rcases h.slot s with hb | hb
   ·exact .inl hb
   ·refine .inr ?_
    have hks:=hk s hs;rw [hav s hne];generalize ah c.K s=kk at hks hb;cases kk<;>first | exact hb | cases hks
  unfold sI;split
  ·rename_i d
   split
   ·rename_i hm
    rw [eY] at hm;simp only [decide_eq_true_eq,IG] at hm;rcases hm with rfl | hm
    ·exact Gf (by rw [h.la,←h.ld];exact hsl)
    ·rcases oZ hm with e | e<;>(rw [e];exact .inl rfl)
   ·rename_i hm
    rw [eY] at hm;simp only [decide_eq_true_eq,IG,not_or] at hm;exact keep fun e=>hm.1 (by cases e;rfl)
  ·exact keep (by simp)
def rdS (c:Cx) (ops:List Oper) (o:Oper):List Nat :=
 match bC c o with
 | none=>[]
 | some A=>match o.guard with
  | none=>GK A
  | some (j,_)=>match vl ops j with
   | none=>[]
   | some g=>match A with
    | .one rd _ _=>g::rd
    | .many rd hw cw _=>g::(rd++(hw++cw))
def wrS (c:Cx) (o:Oper):List Nat :=
 match bC c o with
 | none=>[]
 | some (.one _ d _)=>d::eu d c.K 0
 | some (.many _ hw cw _)=>hw++(cw++aB c.K hw)
theorem jX {δ δ':List D}:∀{ss:List Nat},(∀s∈ss,nth δ s=nth δ' s)→af δ ss=af δ' ss
 | [],_=>rfl
 | s::ss,h=>by
  simp only [af];rw [h s (by simp),jX fun t ht=>h t (by simp [ht])]
theorem wR {δ δ':List D}:∀{ss:List Nat},af δ ss=af δ' ss→∀s∈ss,nth δ s=nth δ' s
 | t::ss,h,s,hs=>by
  simp only [af,IA] at h;rcases IG.1 hs with rfl | hs
  ·exact h.1
  ·exact wR h.2 s hs
theorem pg (c:Cx) (ops:List Oper) (o:Oper):∃φ:List D→Option (List D),(∀δ k,cB c ops o δ k=(φ δ).bind fun l=>k (ae δ (wrS c o) l))∧∀δ δ',af δ (rdS c ops o)=af δ' (rdS c ops o)→φ δ=φ δ':=by
 unfold cB rdS wrS;cases hA:bC c o with
 | none=>exact⟨fun _=>none,fun _ _=>rfl,fun _ _ _=>rfl⟩
 | some A =>
  have hn:=xc hA;cases hgd:o.guard with
  | none =>
   cases A with
   | one rd d h =>
    refine⟨fun δ=>(h (af δ rd)).map fun z=>[z],fun δ k=>?_,fun δ δ' e=>by simp only [GK] at e;simp only [e]⟩
    simp only [aU];cases h (af δ rd) with
    | none=>rfl
    | some z=>exact bu _ _ _ _
   | many rd hw cw fn =>
    refine⟨fun δ=>Jk (hn (af δ rd)),fun δ k=>?_,fun δ δ' e=>by simp only [GK] at e;simp only [e]⟩
    simp only [aU,bu,kw];exact(Jh (hn (af δ rd))).1 _
  | some jp =>
   obtain⟨j,pol⟩:=jp;simp only;cases hg:vl ops j with
   | none=>exact⟨fun _=>none,fun _ _=>rfl,fun _ _ _=>rfl⟩
   | some g =>
    cases A with
    | one rd d h =>
     refine⟨fun δ=>(aj (rA (ah c.K d)) (nth δ g) pol (h (af δ rd))).map fun z=>[z],fun δ k=>?_,fun δ δ' e=>by simp only [af,IA] at e;simp only [e.1,e.2]⟩
     simp only [aU,cM];cases aj (rA (ah c.K d)) (nth δ g) pol (h (af δ rd)) with
     | none=>rfl
     | some z=>exact bu _ _ _ _
    | many rd hw cw fn =>
     refine⟨fun δ=>match nth δ g with
      | .v (.bool b)=>if b=pol then Jk (hn (af δ rd)) else some ((hw++cw).map (sI c.K o.dst δ))
      | .tup _=>some ((hw++cw).map (sI c.K o.dst δ))
      | _=>none,fun δ k=>?_,fun δ δ' e=>?_⟩
     ·simp only [aU,bu,cM,kw,qC]
      unfold cd;split
      ·rename_i b hb
       rw [hb];simp only;split
       ·obtain⟨h1,h2⟩:=Jh (hn (af δ rd))
        rw [h1];cases hc:Jk (hn (af δ rd)) with
        | none=>rfl
        | some l =>
         have hl:=h2 l hc;simp only [IE];rw [mL _ l 0 (by omega),IJ,mL _ l 0 (by omega),IJ]
       ·simp only [IE]
        rw [mL _ _ 0 (by simp),IJ]
      ·rename_i l hb
       rw [hb];simp only [IE];rw [mL _ _ 0 (by simp),IJ]
      ·rename_i hb hb'
       split
       ·rename_i b hb2;exact absurd hb2 (hb b)
       ·rename_i l hb2;exact absurd hb2 (hb' l)
       ·rfl
     ·simp only [af,IA,fT] at e
      have e2:=List.append_inj e.2 (by rw [kZ,kZ]);have e3:∀s∈hw++cw,nth δ s=nth δ' s:=wR (by rw [fT,fT];exact e2.2);have e4:(hw++cw).map (sI c.K o.dst δ)=(hw++cw).map (sI c.K o.dst δ'):=by
       refine List.map_congr_left fun s hs=>?_
       unfold sI;rw [e3 s hs]
      simp only [e.1,e2.1,e4]
def fg (c:Cx) (B:Nat) (X:Nat→Prop) (w0:World) (F0:Nat→Prop) (V:Nat→Value) (k:List D→Option Out) (r:Out) (a:Act) (w:World):Prop :=
 Next c B X w0 F0 k r a w∧IoV c V a
theorem qA (hT:okT P c.T=true) (hS:∀f S,bR c.S f=some S→ay c.G P f S) {ops:Array Oper} {o:Oper} (hok:Bc c ops.toList o=true) {V:Nat→Value} (hI:Inv c B X w0 F0 F O a w δ) (hV:IoV c V a) {k:List D→Option Out} {r:Out}
  (hg:cB c ops.toList o δ k=some r) (Q:Exit→Act→World→Prop) :
  if IW o (yielded ops a.tmps) then o.wp P a w (fg c B X w0 F0 V k r) Q else fg c B X w0 F0 V k r (a.put o.dst undef) w:=by
 unfold Bc at hok;simp only [IC] at hok;obtain⟨hdst,hgd⟩:=hok;have hio:∀s,lT (ah c.K s)=true→o.dst≠some s:=fun s hs e=>by
  rw [e] at hdst;simp only at hdst;rw [hs] at hdst;cases hdst
 have lift:∀(A:Ac),bC c o=some A→co c A δ k=some r→o.wp P a w (fg c B X w0 F0 V k r) Q:=by
  intro A hA hgo;have h:=CH hT hS o A hA B X w0 F0 F O a w δ hI k r hgo Q;unfold Oper.wp at h ⊢;refine JO (P:=P) (o:=o) (a:=a) (w:=w) (K:=fun a' w'=>Next c B X w0 F0 k r a' w'∧∀s,o.dst≠some s→av a' s=av a s) (fun a' w' hn=>⟨hn.1,fun s hs=>(hn.2 s (hio s hs)).trans (hV s hs)⟩) ?_
  exact Dz h
 have skipV:IoV c V (a.put o.dst undef):=by
  intro s hs;cases hd:o.dst with
  | none=>exact hV s hs
  | some d=>exact(bz (fun e=>hio s hs (by rw [hd,e]))).trans (hV s hs)
 unfold cB at hg;cases hA:bC c o with
 | none=>rw [hA] at hg;cases hg
 | some A =>
  rw [hA] at hg;simp only at hg;cases hgu:o.guard with
  | none =>
   rw [hgu] at hg;rw [if_pos (by simp [IW,hgu])];refine lift A hA ?_
   cases A with
   | one rd d h =>
    simp only [aU] at hg;obtain⟨z,h1,h2⟩:=Ix.1 hg;rw [bu] at h2;simp only [co,h1,IE];exact h2
   | many rd hw cw fn =>
    simp only [aU,bu,kw] at hg;exact hg
  | some jp =>
   obtain⟨j,pol⟩:=jp;rw [hgu] at hg;rw [hgu,hA] at hgd;simp only [IC] at hgd;simp only at hg;cases hgs:vl ops.toList j with
   | none=>rw [hgs] at hg;cases hg
   | some g =>
    rw [hgs] at hg hgd;simp only at hgd;obtain⟨hkd,hck⟩:=hgd;have hyield:∀b,nth δ g = .v (.bool b)→yielded ops a.tmps j=some b:=by
     intro b hb;obtain⟨lv,hk⟩:∃lv,ah c.K g = .dat lv:=by
      split at hkd
      ·exact⟨_,‹_›⟩
      ·cases hkd
     have hr:=hI.dat hk;rw [hb] at hr;obtain⟨hv,_⟩:=aK hr;have hlt:g<a.tmps.size:=by
      rw [hI.la,←hI.ld];exact AQ (by rw [hb];simp)
     have hg1:a.tmps[g]?=some (.bool b):=by
      rw [av,IB,IL hlt] at hv;rw [IL hlt];simpa using hv
     unfold vl at hgs;rw [qY,Jv] at hgs;unfold yielded;cases ho:ops[j]? with
     | none=>rw [ho] at hgs;cases hgs
     | some oj =>
      rw [ho] at hgs;simp only at hgs;simp [hgs,hg1]
    have hyT:∀l,nth δ g = .tup l→yielded ops a.tmps j=none:=by
     intro l hb;obtain⟨lv,hk⟩:∃lv,ah c.K g = .dat lv:=by
      split at hkd
      ·exact⟨_,‹_›⟩
      ·cases hkd
     have hr:=hI.dat hk;rw [hb] at hr;have hv:av a g = .tuple #[]:=(hr.rep (by simp)).2;unfold yielded;rw [vl,qY,Jv] at hgs;cases ho:ops[j]? with
     | none=>simp
     | some oj =>
      rw [ho] at hgs;simp only at hgs;simp only [IE,hgs];cases hx:a.tmps[g]? with
      | none=>rfl
      | some x =>
       have:x = .tuple #[]:=by
        rw [←hv,av,IB,hx];rfl
       subst this;rfl
    cases A with
    | one rd d h =>
     simp only [cM,aU] at hg;obtain⟨z,h1,h2⟩:=Ix.1 hg;rw [bu] at h2;unfold aj at h1;have skip:z=rA (ah c.K d)→fg c B X w0 F0 V k r (a.put o.dst undef) w:=by
      rintro rfl;refine⟨⟨F,O,_,?_,h2⟩,skipV⟩
      simp only at hck;split at hck
      ·rename_i d' hd'
       rw [az] at hck;subst hck;rw [hd'];refine hI.put ?_
       unfold rA uj;split
       ·rename_i hkk
        refine .inr ?_
        rw [hkk];exact⟨rfl,rfl⟩
       ·exact .inl rfl
      ·cases hck
     split at h1
     case h_3=>cases h1
     case h_2 =>
      rename_i l hb;have hy:=hyT l hb;rw [if_neg (by simp [IW,hgu,hy])];exact skip (by cases h1;rfl)
     rename_i b hb;have hy:=hyield b hb;split at h1
     ·rename_i hbp
      rw [if_pos (by simp [IW,hgu,hy,hbp])];exact lift _ hA (by simp only [co,h1,IE];exact h2)
     ·rename_i hbp
      rw [if_neg (by simp [IW,hgu,hy,hbp])];exact skip (by cases h1;rfl)
    | many rd hw cw fn =>
     simp only [cM,aU,qC,kw,bu] at hg;unfold cd at hg;have skip:k (ae δ (hw++(cw++aB c.K hw)) (fit ((hw++cw).map (sI c.K o.dst δ)) 0 (hw++cw)))=some r→fg c B X w0 F0 V k r (a.put o.dst undef) w:=by
      intro hg;rw [mL _ _ 0 (by simp),IJ] at hg;simp only [IC,Jc] at hck;refine⟨⟨F,O,_,hI.pass_over hck.1 (fun d hd=>?_),hg⟩,skipV⟩
      have h3:=hck.2;rw [hd] at h3;simp only [eY,decide_eq_true_eq] at h3;exact h3
     split at hg
     case h_3=>cases hg
     case h_2 =>
      rename_i l hb;have hy:=hyT l hb;rw [if_neg (by simp [IW,hgu,hy])];exact skip hg
     rename_i b hb;have hy:=hyield b hb;obtain⟨φ,hφ,hlen⟩:=xc hA (af δ rd);split at hg
     ·rename_i hbp
      rw [if_pos (by simp [IW,hgu,hy,hbp])];refine lift _ hA ?_
      simp only [co];rw [hφ] at hg ⊢;cases hp:φ with
      | none=>rw [hp] at hg;cases hg
      | some l =>
       rw [hp] at hg;have hl:=hlen l hp;simp only [IE] at hg ⊢;rw [mL _ l 0 (by omega),IJ,mL _ l 0 (by omega),IJ] at hg;exact hg
     ·rename_i hbp
      rw [if_neg (by simp [IW,hgu,hy,hbp])];exact skip hg
theorem qf (hT:okT P c.T=true) (hS:∀f S,bR c.S f=some S→ay c.G P f S) {ops:Array Oper} {V:Nat→Value} {Q:Exit→Act→World→Prop} {k:List D→Option Out} {r:Out} (hQ:∀a w,fg c B X w0 F0 V k r a w→Q .normal a w) :
  ∀(l:List Oper),(∀o∈l,Bc c ops.toList o=true)→∀(F:Nat→Prop) (O:Nat→Option (Nat × Nat)) (a:Act) (w:World) (δ:List D),Inv c B X w0 F0 F O a w δ→IoV c V a→eV c ops.toList l δ k=some r→wpList P ops Q l a w
 | [],_,F,O,a,w,δ,hI,hV,hg=>hQ a w ⟨⟨F,O,δ,hI,hg⟩,hV⟩
 | o::l,hok,F,O,a,w,δ,hI,hV,hg=>by
  simp only [eV] at hg;have h:=qA hT hS (hok o (by simp)) hI hV hg Q;have ih:∀a w,fg c B X w0 F0 V (fun δ'=>eV c ops.toList l δ' k) r a w→wpList P ops Q l a w:=by
   rintro a w ⟨⟨F',O',δ',hI',hk'⟩,hV'⟩;exact qf hT hS hQ l (fun o' ho'=>hok o' (by simp [ho'])) F' O' a w δ' hI' hV' hk'
  unfold wpList;split
  ·rename_i hw
   rw [if_pos hw] at h;exact .inl (JO ih h)
  ·rename_i hw
   rw [if_neg hw] at h;exact ih _ _ h
end
end Go.V

namespace Go.V
open Go.RowKit
set_option maxRecDepth 100000
def nM (x y:List Nat):Bool:=x.all fun s=>!iO s y
def AL (c:Cx) (ops:List Oper) (x y:Oper):Bool:=nM (rdS c ops x) (wrS c y)&&nM (wrS c x) (rdS c ops y)&&nM (wrS c x) (wrS c y)
def xH (c:Cx) (x y:Oper):Bool :=
 match x.guard,y.guard,x.op,x.dst,y.op,y.dst with
 | none,none,.move (.tmp t),some d,.store _ (.tmp q) (.tmp s),none =>
  (match ah c.K t,ah c.K d,ah c.K q,ah c.K s with
   | .own _ _ _,.via r,.ref r',.dat _=>IH r t&&IH r' t && !IH q t&&nM (d::eu d c.K 0) [q,t,s]
   | _,_,_,_=>false)
 | _,_,_,_,_,_=>false
def Dm (c:Cx) (x y:Oper):Bool :=
 match x.guard,y.guard,x.op,y.op,y.dst with
 | none,none,.call q,.move (.tmp t),some d =>
  (match ah c.K t,ah c.K d,q.callee with
   | .box _ _ _,.ref r',.value (.func f)=>(match bR c.S f with
    | some S=>(match ij c.K q.args.toList S.pm with
     | some ags=>IH r' t&&iO t (de ags)
     | none=>false)
    | none=>false)
   | _,_,_=>false)
 | _,_,_,_,_=>false
def Bd (c:Cx) (ops:List Oper) (x y:Oper):Bool:=Dm c x y&&nM (rdS c ops x) (wrS c y)&&nM (wrS c x) (wrS c y)
def xt (c:Cx) (ops:List Oper) (x y:Oper):Bool:=AL c ops x y||xH c x y||xH c y x||Bd c ops x y
def bef (ops:List Oper) (j:Nat):Nat→Oper→Bool
 | 0,_=>false
 | n+1,o=>o.after.toList.any fun e=>Jd .any e&&(IH e.on j||match zS ops e.on with
  | some q=>bef ops j n q
  | none=>false)
def Cb (c:Cx) (ops:List Oper):Bool :=
 ops.zipIdx.all fun p=>(p.1.after.toList.all fun e=>!Jd .any e||decide (e.on<p.2))&&(ops.take p.2).zipIdx.all fun q=>xt c ops q.1 p.1||bef ops q.2 3 p.1
def gR (K:List Kd) (hl:List Nat):Bool :=
 hl.all fun s=>match ah K s with
  | .via r=>iO r hl
  | .ref r=>iO r hl
  | _=>true
def cg (c:Cx):Nat→Code→Bool
 | _,.skip=>true
 | _,.region _ ops d=>ops.toList.all (Bc c ops.toList)&&(!d||Cb c ops.toList)
 | b,.seq x y=>cg c b x&&cg c b y
 | b,.cond x t e=>Nat.ble (cI c.K x) 2&&cg c b t&&cg c b e
 | _,.block id x=>cg c id x
 | b,.loop x=>cg c b x&&(match bR c.H b with
  | some (hl,xl)=>gR c.K hl&&gR c.K xl
  | none=>false)
 | _,.exit _=>true
 | _,.ret=>true
 | _,_=>false
section
variable {P:Program} {c:Cx} {B:Nat} {X:Nat→Prop} {w0:World} {F0 F:Nat→Prop} {O:Nat→Option (Nat × Nat)} {a:Act} {w:World} {δ:List D}
def yG (c:Cx) (δ:List D) (k:Out→Option Out):Option Out:=ki c δ c.res fun rs=>lM δ c.ios fun us=>usK us (k (.ret rs us))
def xI (c:Cx) (B:Nat) (X:Nat→Prop) (w0:World) (F0:Nat→Prop) (V:Nat→Value) (k:Out→Option Out) (r:Out):Exit→Act→World→Prop
 | .normal,a,w=>fg c B X w0 F0 V (fun δ=>k (.nrm δ)) r a w
 | .exit id,a,w=>fg c B X w0 F0 V (fun δ=>k (.ext id δ)) r a w
 | .ret,a,w=>fg c B X w0 F0 V (fun δ=>yG c δ k) r a w
 | _,_,_=>False
theorem kb {x y:List Nat} (h:nM x y=true):∀s∈x,s∉y:=by
 intro s hs;unfold nM at h;rw [Jc] at h;simpa [eY] using h s hs
theorem Fl {δ δ':List D} (h:δ.length=δ'.length) (hn:∀s,nth δ s=nth δ' s):δ=δ':=by
 refine List.ext_getElem h fun i h1 h2=>?_
 have:=hn i;rw [dA,dA,Iz,Iz,Ja h1,Ja h2] at this;exact this
theorem mM:∀(ss:List Nat) (l δ δ':List D),δ.length=δ'.length→∀s∈ss,nth (ae δ ss l) s=nth (ae δ' ss l) s
 | t::ss,l,δ,δ',hl,s,hs=>by
  cases l with
  | nil=>rw [iE _ _ _ hs,iE _ _ _ hs]
  | cons d l =>
   simp only [ae];by_cases hm:s∈ss
   ·exact mM ss l _ _ (by rw [ed,ed,hl]) s hm
   ·have:s=t:=by simpa [hm] using hs
    subst this;rw [am _ _ _ _ hm,am _ _ _ _ hm,aV,aV,hl]
theorem mZ {A C:List Nat} {l m δ:List D} (h:∀s∈A,s∉C):ae (ae δ A l) C m=ae (ae δ C m) A l:=by
 refine Fl (by simp only [bV]) fun s=>?_
 by_cases hA:s∈A
 ·rw [am _ _ _ _ (h s hA)]
  exact mM A l _ _ (by rw [bV]) s hA
 ·by_cases hC:s∈C
  ·rw [am A _ _ _ hA]
   exact(mM C m _ _ (by rw [bV]) s hC)
  ·rw [am _ _ _ _ hC,am _ _ _ _ hA,am _ _ _ _ hA,am _ _ _ _ hC]
theorem ye {n:Nat} {o p x z:D} (h:stD n o p x=some z):o ≠ .bad∧z ≠ .bad:=by
 unfold stD at h;split at h
 ·split at h
  ·split at h
   ·cases h;exact⟨by simp,by simp⟩
   ·cases h
  ·cases h
 ·split at h
  ·cases h;exact⟨by simp,by simp⟩
  ·cases h
 ·cases h
theorem ur (chk:Bool) (n:Nat) (b p y:D):∃E:Option D,(∀k:D→Option Out,stK chk n b p y k=E.bind k)∧∀z,E=some z→b ≠ .bad∧z ≠ .bad:=by
 cases chk
 ·exact⟨stD n b p y,fun _=>rfl,fun z hz=>ye hz⟩
 ·refine⟨(bE y).bind fun y=>stD n b p y,fun k=>by simp only [stK,Jf],fun z hz=>?_⟩
  obtain⟨y',_,h⟩:=Ix.1 hz;exact ye h
theorem BG {ops:List Oper} {x y:Oper} (h:xH c x y=true) (δ:List D) (k:List D→Option Out):cB c ops x δ (fun δ=>cB c ops y δ k)=cB c ops y δ (fun δ=>cB c ops x δ k):=by
 unfold xH at h;split at h
 case h_2=>cases h
 rename_i t d ty q s hxg hyg hxo hxd hyo hyd;split at h
 case h_2=>cases h
 rename_i z lv io r0 r lv' hkt hkd hkq hks;simp only [IC,IX] at h;obtain⟨⟨⟨h1,h2⟩,h3⟩,h4⟩:=h;have e1:=az.1 h1;have e2:=az.1 h2;subst e1;subst e2;have hx:∀(δ:List D) (k:List D→Option Out),cB c ops x δ k=(ab (nth δ r) (.ref 0 0)).bind fun z=>k (ae δ (d::eu d c.K 0) [z]):=by
  intro δ k;have hA:bC c x=some (.one [r] d fun is=>(dT fun x=>ab x (.ref 0 0)) is):=by
   simp only [bC,hxo,hxd,yn,hkt,hkd,Jw]
  simp only [cB,hA,hxg];rw [aU];show(ab (nth δ r) (.ref 0 0)).bind (fun z=>bW δ (d::eu d c.K 0) [z] k)=_
  exact congrArg _ (funext fun z=>bu _ _ _ _)
 have hy:∃E:D→D→D→Option D,(∀(δ:List D) (k:List D→Option Out),cB c ops y δ k=(E (nth δ r) (nth δ q) (nth δ s)).bind fun b=>k (ae δ [r] [b]))∧∀a b e z,E a b e=some z→a ≠ .bad∧z ≠ .bad:=by
  cases hT:bR c.T ty with
  | none =>
   refine⟨fun _ _ _=>none,fun δ k=>?_,fun _ _ _ _ h=>by cases h⟩
   have hA:bC c y=none:=by simp only [bC,hyo,hyd,dw,hT]
   simp only [cB,hA];rfl
  | some i =>
   have act:∀chk:Bool,bC c y=some (.many [q,r,s] [] [r] fun is k=>goP q r is fun b p is=>cU is 0 fun y=>stK chk i.n b p y fun b=>k [b]) →
     ∃E:D→D→D→Option D,(∀(δ:List D) (k:List D→Option Out),cB c ops y δ k=(E (nth δ r) (nth δ q) (nth δ s)).bind fun b=>k (ae δ [r] [b]))∧∀a b e z,E a b e=some z→a ≠ .bad∧z ≠ .bad:=by
    intro chk hA;refine⟨fun a b e=>Jk (ur chk i.n a b e),fun δ k=>?_,fun a b e z h=>(Jh (ur chk i.n a b e)).2 z h⟩
    simp only [cB,hA,hyg];rw [aU];simp only [goP,h3,af];show stK chk i.n (nth δ r) (nth δ q) (nth δ s) (fun b=>bW δ [r] [b] k)=_
    rw [(Jh (ur chk i.n (nth δ r) (nth δ q) (nth δ s))).1];exact congrArg _ (funext fun b=>bu _ _ _ _)
   have hst:bC c y=yZ c i q r (dj c.K r) (.tmp s):=by
    simp only [bC,hyo,hyd,dw,hT,DU,hkq]
   unfold yZ at hst;simp only [hks] at hst;split at hst
   ·exact act false (by rw [hst];simp only [rdP,h3])
   ·exact act true (by rw [hst];simp only [rdP,h3])
   ·refine⟨fun _ _ _=>none,fun δ k=>?_,fun _ _ _ _ h=>by cases h⟩
    simp only [cB,hst];rfl
 obtain⟨E,hE,hEl⟩:=hy;have ap:=fun s hs=>kb h4 s hs
 have hnq:∀m:List D,∀v∈[q,r,s],nth (ae δ (d::eu d c.K 0) m) v=nth δ v:=fun m v hv=>am _ _ _ _ fun hm=>ap v hm hv
 simp only [hx,hE,hnq _ q (by simp),hnq _ r (by simp),hnq _ s (by simp)];cases hb:E (nth δ r) (nth δ q) (nth δ s) with
 | none=>cases ab (nth δ r) (.ref 0 0)<;>rfl
 | some b =>
  obtain⟨g1,g2⟩:=hEl _ _ _ _ hb;have hlive:∀a:D,a ≠ .bad→ab a (.ref 0 0)=some (.ref 0 0):=fun a ha=>by cases a<;>first | exact absurd rfl ha | rfl
  have hr:nth (ae δ [r] [b]) r=b:=by
   simp only [ae];rw [aV,if_pos];by_cases hl:r<δ.length
   ·exact hl
   ·exfalso
    rw [dA,Iz,II (by omega)] at g1;exact g1 rfl
  simp only [hlive _ g1,hr,hlive _ g2,IE];rw [mZ (A:=d::eu d c.K 0) (C:=[r])];intro v hv hv';exact ap v hv (by simp at hv';simp [hv'])
theorem AH {ops:List Oper} {x y:Oper} (h:AL c ops x y=true) (δ:List D) (k:List D→Option Out):cB c ops x δ (fun δ=>cB c ops y δ k)=cB c ops y δ (fun δ=>cB c ops x δ k):=by
 unfold AL at h;simp only [IC] at h;obtain⟨⟨h1,h2⟩,h3⟩:=h;obtain⟨φ,hφ,hφr⟩:=pg c ops x;obtain⟨ψ,hψ,hψr⟩:=pg c ops y;have e1:∀l,ψ (ae δ (wrS c x) l)=ψ δ:=fun l=>hψr _ _ (jX fun s hs=>am _ _ _ _ fun hm=>kb h2 s hm hs)
 have e2:∀l,φ (ae δ (wrS c y) l)=φ δ:=fun l=>hφr _ _ (jX fun s hs=>am _ _ _ _ (kb h1 s hs))
 simp only [hφ,hψ,e1,e2];cases φ δ with
 | none=>cases ψ δ<;>rfl
 | some l =>
  cases ψ δ with
  | none=>rfl
  | some m =>
   simp only [IE];rw [mZ (kb h3)]
theorem oW {δ:List D}:∀(ags:List Ag) (ds:List D),bJ ags (af δ (dW ags))=some ds→∀t∈de ags,nth δ t ≠ .bad
 | [],_,_,t,ht=>by simp [de] at ht
 | .d x chk::l,ds,h,t,ht=>by
  have ih:=oW (δ:=δ) l;simp only [de] at ht;cases x with
  | tmp u =>
   simp only [af] at h;cases chk
   ·simp only [bJ] at h
    obtain⟨z,hz,_⟩:=Iy.1 h;exact ih z hz t ht
   ·simp only [bJ] at h
    obtain⟨i,_,h⟩:=Ix.1 h;obtain⟨z,hz,_⟩:=Iy.1 h;exact ih z hz t ht
  | const v =>
   simp only [bJ] at h;obtain⟨z,hz,_⟩:=Iy.1 h;exact ih z hz t ht
  | func f =>
   simp only [bJ] at h;obtain⟨z,hz,_⟩:=Iy.1 h;exact ih z hz t ht
  | global g=>simp [bJ] at h
 | .bor u r::l,ds,h,t,ht=>by
  have ih:=oW (δ:=δ) l;simp only [de] at ht;cases hb:IH u r
  ·simp only [dW,hb,af,bJ] at h
   obtain⟨i,_,h⟩:=Ix.1 h;obtain⟨z,hz,_⟩:=Iy.1 h;exact ih z hz t ht
  ·simp only [dW,hb,af,bJ] at h
   obtain⟨z,hz,_⟩:=Iy.1 h;exact ih z hz t ht
 | .io u r::l,ds,h,t,ht=>by
  have ih:=oW (δ:=δ) l;simp only [de,IG] at ht;have lv:∀x y z:D,ab x y=some z→x ≠ .bad:=fun x y z hz e=>by subst e;cases hz
  cases hb:IH u r
  ·simp only [dW,hb,af,bJ] at h
   obtain⟨i,hi,h⟩:=Ix.1 h;obtain⟨i',hi',h⟩:=Ix.1 h;obtain⟨z,hz,_⟩:=Iy.1 h;have e:i=nth δ r:=by
    unfold dB at hi;split at hi
    ·exact(JR hi).symm
    ·cases hi
   rcases ht with rfl | ht
   ·rw [←e];exact lv _ _ _ hi'
   ·exact ih z hz t ht
  ·simp only [dW,hb,af,bJ] at h
   obtain⟨i',hi',h⟩:=Ix.1 h;obtain⟨z,hz,_⟩:=Iy.1 h;have e:=az.1 hb;rcases ht with rfl | ht
   ·rw [←e];exact lv _ _ _ hi'
   ·exact ih z hz t ht
theorem Gh {ops:List Oper} {x y:Oper} (h:Bd c ops x y=true) (δ:List D) (k:List D→Option Out) (r:Out) (hs:cB c ops x δ (fun δ=>cB c ops y δ k)=some r):cB c ops y δ (fun δ=>cB c ops x δ k)=some r:=by
 unfold Bd at h;simp only [IC] at h;obtain⟨⟨h1,h2⟩,h3⟩:=h;unfold Dm at h1;split at h1
 case h_2=>cases h1
 rename_i q t d hxg hyg hxo hyo hyd;split at h1
 case h_2=>cases h1
 rename_i n lv io r' f hkt hkd hqc;split at h1
 case h_2=>cases h1
 rename_i S hS;split at h1
 case h_2=>cases h1
 rename_i ags hags;simp only [IC] at h1;obtain⟨h4,h5⟩:=h1;have e4:=az.1 h4;subst e4;have hyA:bC c y=some (.one [r'] d fun is=>(dT fun x=>ab x (.ref 0 0)) is):=by
  simp only [bC,hyo,hyd,yn,hkt,hkd,Jw]
 have hw:wrS c y=d::eu d c.K 0:=by
  unfold wrS;rw [hyA]
 have hy:∀(δ:List D) (k:List D→Option Out),cB c ops y δ k=(ab (nth δ r') (.ref 0 0)).bind fun z=>k (ae δ (d::eu d c.K 0) [z]):=by
  intro δ k;simp only [cB,hyA,hyg];rw [aU];show(ab (nth δ r') (.ref 0 0)).bind (fun z=>bW δ (d::eu d c.K 0) [z] k)=_
  exact congrArg _ (funext fun z=>bu _ _ _ _)
 have live:∀(δ:List D) (K:List D→Option Out) (r:Out),cB c ops x δ K=some r→nth δ r' ≠ .bad:=by
  intro δ K r hr;have hm:r'∈de ags:=by simpa [eY] using h5
  have fin:∀K':List D→Option Out,fE [] ags (af δ (dW ags)) K'=some r→nth δ r' ≠ .bad:=by
   intro K' h;rw [fY] at h;obtain⟨ds,hds,_⟩:=Ix.1 h;exact oW ags ds hds r' hm
  have hA:bC c x=Cn c x.dst q:=by simp only [bC,hxo]
  have hcl:∀A,bC c x=some A→qs c x.dst S q.args.toList=some A:=by
   intro A h;rw [hA] at h;unfold Cn at h;rw [hqc] at h;simp only [hS] at h;exact h
  cases hAc:bC c x with
  | none=>simp only [cB,hAc] at hr;cases hr
  | some A =>
   have hA2:=hcl A hAc;unfold qs at hA2;simp only [hags] at hA2;simp only [cB,hAc,hxg] at hr
   repeat' split at hA2
   all_goals first
    | (cases hA2;done)
    | (cases hA2;simp only [aU] at hr;exact fin _ hr)
    | skip
 have l1:=live δ _ r hs;obtain⟨φ,hφ,hφr⟩:=pg c ops x;rw [hw] at h2 h3;have e2:∀l,φ (ae δ (d::eu d c.K 0) l)=φ δ:=fun l=>hφr _ _ (jX fun s hs=>am _ _ _ _ (kb h2 s hs))
 have hlive:∀a:D,a ≠ .bad→ab a (.ref 0 0)=some (.ref 0 0):=fun a ha=>by cases a<;>first | exact absurd rfl ha | rfl
 simp only [hφ,hy,e2] at hs ⊢;rw [hlive _ l1];cases hp:φ δ with
 | none=>rw [hp] at hs;cases hs
 | some l =>
  rw [hp] at hs;simp only [IE] at hs ⊢;obtain⟨z,hz,hk⟩:=Ix.1 hs;have ez:z = .ref 0 0:=by
   unfold ab at hz;split at hz
   ·cases hz
   ·exact(JR hz).symm
  subst ez;rw [mZ (kb h3)] at hk;exact hk
theorem CZ {ops:List Oper} {x y:Oper} (h:xt c ops x y=true) (δ:List D) (k:List D→Option Out) (r:Out) (hs:cB c ops x δ (fun δ=>cB c ops y δ k)=some r):cB c ops y δ (fun δ=>cB c ops x δ k)=some r:=by
 unfold xt at h;simp only [Jm] at h;rcases h with ((h | h) | h) | h
 ·exact(AH h δ k).symm.trans hs
 ·exact(BG h δ k).symm.trans hs
 ·exact(BG h δ k).trans hs
 ·exact Gh h δ k r hs
theorem CI {ops:List Oper} {o:Oper} {k k':List D→Option Out} {δ:List D} {r:Out} (hk:∀δ,k δ=some r→k' δ=some r) (h:cB c ops o δ k=some r):cB c ops o δ k'=some r:=by
 obtain⟨φ,hφ,_⟩:=pg c ops o;rw [hφ] at h ⊢;obtain⟨l,hl,h⟩:=Ix.1 h;rw [hl];exact hk _ h
theorem qL {ops:List Oper} {o:Oper} {k:List D→Option Out} {r:Out}:∀(pre post:List Oper) (δ:List D),(∀q∈pre,xt c ops q o=true)→eV c ops (pre++o::post) δ k=some r→cB c ops o δ (fun δ=>eV c ops (pre++post) δ k)=some r
 | [],post,δ,_,h=>h
 | q::pre,post,δ,h,hr=>by
  simp only [Js,eV] at hr ⊢;exact CZ (h q (by simp)) δ _ r (CI (fun δ' h'=>qL pre post δ' (fun q' hq'=>h q' (by simp [hq'])) h') hr)
def left (ops:List Oper) (listed:Array Bool):List Oper:=(ops.zipIdx.filter fun p=>!listed.getD p.2 true).map (·.1)
theorem Inv.drawn (h:Inv c B X w0 F0 F O a w δ) (n:Nat):Inv c B X w0 F0 F O a {w with drawn:=n} δ :=
 h.step (w':={w with drawn:=n}) (fun _=>False) rfl rfl rfl (fun _ _=>⟨rfl,.inl rfl⟩) (fun _ hb=>hb) (fun _ _=>rfl) (fun _ _ hp _=>⟨hp,rfl⟩) (fun _ _ _ hv hb=>⟨rfl,(h.root hv hb).2⟩) (fun _ hf=>hf.elim) h.fl h.ol (fun _ hb=>.inl hb) (JP _) rfl rfl rfl (fun _ _ _=>rfl)
theorem vn {l:List Oper} {i:Nat} {o:Oper} (h:l[i]?=some o):l.zipIdx=(l.take i).zipIdx++(o,i)::(l.drop (i+1)).zipIdx (i+1):=by
 have hi:i<l.length:=(IY.1 h).1;have e:l=l.take i++(o::l.drop (i+1)):=by
  have h1:l[i]=o:=(IY.1 h).2
  conv=>lhs;rw [←JI i l,Jl hi,h1]
 conv=>lhs;rw [e]
 rw [List.zipIdx_append,List.zipIdx_cons];have:(l.take i).length=i:=by rw [JD];omega
 simp [this]
theorem vm {l:List Oper} {listed:Array Bool} {i:Nat} {o:Oper} (h:l[i]?=some o) (hn:listed.getD i true=false) (hsz:i<listed.size) :
  left l listed=(((l.take i).zipIdx.filter fun p=>!listed.getD p.2 true).map (·.1))++o::((((l.drop (i+1)).zipIdx (i+1)).filter fun p=>!listed.getD p.2 true).map (·.1)) ∧
  left l (listed.setIfInBounds i true)=(((l.take i).zipIdx.filter fun p=>!listed.getD p.2 true).map (·.1))++((((l.drop (i+1)).zipIdx (i+1)).filter fun p=>!listed.getD p.2 true).map (·.1)):=by
 have hne:∀j,j≠i→(listed.setIfInBounds i true).getD j true=listed.getD j true:=fun j hj=>by
  simp only [IB,Ji,Jz hj,if_false]
 have hi:(listed.setIfInBounds i true).getD i true=true:=by
  simp [IB,hsz]
 unfold left;rw [vn h];simp only [List.filter_append,List.map_append,List.filter_cons,hn,hi,JU,Bool.not_true,if_true,JA,if_false,ID];refine⟨trivial,?_⟩
 congr 2
 ·refine List.filter_congr fun p hp=>?_
  have:=IZ hp;rw [JD] at this;rw [hne p.2 (by omega)]
 ·refine List.filter_congr fun p hp=>?_
  have:=List.le_snd_of_mem_zipIdx hp;rw [hne p.2 (by omega)]
def Cl (ops:Array Oper) (listed:Array Bool):Prop:=∀(m:Nat) (q:Oper),ops[m]?=some q→listed.getD m false=true→∀e∈q.after,Jd .any e=true→listed.getD e.on false=true
theorem uD {ops:Array Oper} {listed:Array Bool} (hc:Cl ops listed) {j:Nat}:∀(n:Nat) (o:Oper),(∀e∈o.after,Jd .any e=true→listed.getD e.on false=true)→bef ops.toList j n o=true→listed.getD j false=true
 | 0,_,_,h=>by simp [bef] at h
 | n+1,o,ho,h=>by
  simp only [bef,List.any_eq_true,IC,Jm] at h;obtain⟨e,he,hb,h⟩:=h;have hl:=ho e (by simpa using he) hb;rcases h with h | h
  ·rw [←az.1 h]
   exact hl
  ·split at h
   ·rename_i q hq
    rw [qY,Jv] at hq;exact uD hc n q (hc e.on q hq hl) h
   ·cases h
theorem uu {listed:Array Bool} {i x:Nat} (h:listed.getD x false=true):(listed.setIfInBounds i true).getD x false=true:=by
 rw [IB] at h ⊢;rw [Ji];split
 ·split<;>rename_i h1 h2
  ·rfl
  ·subst h1
   rw [Array.getElem?_eq_none (by omega)] at h;cases h
 ·exact h
theorem Hp {ops:Array Oper} {listed:Array Bool} (hc:Cl ops listed) {i:Nat} {o:Oper} (ho:ops[i]?=some o) (hed:∀e∈o.after,Jd .any e=true→listed.getD e.on false=true):Cl ops (listed.setIfInBounds i true):=by
 intro m q hq hm e he hb;by_cases hmi:m=i
 ·subst hmi
  rw [ho] at hq;cases hq;exact uu (hed e he hb)
 ·refine uu (hc m q hq ?_ e he hb)
  rw [IB,Ji,if_neg (fun e=>hmi e.symm)] at hm;rw [IB];exact hm
theorem vg (hT:okT P c.T=true) (hS:∀f S,bR c.S f=some S→ay c.G P f S) {ops:Array Oper} (hany:Cb c ops.toList=true) {V:Nat→Value} {Q:Exit→Act→World→Prop} {k:List D→Option Out} {r:Out} (hQ:∀a w,fg c B X w0 F0 V k r a w→Q .normal a w)
  (hok:∀o∈ops.toList,Bc c ops.toList o=true) (hI:Inv c B X w0 F0 F O a w δ) (hV:IoV c V a) (hg:eV c ops.toList ops.toList δ k=some r):wpAny P .any ops Q ops.size (JS ops.size false) a {w with drawn:=w.drawn+1}:=by
 have hedge:∀(i:Nat) (o:Oper),ops[i]?=some o→(∀e∈o.after,Jd .any e=true→e.on<i)∧∀(j:Nat) (q:Oper),j<i→ops[j]?=some q→bef ops.toList j 3 o=true∨xt c ops.toList q o=true:=by
  intro i o ho;have h0:=hany;unfold Cb at h0;rw [Jc] at h0;have hl:ops.toList[i]?=some o:=by simpa using ho
  have h1:=h0 (o,i) (by rw [vn hl];simp);simp only [IC,Jm,IX,decide_eq_true_eq,Jc] at h1;refine⟨fun e he hb=>(h1.1 e (by simpa using he)).resolve_left (by rw [hb];simp),fun j q hj hq=>?_⟩
  have hq':(ops.toList.take i)[j]?=some q:=by
   rw [JE hj];simpa using hq
  exact(h1.2 (q,j) (by rw [vn hq'];simp)).symm
 have main:∀(fuel:Nat) (listed:Array Bool) (F:Nat→Prop) (O:Nat→Option (Nat × Nat)) (a:Act) (w:World) (δ:List D),listed.size=ops.size→Cl ops listed→(left ops.toList listed).length≤fuel→Inv c B X w0 F0 F O a w δ→IoV c V a →
   eV c ops.toList (left ops.toList listed) δ k=some r→wpAny P .any ops Q fuel listed a w:=by
  intro fuel;have ready_mem:∀(listed:Array Bool) (i:Nat),i∈Jo .any ops listed→∃o,ops[i]?=some o∧listed.getD i true=false∧∀e∈o.after,Jd .any e=true→listed.getD e.on false=true:=by
   intro listed i hi;unfold Jo at hi;rw [JH] at hi;obtain⟨hr,hi⟩:=hi;simp only [IC,IX] at hi;cases ho:ops[i]? with
   | none=>rw [ho] at hi;simp at hi
   | some o =>
    rw [ho] at hi;simp only [JT,JF,Jt,Jm,IX] at hi;exact⟨o,rfl,hi.1,fun e he hb=>(hi.2 e he).resolve_left (by rw [hb];simp)⟩
  have empty:∀(listed:Array Bool),listed.size=ops.size→Jo .any ops listed=[]→left ops.toList listed=[]:=by
   intro listed hsz hr;have all:∀i,i<ops.size→listed.getD i true=true:=by
    intro i;induction i using Nat.strongRecOn with
    | _ i ih =>
     intro hi;cases hl:listed.getD i true with
     | true=>rfl
     | false =>
      exfalso;have ho:ops[i]?=some ops[i]:=IL hi;have hmem:i∈Jo .any ops listed:=by
       unfold Jo;rw [JH];refine⟨List.mem_range.2 hi,?_⟩
       rw [hl,ho];simp only [JU,Bool.true_and,JT,JF,Jt,Jm];intro e he;cases hb:Jd .any e
       ·exact .inl rfl
       right
       have h1:=(hedge i _ ho).1 e he hb;have h2:=ih e.on h1 (by omega);have h3:e.on<listed.size:=by omega
       rw [IB,IL h3] at h2 ⊢;exact h2
      rw [hr] at hmem;cases hmem
   unfold left;rw [List.map_eq_nil_iff,List.filter_eq_nil_iff];rintro⟨o,i⟩ hp;have hi:=IZ hp;simp only [IX,Bool.not_eq_false];exact all i (by simpa using hi)
  induction fuel with
  | zero =>
   intro listed F O a w δ hsz hcl hl hI hV hg;have h0:left ops.toList listed=[]:=Jy (by omega);rw [h0] at hg;refine⟨?_,hQ a w ⟨⟨F,O,δ,hI,hg⟩,hV⟩⟩
   cases hr:Jo .any ops listed with
   | nil=>rfl
   | cons i rest =>
    exfalso;obtain⟨o,ho,hn,_⟩:=ready_mem listed i (by rw [hr];simp);have hi:i<ops.size:=(IV.1 ho).1;have:=(vm (l:=ops.toList) (by simpa using ho) hn (by omega)).1;rw [h0] at this;simp at this
  | succ fuel ihf =>
   intro listed F O a w δ hsz hcl hl hI hV hg;refine⟨fun hr=>?_,fun i hi=>?_⟩
   ·rw [empty listed hsz hr] at hg
    exact hQ a w ⟨⟨F,O,δ,hI,hg⟩,hV⟩
   ·obtain⟨o,ho,hn,hed⟩:=ready_mem listed i hi
    have hilt:i<ops.size:=(IV.1 ho).1;obtain⟨e1,e2⟩:=vm (l:=ops.toList) (by simpa using ho) hn (by omega);rw [e1] at hg hl;have hfront:∀q∈(((ops.toList.take i).zipIdx.filter fun p=>!listed.getD p.2 true).map (·.1)),xt c ops.toList q o=true:=by
     intro q hq
     ·simp only [List.mem_map,JH] at hq
      obtain⟨⟨q',j⟩,⟨hm1,hm2⟩,rfl⟩:=hq;have hj:=IZ hm1;rw [JD] at hj;have hget:ops[j]?=some q':=by
       have:=List.mem_zipIdx_iff_getElem?.1 hm1;simp only at this;rw [JE (by omega)] at this;simpa using this
      rcases(hedge i o ho).2 j q' (by omega) hget with hbf | h
      ·exfalso
       have h3:=uD hcl 3 o hed hbf;simp only [IX] at hm2;have hjlt:j<listed.size:=by omega
       rw [IB,IL hjlt] at h3 hm2;simp only [JF] at h3 hm2;rw [h3] at hm2;cases hm2
      ·exact h
    ·replace hg:=qL _ _ _ hfront hg
     rw [←e2] at hg;have h:=qA hT hS (ops:=ops) (hok o (by simpa using Array.mem_of_getElem? ho)) hI hV hg Q;have ih:∀a w,fg c B X w0 F0 V (fun δ'=>eV c ops.toList (left ops.toList (listed.setIfInBounds i true)) δ' k) r a w→wpAny P .any ops Q fuel (listed.setIfInBounds i true) a w:=by
      rintro a w ⟨⟨F',O',δ',hI',hk'⟩,hV'⟩;exact ihf _ F' O' a w δ' (by simpa using hsz) (Hp hcl ho hed) (by rw [e2];simp only [List.length_append,Jr] at hl ⊢;omega) hI' hV' hk'
     unfold wpOp;rw [ho];simp only;split
     ·rename_i hw
      rw [if_pos hw] at h;exact .inl (JO ih h)
     ·rename_i hw
      rw [if_neg hw] at h;exact ih _ _ h
 have hleft:left ops.toList (JS ops.size false)=ops.toList:=by
  unfold left;rw [List.filter_eq_self.2]
  ·simp
  ·rintro⟨o,i⟩ hp
   have hi:=IZ hp;have hi':i<ops.size:=by simpa using hi
   simp [IB,hi']
 refine main ops.size _ F O a _ δ (by simp) (fun m q _ hm=>?_) ?_ (hI.drawn _) hV ?_
 ·rw [IB,Array.getElem?_replicate] at hm
  split at hm<;>cases hm
 ·rw [hleft];simp
 ·rw [hleft];exact hg
theorem wV (hT:okT P c.T=true) (hS:∀f S,bR c.S f=some S→ay c.G P f S) {ops:Array Oper} (hany:Cb c ops.toList=true) (hm:P.follows .mixedOrders=true) {V:Nat→Value} {Q:Exit→Act→World→Prop} {k:List D→Option Out} {r:Out} (hQ:∀a w,fg c B X w0 F0 V k r a w→Q .normal a w)
  (hok:∀o∈ops.toList,Bc c ops.toList o=true) (hI:Inv c B X w0 F0 F O a w δ) (hV:IoV c V a) (hg:eV c ops.toList ops.toList δ k=some r) (id:Nat):(Code.region id ops true).wp P Q a w:=wp_region_any hm (vg hT hS hany hQ hok hI hV hg)
theorem iG:∀(l:List ResultVar) (δ:List D) (k:List D→Option Out),ki c δ l k=(ki c δ l fun rs=>some (.nrm rs)).bind fun o=>match o with
  | .nrm rs=>k rs
  | _=>none
 | [],δ,k=>rfl
 | .tmp t::l,δ,k=>by
  simp only [ki,cM];rw [iG l δ fun rs=>k (nth δ t::rs),iG l δ fun rs=>some (.nrm (nth δ t::rs))];cases h:ki c δ l fun rs=>some (.nrm rs) with
  | none=>rfl
  | some o=>cases o<;>rfl
 | .cell s t::l,δ,k=>by
  simp only [ki];split
  ·rename_i i _
   simp only [cM];cases mQ i.agg i.n 0 (nth δ s) with
   | none=>rfl
   | some y =>
    simp only [IE];rw [iG l δ fun rs=>k (y::rs),iG l δ fun rs=>some (.nrm (y::rs))];cases h:ki c δ l fun rs=>some (.nrm rs) with
    | none=>rfl
    | some o=>cases o<;>rfl
  ·rfl
theorem qB:∀{us:List D} {o:Option Out} {r:Out},usK us o=some r↔(∀u∈us,u ≠ .bad)∧o=some r
 | [],o,r=>by simp [usK]
 | u::us,o,r=>by
  simp only [usK,Ix,IG,forall_eq_or_imp];constructor
  ·rintro⟨y,h1,h2⟩
   obtain⟨h3,h4⟩:=qB.1 h2;exact⟨⟨(aS h1).1,h3⟩,h4⟩
  ·rintro⟨⟨h1,h2⟩,h3⟩
   refine⟨u,?_,qB.2 ⟨h2,h3⟩⟩
   cases u<;>first | rfl | exact absurd rfl h1
theorem dY {δ:List D} {k:Out→Option Out} {r:Out} (h:yG c δ k=some r):∃rs,ki c δ c.res (fun rs=>some (.nrm rs))=some (.nrm rs)∧(∀u∈af δ c.ios,u ≠ .bad)∧k (.ret rs (af δ c.ios))=some r:=by
 unfold yG at h;simp only [aU] at h;rw [iG] at h;cases hh:ki c δ c.res fun rs=>some (.nrm rs) with
 | none=>rw [hh] at h;cases h
 | some o =>
  rw [hh] at h;cases o with
  | nrm rs =>
   simp only [IE] at h;obtain⟨h1,h2⟩:=qB.1 h;exact⟨rs,rfl,h1,h2⟩
  | ext i δ=>cases h
  | ret x y=>cases h
theorem pi {δ:List D} {k:Out→Option Out} {r:Out} {rs:List D} (h1:ki c δ c.res (fun rs=>some (.nrm rs))=some (.nrm rs)) (h2:∀u∈af δ c.ios,u ≠ .bad) (hk:k (.ret rs (af δ c.ios))=some r):yG c δ k=some r:=by
 unfold yG;simp only [aU];rw [iG,h1];simp only [IE];exact qB.2 ⟨h2,hk⟩
def carry (n:Nat) (hl:List Nat) (δ:List D):List D:=ae (vp n) hl (af δ hl)
theorem rj:∀n,vp n=List.replicate n .bad
 | 0=>rfl
 | n+1=>by simp [vp,rj n,List.replicate_succ]
theorem DG (n s:Nat):nth (vp n) s = .bad:=by
 rw [dA,rj,Iz,List.getElem?_replicate];split<;>rfl
theorem gp (n:Nat) (hl:List Nat) (δ:List D) (k:List D→Option Out):eC n hl (af δ hl) k=k (carry n hl δ):=by
 unfold eC carry;rw [bu,mL _ _ 0 (by rw [kZ];omega),IJ]
theorem kB (δ:List D):∀(l:List Nat),af δ l=l.map (nth δ)
 | []=>rfl
 | _::l=>by simp [af,kB δ l]
theorem rX {hl:List Nat} {δ:List D} (s:Nat):nth (carry δ.length hl δ) s=if s∈hl then nth δ s else .bad:=by
 unfold carry;rw [kB,lD];have hlen:(vp δ.length).length=δ.length:=by rw [rj];simp
 rw [hlen,DG];split
 ·split
  ·rfl
  ·rename_i h
   by_cases hb:nth δ s = .bad
   ·exact hb.symm
   ·exact absurd (AQ hb) h
 ·rfl
theorem Inv.carry (h:Inv c B X w0 F0 F O a w δ) {hl:List Nat} (hk:gR c.K hl=true):Inv c B X w0 F0 F O a w (carry (fQ c.K) hl δ):=by
 have e:fQ c.K=δ.length:=by rw [iY,h.ld]
 rw [e];refine h.forget ?_ (fun s=>?_) (fun s r hv hb=>?_)
 ·unfold V.carry;rw [bV,rj];simp
 ·rw [rX]
  split
  ·exact .inl rfl
  ·exact .inr rfl
 ·rw [rX] at hb
  split at hb
  case isFalse=>exact absurd rfl hb
  rename_i hs;unfold gR at hk;rw [Jc] at hk;have hks:=hk s hs;have hr:r∈hl:=by
   rcases hv with e | e<;>rw [e] at hks<;>simpa [eY] using hks
  rw [rX,if_pos hr];exact(h.root hv hb).2
theorem ex {V:Nat→Value} {k k':List D→Option Out} {r r':Out} (h:fg c B X w0 F0 V k r a w) (hk:∀δ F O,Inv c B X w0 F0 F O a w δ→k δ=some r→k' δ=some r'):fg c B X w0 F0 V k' r' a w:=by
 obtain⟨⟨F,O,δ,h1,h2⟩,h3⟩:=h;exact⟨⟨F,O,δ,h1,hk δ F O h1 h2⟩,h3⟩
theorem ta {V:Nat→Value} {b:Code} {bid:Nat} {hl xl:List Nat} (h1:gR c.K hl=true) (h2:gR c.K xl=true)
  (ih:∀(F:Nat→Prop) (O:Nat→Option (Nat × Nat)) (a:Act) (w:World) (δ:List D),Inv c B X w0 F0 F O a w δ→IoV c V a→∀(k:Out→Option Out) (r:Out),den c bid b δ k=some r→∀Q,(∀e a w,xI c B X w0 F0 V k r e a w→Q e a w)→b.wp P Q a w)
  {k:Out→Option Out} {r:Out} {Q:Exit→Act→World→Prop} (hQ:∀e a w,xI c B X w0 F0 V k r e a w→Q e a w) {o:Out}
  (ho:outK o (fun i s=>eC (fQ c.K) xl s fun δ=>k (.ext i δ)) (fun x y=>k (.ret x y))=some r):∀(n:Nat) (F:Nat→Prop) (O:Nat→Option (Nat × Nat)) (a:Act) (w:World) (δ:List D),Inv c B X w0 F0 F O a w δ→IoV c V a →
  iter (fun s=>eC (fQ c.K) hl s fun δ=>den c bid b δ (aY hl xl)) n (af δ hl)=some o→Code.rounds P b Q n a w
 | 0,_,_,_,_,_,_,_,h=>by cases h
 | n+1,F,O,a,w,δ,hI,hV,h=>by
  simp only [iter,gp] at h;rw [rounds_succ];have hI':=hI.carry h1;cases hb:den c bid b (carry (fQ c.K) hl δ) (aY hl xl) with
  | none=>rw [hb] at h;cases h
  | some ob =>
   rw [hb] at h;refine ih F O a w _ hI' hV _ ob hb _ (fun e a' w' hp=>?_)
   cases ob with
   | nrm s' =>
    simp only at h;cases e with
    | normal =>
     obtain⟨⟨F',O',δ',g1,g2⟩,g3⟩:=hp;simp only [aY,aU,IF,Out.nrm.injEq] at g2;rw [←g2] at h;exact ta h1 h2 ih hQ ho n F' O' a' w' δ' g1 g3 h
    | exit i =>
     obtain⟨⟨F',O',δ',g1,g2⟩,g3⟩:=hp;simp [aY,aU] at g2
    | ret =>
     obtain⟨⟨F',O',δ',g1,g2⟩,g3⟩:=hp;obtain⟨rs,_,_,g4⟩:=dY g2;simp [aY] at g4
    | _=>exact hp.elim
   | ext i l =>
    simp only [IF] at h;subst h;cases e with
    | normal =>
     obtain⟨⟨F',O',δ',g1,g2⟩,g3⟩:=hp;simp [aY,aU] at g2
    | exit j =>
     obtain⟨⟨F',O',δ',g1,g2⟩,g3⟩:=hp;simp only [aY,aU,IF,Out.ext.injEq] at g2;obtain⟨rfl,rfl⟩:=g2;simp only [outK,gp] at ho;exact hQ (.exit j) _ _ ⟨⟨F',O',_,g1.carry h2,ho⟩,g3⟩
    | ret =>
     obtain⟨⟨F',O',δ',g1,g2⟩,g3⟩:=hp;obtain⟨rs,_,_,g4⟩:=dY g2;simp [aY] at g4
    | _=>exact hp.elim
   | ret x y =>
    simp only [IF] at h;subst h;cases e with
    | normal =>
     obtain⟨⟨F',O',δ',g1,g2⟩,g3⟩:=hp;simp [aY,aU] at g2
    | exit j =>
     obtain⟨⟨F',O',δ',g1,g2⟩,g3⟩:=hp;simp [aY,aU] at g2
    | ret =>
     obtain⟨⟨F',O',δ',g1,g2⟩,g3⟩:=hp;obtain⟨rs,g5,g6,g4⟩:=dY g2;simp only [aY,IF,Out.ret.injEq] at g4;obtain⟨rfl,rfl⟩:=g4;exact hQ .ret _ _ ⟨⟨F',O',δ',g1,pi g5 g6 ho⟩,g3⟩
    | _=>exact hp.elim
theorem fB (hT:okT P c.T=true) (hS:∀f S,bR c.S f=some S→ay c.G P f S) (hm:P.follows .mixedOrders=true) {V:Nat→Value}:∀(b:Code) (bid:Nat),cg c bid b=true→∀(F:Nat→Prop) (O:Nat→Option (Nat × Nat)) (a:Act) (w:World) (δ:List D),
  Inv c B X w0 F0 F O a w δ→IoV c V a→∀(k:Out→Option Out) (r:Out),den c bid b δ k=some r→∀Q,(∀e a w,xI c B X w0 F0 V k r e a w→Q e a w)→b.wp P Q a w
 | .skip,bid,_,F,O,a,w,δ,hI,hV,k,r,hg,Q,hQ=>wp_skip (hQ _ _ _ ⟨⟨F,O,δ,hI,hg⟩,hV⟩)
 | .region id ops d,bid,hok,F,O,a,w,δ,hI,hV,k,r,hg,Q,hQ=>by
  simp only [cg,IC,Jc] at hok;have hq:∀a w,fg c B X w0 F0 V (fun δ=>k (.nrm δ)) r a w→Q .normal a w:=fun a w h=>hQ _ _ _ h
  cases d
  ·exact wp_region_list (qf hT hS hq ops.toList hok.1 F O a w δ hI hV hg)
  ·exact wV hT hS (by simpa using hok.2) hm hq hok.1 hI hV hg id
 | .seq x y,bid,hok,F,O,a,w,δ,hI,hV,k,r,hg,Q,hQ=>by
  simp only [cg,IC] at hok;refine wp_seq (fB hT hS hm x bid hok.1 F O a w δ hI hV _ r hg _ (fun e a' w' hp=>?_))
  cases e with
  | normal =>
   obtain⟨⟨F',O',δ',hI',hk'⟩,hV'⟩:=hp;exact fB hT hS hm y bid hok.2 F' O' a' w' δ' hI' hV' k r hk' Q hQ
  | exit id=>exact hQ _ _ _ hp
  | ret=>exact hQ _ _ _ hp
  | _=>exact hp.elim
 | .cond x t e,bid,hok,F,O,a,w,δ,hI,hV,k,r,hg,Q,hQ=>by
  simp only [cg,IC] at hok;obtain⟨⟨hlv,hok1⟩,hok2⟩:=hok;have hop:=hI.opd (aT.1 hlv);have key:ifD (opD δ x) (den c bid t δ k) (den c bid e δ k)=some r:=by
   simp only [den] at hg;cases x with
   | tmp s=>simpa only [opC,cM,opD] using hg
   | const v=>simpa only [opC,opD] using hg
   | func f=>simpa only [opC,opD] using hg
   | global g=>simp [opC] at hg
  unfold ifD at key;split at key
  ·rename_i hd
   rw [hd] at hop;exact wp_cond_true (aK hop).1 (fB hT hS hm t bid hok1 F O a w δ hI hV k r key Q hQ)
  ·rename_i hd
   rw [hd] at hop;exact wp_cond_false (aK hop).1 (fB hT hS hm e bid hok2 F O a w δ hI hV k r key Q hQ)
  ·cases key
 | .block id b,bid,hok,F,O,a,w,δ,hI,hV,k,r,hg,Q,hQ=>by
  simp only [cg] at hok;refine wp_block (fB hT hS hm b id hok F O a w δ hI hV _ r hg _ (fun e a' w' hp=>?_))
  cases e with
  | normal=>exact hQ .normal _ _ hp
  | exit i =>
   simp only [Exit.inBlock];have hp':fg c B X w0 F0 V (fun δ=>tA id (.ext i δ) k) r a' w':=hp;split
   ·rename_i hi
    refine hQ .normal _ _ (ex hp' fun δ F O _ h=>?_)
    simp only [tA] at h;rw [az.2 (by simpa using hi)] at h;exact h
   ·rename_i hi
    refine hQ (.exit i) _ _ (ex hp' fun δ F O _ h=>?_)
    simp only [tA] at h;cases hb:IH i id
    ·rw [hb] at h;exact h
    ·exact absurd (by simpa using az.1 hb) hi
  | ret=>exact hQ .ret _ _ hp
  | _=>exact hp.elim
 | .loop b,bid,hok,F,O,a,w,δ,hI,hV,k,r,hg,Q,hQ=>by
  simp only [cg,IC] at hok;obtain⟨hok1,hok2⟩:=hok;simp only [den] at hg;cases hH:bR c.H bid with
  | none=>rw [hH] at hg;cases hg
  | some hx =>
   obtain⟨hl,xl⟩:=hx;rw [hH] at hg hok2;simp only [IC] at hok2;simp only [aU] at hg;obtain⟨o',h1,h2⟩:=Ix.1 hg;unfold aI at h1;split at h1
   case isFalse=>cases h1
   rename_i hex;refine wp_loop_rounds (Jk hex) ?_
   refine ta (hl:=hl) (xl:=xl) hok2.1 hok2.2 (fun F O a w δ hI hV k r hg Q hQ=>fB hT hS hm b bid hok1 F O a w δ hI hV k r hg Q hQ) hQ h2 _ F O a w δ hI hV h1
 | .exit id,bid,_,F,O,a,w,δ,hI,hV,k,r,hg,Q,hQ=>wp_exit (hQ _ _ _ ⟨⟨F,O,δ,hI,hg⟩,hV⟩)
 | .ret,bid,_,F,O,a,w,δ,hI,hV,k,r,hg,Q,hQ=>wp_ret (hQ _ _ _ ⟨⟨F,O,δ,hI,hg⟩,hV⟩)
 | .label _,_,hok,_,_,_,_,_,_,_,_,_,_,_,_=>by simp [cg] at hok
 | .goto _,_,hok,_,_,_,_,_,_,_,_,_,_,_,_=>by simp [cg] at hok
 | .scope _,_,hok,_,_,_,_,_,_,_,_,_,_,_,_=>by simp [cg] at hok
end
end Go.V

end
